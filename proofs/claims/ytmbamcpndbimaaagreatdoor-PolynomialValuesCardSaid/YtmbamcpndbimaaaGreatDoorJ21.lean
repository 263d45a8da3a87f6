/- slices.Equal of two lists of numbers that read alike. -/
import Derived.Test.YtmbamcpndbimaaaGreatDoorJ5
import Derived.Test.YtmbamcpndbimaaaGreatDoorJ6
import Derived.Test.YtmbamcpndbimaaaGreatDoorJ17
import Derived.Test.YtmbamcpndbimaaaGreatDoorJ20
import Derived.Test.YtmbamcpndbimaaaGreatDoorJ9
import Derived.Test.YtmbamcpndbimaaaGreatDoorJ10
import Derived.Test.YtmbamcpndbimaaaGreatDoorJ16
namespace Go.Proofs.YtmbamcpndbimaaaGreatDoor
open Go.RowKit Go.Shelf
set_option maxRecDepth 100000 in
set_option maxHeartbeats 2000000 in
theorem sameZs_any (n : Nat) (f : Nat → Int) (pa pb : Option Addr) (ca cb : Nat) (w : World) (hA : RowF w pa n f) (hB : RowF w pb n f) (hn : n < 1000000000000) :
  Calls Tryz.prog 11 #[.slice pa n ca, .slice pb n cb] w fun e w' => e = .returned (.bool true) ∧ Below w.heap.size w w' := by
 have HA := lhd hA
 have HB := lhd hB
 clear hA hB
 go_enter Tryz.func11, Tryz.ntmps11
 go_wp2
 go_loopw [13] (fun i wr => ∃ k : Nat, k ≤ n ∧ i = .int .i64 k ∧ Hid (Below w.heap.size w wr)) (fun i _ => n - (intOf i).toNat)
 case atStart => exact ⟨0, by omega, rfl, lhd (Below.refl _ _)⟩
 case round =>
  obtain ⟨k, hk, rfl, Hd⟩ := hrel
  by_cases hlt : k < n
  ·obtain ⟨ab, ao, rfl, hab, hca⟩ := RowF.cells (HA.out.below (Nat.le_refl _) Hd.out) hlt
   obtain ⟨bb, bo, rfl, hbb, hcb⟩ := RowF.cells (HB.out.below (Nat.le_refl _) Hd.out) hlt
   obtain ⟨a1, a2⟩ := hca k hlt
   obtain ⟨b1, b2⟩ := hcb k hlt
   obtain ⟨x, hx⟩ : ∃ x, canon (f k) = x := ⟨_, rfl⟩
   rw [hx] at a1 a2 b1 b2
   have i0 : (0 : Int) ≤ (k : Int) := by omega
   have i1 : (k : Int) < (n : Int) := by omega
   clear hca hcb hx
   go_wp2_with fail
   go_quiet (fail)
   go_wp2
   go_roundw
   case rel => exact ⟨k + 1, by omega, by go_num, lhd (below_dr Hd.out)⟩
   case measure => simp [intOf]; omega
  ·have i1 : ¬ (k : Int) < (n : Int) := by omega
   go_wp2
   go_ret
   exact ⟨rfl, Hd.out⟩
open Go.RowKit Go.Shelf
theorem ymax3c {P : Program} (ts : Array TypeId) (t : TypeId) (w : World) : (Builtin.max_ ts t #[.int .i64 0, .int .i64 0, .int .i64 0]).run P w = .ok (.int .i64 0) w := by rfl
def lz (L : List Int) (i : Nat) : Int := L.getD i 0
theorem lz_small {L : List Int} {e : Nat} (h : ∀ x, x ∈ L → x.natAbs ≤ 2 ^ e) (k : Nat) : Bn (lz L k) e := by
 unfold Bn lz
 rw [List.getD_eq_getElem?_getD]
 cases hk : L[k]? with
 | none => simp
 | some x => exact h x (List.mem_of_getElem? hk)
theorem val_lz (L : List Int) : (fun k => valZ (canon (lz L k))) = lz L := funext fun _ => valZ_canon _
theorem canon_lz_size {L : List Int} (h : ∀ x, x ∈ L → x.natAbs ≤ 2 ^ 10) (k : Nat) : (canon (lz L k)).mag.size ≤ 1000000 := (lz_small h k).size _ (by omega)
theorem of_lit (V : World) (L : List Int) (cs : Array Value) (n : Nat) (hcs : cs.toList = L.map (Value.int .i64)) (hn : L.length = n) (hn2 : n ≤ 1000) (hL : ∀ x, x ∈ L → -1000 ≤ x ∧ x ≤ 1000) :
  Calls Tryz.prog 15 #[.slice (some ⟨V.heap.size, 0, none⟩) n n] (V.alloc (.cells cs 3)) fun e w' => ∃ q cap, e = .returned (.slice q n cap) ∧ RowF w' q n (lz L) ∧ Below V.heap.size V w' := by
 have hb := (Below.refl V.heap.size V).alloc (Nat.le_refl _) (.cells cs 3)
 refine (ofL_any n (lz L) (some ⟨V.heap.size, 0, none⟩) n hn2 (fun i hi => ?_) _ (.inr ⟨V.heap.size, 0, rfl, by simp, fun i hi j hj => ?_⟩)).mono ?_
 ·have h1 : L[i]? = some (L[i]'(by omega)) := List.getElem?_eq_getElem (by omega)
  have : lz L i = L[i]'(by omega) := by unfold lz; rw [List.getD_eq_getElem?_getD, h1]; rfl
  rw [this]
  exact hL _ (List.getElem_mem _)
 ·obtain rfl : j = 0 := by omega
  rw [World.cell?_alloc_new]
  have h1 : L[i]? = some (L[i]'(by omega)) := List.getElem?_eq_getElem (by omega)
  rw [show (0 : Nat) + i * 1 + 0 = i from by omega, ← Array.getElem?_toList, hcs, List.getElem?_map, h1]
  simp [lz, List.getD_eq_getElem?_getD, h1]
 ·rintro e w' ⟨q, cap, rfl, hr, hb2⟩
  exact ⟨q, cap, rfl, hr, hb.trans (hb2.mono hb.size)⟩
theorem ex_div (W : World) (p q : Option Addr) (c d : Nat) (hA : RowF W p 4 (lz [1, -2, 0, 1])) (hB : RowF W q 2 (lz [-1, 1])) :
  Calls Tryz.prog 14 #[.slice p 4 c, .slice q 2 d] W fun e w' => ∃ q c p d, e = .returned (.tuple #[.slice q 3 c, .slice p 0 d, .int .i64 0]) ∧ RowF w' q 3 (lz [-1, 1, 1]) ∧ Below W.heap.size W w' := by
 have h := pDivide_any 4 2 (fun k => canon (lz [1, -2, 0, 1] k)) (fun k => canon (lz [-1, 1] k)) p q c d (e := 10) (by decide) (by decide) (fun k _ => Nat.le_trans (canon_lz_size (by decide) k) (by decide)) (fun k _ => Nat.le_trans (canon_lz_size (by decide) k) (by decide))
  (fun k => by rw [valZ_canon]; exact lz_small (by decide) k) (fun k => by rw [valZ_canon]; exact lz_small (by decide) k) (by decide) W hA hB (lz [1, -2, 0, 1]) (lz [-1, 1]) (val_lz _) (val_lz _) 4 2 (by decide +kernel) (by decide +kernel)
 rw [show dvCode 4 2 = 0 from rfl, if_pos rfl, if_pos rfl, show dvLQ (lz [1, -2, 0, 1]) (lz [-1, 1]) 4 2 = 3 from by decide +kernel, show dvLR (lz [1, -2, 0, 1]) (lz [-1, 1]) 4 2 = 0 from by decide +kernel] at h
 refine h.mono ?_
 rintro e w' ⟨q, c, p, d, rfl, h1, _, h2⟩
 exact ⟨q, c, p, d, rfl, h1.congr (by decide +kernel), h2⟩
theorem ex_gcd (W : World) (p q : Option Addr) (c d : Nat) (hA : RowF W p 3 (lz [-2, 0, 2])) (hB : RowF W q 2 (lz [-3, 3])) :
  Calls Tryz.prog 16 #[.slice p 3 c, .slice q 2 d] W fun e w' => ∃ q c, e = .returned (.tuple #[.slice q 2 c, .int .i64 0]) ∧ RowF w' q 2 (lz [-1, 1]) ∧ Below W.heap.size W w' := by
 have h := pGcd_any 3 2 (fun k => canon (lz [-2, 0, 2] k)) (fun k => canon (lz [-3, 3] k)) p q c d (e := 10) (K := 1000) (by decide) (by decide) (fun k _ => Nat.le_trans (canon_lz_size (by decide) k) (by decide)) (fun k _ => Nat.le_trans (canon_lz_size (by decide) k) (by decide))
  (fun k => by rw [valZ_canon]; exact lz_small (by decide) k) (fun k => by rw [valZ_canon]; exact lz_small (by decide) k) W hA hB (lz [-2, 0, 2]) (lz [-3, 3]) (val_lz _) (val_lz _) 3 2 (by decide +kernel) (by decide +kernel) (by decide) (fun _ _ => by unfold gcB; decide)
 rw [show gcCode 3 2 = 0 from rfl, if_pos rfl, show (gcR (lz [-2, 0, 2]) (lz [-3, 3]) 3 2).1 = 2 from by decide +kernel] at h
 refine h.mono ?_
 rintro e w' ⟨q, c, rfl, h1, h2⟩
 exact ⟨q, c, rfl, h1.congr (by decide +kernel), h2⟩
theorem ex_sqf (W : World) (p : Option Addr) (c : Nat) (hA : RowF W p 4 (lz [0, 0, -4, 4])) :
  Calls Tryz.prog 9 #[.slice p 4 c] W fun e w' => ∃ q c, e = .returned (.tuple #[.slice q 3 c, .int .i64 0]) ∧ RowF w' q 3 (lz [0, -1, 1]) ∧ Below W.heap.size W w' := by
 have h := pSquare_any 4 (fun k => canon (lz [0, 0, -4, 4] k)) p c (e := 10) (K := 10000) (by decide) (fun k _ => Nat.le_trans (canon_lz_size (by decide) k) (by decide))
  (fun k => by rw [valZ_canon]; exact lz_small (by decide) k) (by decide) W hA (lz [0, 0, -4, 4]) (val_lz _) 4 (by decide +kernel) (by decide) (fun _ => by unfold gcB; decide) (fun _ => by decide)
 rw [show sqCode 4 = 0 from rfl, if_pos rfl, show sqN (lz [0, 0, -4, 4]) 4 = 3 from by decide +kernel] at h
 refine h.mono ?_
 rintro e w' ⟨q, c, rfl, h1, h2⟩
 exact ⟨q, c, rfl, h1.congr (by decide +kernel), h2⟩
theorem ex_txt : polL (lz [1, -2, 0, 1]) 4 = [120, 94, 51, 32, 45, 32, 50, 42, 120, 32, 43, 32, 49] := by
 have h3 : Lib.decDigits 3 = [51] := by rw [Lib.decDigits, dif_pos (by decide)]; rfl
 have d : desL (lz [1, -2, 0, 1]) 4 0 = [(3, 1), (2, 0), (1, -2), (0, 1)] := by decide +kernel
 have t3 : termL 3 1 = [120, 94, 51] := by unfold termL powL; rw [if_neg (by decide), if_pos rfl, if_neg (by decide), h3]; rfl
 have t1 : termL 1 2 = [50, 42, 120] := by decide +kernel
 have t0 : termL 0 1 = [49] := by decide +kernel
 unfold polL accP
 rw [d]
 simp [prStep, t3, t1, t0]
theorem ex_prt (W : World) (p : Option Addr) (c : Nat) (hA : RowF W p 4 (lz [1, -2, 0, 1])) :
  Calls Tryz.prog 17 #[.slice p 4 c] W fun e w' => e = .returned (.string ⟨#[120, 94, 51, 32, 45, 32, 50, 42, 120, 32, 43, 32, 49]⟩) ∧ Below W.heap.size W w' := by
 have h := pPrint_any 4 (fun k => canon (lz [1, -2, 0, 1] k)) p c (by decide) (fun k _ => canon_lz_size (by decide) k) W hA (lz [1, -2, 0, 1]) (val_lz _)
 rw [show dgN (lz [1, -2, 0, 1]) 4 = 4 from by decide +kernel, ex_txt] at h
 exact h
set_option maxRecDepth 100000 in
set_option maxHeartbeats 8000000 in
theorem awake_any (w : World) : Calls Tryz.prog 6 #[] w (RetB true w) := by
 have HDv := lhd (fun W p q c d hA hB => ex_div W p q c d hA hB)
 have HGc := lhd (fun W p q c d hA hB => ex_gcd W p q c d hA hB)
 have HSq := lhd (fun W p c hA => ex_sqf W p c hA)
 have HPr := lhd (fun W p c hA => ex_prt W p c hA)
 have hmax := @ymax3c Tryz.prog
 have Hb : Hid (Below w.heap.size w w) := lhd (Below.refl _ _)
 go_enter Tryz.func6, Tryz.ntmps6
 go_wp2_with fail
 refine (of_lit _ [1, -2, 0, 1] _ 4 rfl rfl (by decide) (by decide)).mono ?_
 rintro e y1 ⟨pa, cpa, rfl, hpa, hbc⟩
 dsimp only
 have b_1 := lhd (Hb.out.trans (hbc.mono Hb.out.size))
 clear Hb
 have pa_1 := lhd (hpa)
 go_wp2_with fail
 refine (of_lit _ [-1, 1] _ 2 rfl rfl (by decide) (by decide)).mono ?_
 rintro e y2 ⟨pb, cpb, rfl, hpb, hbc⟩
 dsimp only
 have b_2 := lhd (b_1.out.trans (hbc.mono b_1.out.size))
 have pa_2 := lhd (pa_1.out.below (Nat.le_refl _) hbc)
 clear b_1 pa_1
 have pb_2 := lhd (hpb)
 go_wp2_with fail
 refine (HDv.out _ _ _ _ _ pa_2.out pb_2.out).mono ?_
 rintro e y3 ⟨dq, cdq, dr, cdr, rfl, hdq, hbc⟩
 dsimp only
 have b_3 := lhd (b_2.out.trans (hbc.mono b_2.out.size))
 clear b_2 pa_2 pb_2
 have dq_3 := lhd (hdq)
 go_wp2_with fail
 refine (of_lit _ [-2, 0, 2] _ 3 rfl rfl (by decide) (by decide)).mono ?_
 rintro e y4 ⟨pc, cpc, rfl, hpc, hbc⟩
 dsimp only
 have b_4 := lhd (b_3.out.trans (hbc.mono b_3.out.size))
 have dq_4 := lhd (dq_3.out.below (Nat.le_refl _) hbc)
 clear b_3 dq_3
 have pc_4 := lhd (hpc)
 go_wp2_with fail
 refine (of_lit _ [-3, 3] _ 2 rfl rfl (by decide) (by decide)).mono ?_
 rintro e y5 ⟨pd, cpd, rfl, hpd, hbc⟩
 dsimp only
 have b_5 := lhd (b_4.out.trans (hbc.mono b_4.out.size))
 have dq_5 := lhd (dq_4.out.below (Nat.le_refl _) hbc)
 have pc_5 := lhd (pc_4.out.below (Nat.le_refl _) hbc)
 clear b_4 dq_4 pc_4
 have pd_5 := lhd (hpd)
 go_wp2_with fail
 refine (HGc.out _ _ _ _ _ pc_5.out pd_5.out).mono ?_
 rintro e y6 ⟨gq, cgq, rfl, hgq, hbc⟩
 dsimp only
 have b_6 := lhd (b_5.out.trans (hbc.mono b_5.out.size))
 have dq_6 := lhd (dq_5.out.below (Nat.le_refl _) hbc)
 clear b_5 dq_5 pc_5 pd_5
 have gq_6 := lhd (hgq)
 go_wp2_with fail
 refine (of_lit _ [0, 0, -4, 4] _ 4 rfl rfl (by decide) (by decide)).mono ?_
 rintro e y7 ⟨pe, cpe, rfl, hpe, hbc⟩
 dsimp only
 have b_7 := lhd (b_6.out.trans (hbc.mono b_6.out.size))
 have dq_7 := lhd (dq_6.out.below (Nat.le_refl _) hbc)
 have gq_7 := lhd (gq_6.out.below (Nat.le_refl _) hbc)
 clear b_6 dq_6 gq_6
 have pe_7 := lhd (hpe)
 go_wp2_with fail
 refine (HSq.out _ _ _ pe_7.out).mono ?_
 rintro e y8 ⟨sq, csq, rfl, hsq, hbc⟩
 dsimp only
 have b_8 := lhd (b_7.out.trans (hbc.mono b_7.out.size))
 have dq_8 := lhd (dq_7.out.below (Nat.le_refl _) hbc)
 have gq_8 := lhd (gq_7.out.below (Nat.le_refl _) hbc)
 clear b_7 dq_7 gq_7 pe_7
 have sq_8 := lhd (hsq)
 go_wp2_with fail
 refine (of_lit _ [-1, 1, 1] _ 3 rfl rfl (by decide) (by decide)).mono ?_
 rintro e y9 ⟨p1, cp1, rfl, hp1, hbc⟩
 dsimp only
 have b_9 := lhd (b_8.out.trans (hbc.mono b_8.out.size))
 have dq_9 := lhd (dq_8.out.below (Nat.le_refl _) hbc)
 have gq_9 := lhd (gq_8.out.below (Nat.le_refl _) hbc)
 have sq_9 := lhd (sq_8.out.below (Nat.le_refl _) hbc)
 clear b_8 dq_8 gq_8 sq_8
 have p1_9 := lhd (hp1)
 go_wp2_with fail
 refine (sameZs_any 3 _ _ _ _ _ _ dq_9.out p1_9.out (by decide)).mono ?_
 rintro e y10 ⟨rfl, hbc⟩
 dsimp only
 have b_10 := lhd (b_9.out.trans (hbc.mono b_9.out.size))
 have gq_10 := lhd (gq_9.out.below (Nat.le_refl _) hbc)
 have sq_10 := lhd (sq_9.out.below (Nat.le_refl _) hbc)
 clear b_9 dq_9 gq_9 sq_9 p1_9
 go_wp2_with fail
 refine (of_lit _ [-1, 1] _ 2 rfl rfl (by decide) (by decide)).mono ?_
 rintro e y11 ⟨p2, cp2, rfl, hp2, hbc⟩
 dsimp only
 have b_11 := lhd (b_10.out.trans (hbc.mono b_10.out.size))
 have gq_11 := lhd (gq_10.out.below (Nat.le_refl _) hbc)
 have sq_11 := lhd (sq_10.out.below (Nat.le_refl _) hbc)
 clear b_10 gq_10 sq_10
 have p2_11 := lhd (hp2)
 go_wp2_with fail
 refine (sameZs_any 2 _ _ _ _ _ _ gq_11.out p2_11.out (by decide)).mono ?_
 rintro e y12 ⟨rfl, hbc⟩
 dsimp only
 have b_12 := lhd (b_11.out.trans (hbc.mono b_11.out.size))
 have sq_12 := lhd (sq_11.out.below (Nat.le_refl _) hbc)
 clear b_11 gq_11 sq_11 p2_11
 go_wp2_with fail
 refine (of_lit _ [0, -1, 1] _ 3 rfl rfl (by decide) (by decide)).mono ?_
 rintro e y13 ⟨p3, cp3, rfl, hp3, hbc⟩
 dsimp only
 have b_13 := lhd (b_12.out.trans (hbc.mono b_12.out.size))
 have sq_13 := lhd (sq_12.out.below (Nat.le_refl _) hbc)
 clear b_12 sq_12
 have p3_13 := lhd (hp3)
 go_wp2_with fail
 refine (sameZs_any 3 _ _ _ _ _ _ sq_13.out p3_13.out (by decide)).mono ?_
 rintro e y14 ⟨rfl, hbc⟩
 dsimp only
 have b_14 := lhd (b_13.out.trans (hbc.mono b_13.out.size))
 clear b_13 sq_13 p3_13
 go_wp2_with fail
 refine (of_lit _ [1, -2, 0, 1] _ 4 rfl rfl (by decide) (by decide)).mono ?_
 rintro e y15 ⟨p4, cp4, rfl, hp4, hbc⟩
 dsimp only
 have b_15 := lhd (b_14.out.trans (hbc.mono b_14.out.size))
 clear b_14
 have p4_15 := lhd (hp4)
 go_wp2_with fail
 refine (HPr.out _ _ _ p4_15.out).mono ?_
 rintro e y16 ⟨rfl, hbc⟩
 dsimp only
 have b_16 := lhd (b_15.out.trans (hbc.mono b_15.out.size))
 clear b_15 p4_15
 go_wp2_with fail
 go_ret
 exact ⟨rfl, b_16.out⟩
def ypol (c : Nat → Int) (m : Nat) (x : Int) : Int := dotN (fun j => c j * x ^ j) m
theorem ypol_succ (c : Nat → Int) (m : Nat) (x : Int) : ypol c (m + 1) x = c 0 + x * ypol (fun j => c (j + 1)) m x := by
 unfold ypol
 induction m with
 | zero => simp [dotN]
 | succ m ih =>
  rw [dotN, ih, dotN, Int.pow_succ]
  grind
theorem ypol_add (c d : Nat → Int) (m : Nat) (x : Int) : ypol (fun j => c j + d j) m x = ypol c m x + ypol d m x := by
 unfold ypol
 rw [← dotN_add]
 exact dotN_congr fun j _ => Int.add_mul ..
theorem ypol_smul (a : Int) (c : Nat → Int) (m : Nat) (x : Int) : ypol (fun j => a * c j) m x = a * ypol c m x := by
 unfold ypol
 rw [← dotN_mul]
 exact dotN_congr fun j _ => Int.mul_assoc ..
theorem ypol_congr {c d : Nat → Int} {m : Nat} (x : Int) (h : ∀ j, j < m → c j = d j) : ypol c m x = ypol d m x := dotN_congr fun j hj => by rw [h j hj]
theorem ypol_more {c : Nat → Int} {m : Nat} (h : c m = 0) (x : Int) : ypol c (m + 1) x = ypol c m x := by
 unfold ypol
 rw [dotN, h, Int.zero_mul, Int.add_zero]
theorem ypol_zero {m : Nat} : ∀ {c : Nat → Int}, (∀ x : Int, 1 ≤ x → ypol c m x = 0) → ∀ j, j < m → c j = 0 := by
 induction m with
 | zero => intro c _ j hj; omega
 | succ m ih =>
  intro c h
  have h0 : c 0 = 0 := by
   have h1 := h ((c 0).natAbs + 1) (by omega)
   rw [ypol_succ] at h1
   refine Int.eq_zero_of_dvd_of_natAbs_lt_natAbs (d := (((c 0).natAbs : Int) + 1)) ?_ (by omega)
   refine ⟨-ypol (fun j => c (j + 1)) m (((c 0).natAbs : Int) + 1), ?_⟩
   rw [Int.mul_neg]
   omega
  have h2 := ih (c := fun j => c (j + 1)) fun x hx => by
   have := h x hx
   rw [ypol_succ, h0, Int.zero_add] at this
   rcases Int.mul_eq_zero.1 this with h | h
   ·omega
   ·exact h
  intro j hj
  cases j with
  | zero => exact h0
  | succ j => exact h2 j (by omega)
theorem ypol_inj {m : Nat} {c d : Nat → Int} (h : ∀ x : Int, 1 ≤ x → ypol c m x = ypol d m x) (j : Nat) (hj : j < m) : c j = d j := by
 have h1 := ypol_zero (c := fun j => c j + -1 * d j) (m := m) (fun x hx => by
  rw [ypol_add c (fun j => -1 * d j), ypol_smul, h x hx]
  omega) j hj
 omega
theorem dotN_split (f : Nat → Int) (n : Nat) : ∀ k, dotN f (n + k) = dotN f n + dotN (fun j => f (n + j)) k
 | 0 => by simp [dotN]
 | k + 1 => by rw [← Nat.add_assoc, dotN, dotN_split f n k, dotN]; omega
theorem ypol_far {c : Nat → Int} {n : Nat} (h : ∀ k, n ≤ k → c k = 0) {m : Nat} (hm : n ≤ m) (x : Int) : ypol c m x = ypol c n x := by
 obtain ⟨d, rfl⟩ : ∃ d, m = n + d := ⟨m - n, by omega⟩
 induction d with
 | zero => rfl
 | succ d ih => rw [← Nat.add_assoc, ypol_more (h _ (by omega)), ih (by omega)]
theorem dotN_one (j : Nat) (b : Int) : ∀ K, j < K → dotN (fun t => if t = j then b else 0) K = b
 | 0, h => by omega
 | K + 1, h => by
  rw [dotN]
  by_cases hj : j < K
  ·rw [dotN_one j b K hj, if_neg (by omega)]; omega
  ·obtain rfl : j = K := by omega
   have : dotN (fun t => if t = j then b else 0) j = 0 := by
    rw [dotN_congr (g := fun _ => 0) fun t ht => if_neg (by omega), dotN_zero]
   rw [this, if_pos rfl]; omega
theorem ypol_shift (a : Int) (g : Nat → Int) (i : Nat) (x : Int) : ∀ (m K : Nat), i + m ≤ K → ypol (fun t => if i ≤ t ∧ t < i + m then a * g (t - i) else 0) K x = a * x ^ i * ypol g m x
 | 0, K, _ => by
  rw [ypol_congr (d := fun _ => 0) x fun t _ => if_neg (by omega)]
  unfold ypol
  rw [dotN_congr (g := fun _ => 0) fun t _ => Int.zero_mul _, dotN_zero]
  simp [dotN]
 | m + 1, K, h => by
  have e : ∀ t, t < K → (if i ≤ t ∧ t < i + (m + 1) then a * g (t - i) else 0) = (if i ≤ t ∧ t < i + m then a * g (t - i) else 0) + (if t = i + m then a * g m else 0) := by
   intro t _
   by_cases h1 : t = i + m
   ·rw [if_pos (by omega), if_neg (by omega), if_pos h1, h1, Nat.add_sub_cancel_left]; omega
   ·by_cases h2 : i ≤ t ∧ t < i + m
    ·rw [if_pos (by omega), if_pos h2, if_neg h1]; omega
    ·rw [if_neg (by omega), if_neg h2, if_neg h1]; omega
  rw [ypol_congr x e, ypol_add, ypol_shift a g i x m K (by omega)]
  have e2 : ypol (fun t => if t = i + m then a * g m else 0) K x = a * g m * x ^ (i + m) := by
   unfold ypol
   rw [dotN_congr (g := fun t => if t = i + m then a * g m * x ^ (i + m) else 0) fun t _ => by
    show (if t = i + m then a * g m else 0) * x ^ t = _
    by_cases h1 : t = i + m
    ·rw [if_pos h1, if_pos h1, h1]
    ·rw [if_neg h1, if_neg h1, Int.zero_mul]]
   exact dotN_one _ _ K (by omega)
  rw [e2]
  show _ = a * x ^ i * dotN _ (m + 1)
  rw [dotN]
  show _ = a * x ^ i * (ypol g m x + g m * x ^ m)
  rw [Int.pow_add]
  grind
theorem ypol_nil (c : Nat → Int) (x : Int) : ypol c 0 x = 0 := rfl
theorem ypol_mR (f g : Nat → Int) (m : Nat) (x : Int) (K : Nat) : ∀ n, (∀ i, i < n → i + m ≤ K) → ypol (mR f g m n) K x = ypol f n x * ypol g m x
 | 0, _ => by
  rw [ypol_nil, Int.zero_mul]
  unfold ypol
  rw [dotN_congr (f := fun j => mR f g m 0 j * x ^ j) (g := fun _ => 0) fun t _ => Int.zero_mul _, dotN_zero]
 | n + 1, h => by
  rw [ypol_congr (c := mR f g m (n + 1)) (d := fun t => mR f g m n t + (if n ≤ t ∧ t < n + m then f n * g (t - n) else 0)) x fun t _ => rfl, ypol_add, ypol_mR f g m x K n fun i hi => h i (by omega), ypol_shift _ _ _ _ _ _ (h n (by omega))]
  show _ = (dotN _ (n + 1)) * _
  rw [dotN]
  show _ = (ypol f n x + f n * x ^ n) * _
  rw [Int.add_mul]
structure IsP (N : Nat) (F : Nat → Int) (e : Int → Int) : Prop where
 top : 0 < N → F (N - 1) ≠ 0
 out : ∀ k, N ≤ k → F k = 0
 ev : ∀ x, ypol F N x = e x
theorem IsP.far {N : Nat} {F : Nat → Int} {e : Int → Int} (h : IsP N F e) {M : Nat} (hM : N ≤ M) (x : Int) : ypol F M x = e x := by rw [ypol_far h.out hM, h.ev]
theorem IsP.unique {N M : Nat} {F G : Nat → Int} {e : Int → Int} (h : IsP N F e) (k : IsP M G e) : N = M ∧ F = G := by
 have hfg : F = G := by
  funext j
  by_cases hj : j < N + M
  ·exact ypol_inj (m := N + M) (fun x _ => by rw [h.far (by omega), k.far (by omega)]) j hj
  ·rw [h.out j (by omega), k.out j (by omega)]
 refine ⟨?_, hfg⟩
 subst hfg
 apply Classical.byContradiction
 intro hne
 rcases Nat.lt_or_ge N M with hl | hl
 ·exact k.top (by omega) (h.out _ (by omega))
 ·exact h.top (by omega) (k.out _ (by omega))
theorem IsP.congr {N : Nat} {F : Nat → Int} {e e' : Int → Int} (h : IsP N F e) (he : ∀ x, e x = e' x) : IsP N F e' := ⟨h.top, h.out, fun x => (h.ev x).trans (he x)⟩
def ctN (f : Nat → Int) (n k : Nat) : Int := if k < n then f k else 0
theorem ypol_cut (f : Nat → Int) (n : Nat) (x : Int) : ypol (ctN f n) n x = ypol f n x := ypol_congr x fun _ hj => if_pos hj
theorem ypol_dg (f : Nat → Int) (n : Nat) (x : Int) : ypol f (dgN f n) x = ypol f n x := by
 have h := dgN_over f n
 have h2 := dgN_le f n
 generalize dgN f n = m at *
 obtain ⟨d, rfl⟩ : ∃ d, n = m + d := ⟨n - m, by omega⟩
 clear h2
 induction d with
 | zero => rfl
 | succ d ih => rw [← Nat.add_assoc, ypol_more (h _ (by omega) (by omega)), ih fun i h1 h2 => h i h1 (by omega)]
theorem IsP.of (f : Nat → Int) (n : Nat) : IsP (dgN f n) (ctN f (dgN f n)) (fun x => ypol f n x) := by
 refine ⟨fun h => ?_, fun k hk => if_neg (by omega), fun x => ?_⟩
 ·unfold ctN
  rw [if_pos (by omega)]
  exact dgN_top f n h
 ·rw [ypol_cut, ypol_dg]
theorem IsP.nil {N : Nat} {F : Nat → Int} {e : Int → Int} (h : IsP N F e) (h0 : N = 0) (x : Int) : e x = 0 := by rw [← h.ev, h0, ypol_nil]
theorem IsP.zero : IsP 0 (fun _ => 0) (fun _ => 0) := ⟨fun h => by omega, fun _ _ => rfl, fun _ => rfl⟩
theorem mR_far (f g : Nat → Int) (m : Nat) : ∀ n t, n + m ≤ t + 1 → (∀ i, i < n → t < i + m → False) → mR f g m n t = 0
 | 0, _, _, _ => rfl
 | n + 1, t, h, h2 => by
  rw [mR, mR_far f g m n t (by omega) (fun i hi => h2 i (by omega)), if_neg]
  ·omega
  ·intro hh; exact h2 n (by omega) hh.2
theorem mR_top (f g : Nat → Int) (m n : Nat) : mR f g (m + 1) (n + 1) (n + m) = f n * g m := by
 rw [mR, if_pos (by omega), Nat.add_sub_cancel_left]
 have : ∀ k, k ≤ n → mR f g (m + 1) k (n + m) = 0 := by
  intro k
  induction k with
  | zero => intro _; rfl
  | succ k ih => intro hk; rw [mR, ih (by omega), if_neg (by omega)]; rfl
 rw [this n (Nat.le_refl _)]; omega
theorem IsP.mul {N M : Nat} {F G : Nat → Int} {e e' : Int → Int} (h : IsP N F e) (k : IsP M G e') (hN : 0 < N) (hM : 0 < M) : IsP (N + M - 1) (mR F G M N) (fun x => e x * e' x) := by
 obtain ⟨n, rfl⟩ : ∃ n, N = n + 1 := ⟨N - 1, by omega⟩
 obtain ⟨m, rfl⟩ : ∃ m, M = m + 1 := ⟨M - 1, by omega⟩
 refine ⟨fun _ => ?_, fun t ht => mR_far F G _ _ t (by omega) (fun i hi h2 => by omega), fun x => ?_⟩
 ·rw [show n + 1 + (m + 1) - 1 - 1 = n + m from by omega, mR_top]
  intro h0
  rcases Int.mul_eq_zero.1 h0 with h1 | h1
  ·exact h.top (by omega) h1
  ·exact k.top (by omega) h1
 ·rw [ypol_mR F G _ x _ _ fun i hi => by omega, h.ev, k.ev]
theorem IsP.mul0 {N M : Nat} {F G : Nat → Int} {e e' : Int → Int} (h : IsP N F e) (k : IsP M G e') (h0 : N = 0 ∨ M = 0) : IsP 0 (fun _ => 0) (fun x => e x * e' x) :=
 ⟨fun h => by omega, fun _ _ => rfl, fun x => by
  rcases h0 with h0 | h0
  ·rw [h.nil h0, Int.zero_mul]; rfl
  ·rw [k.nil h0, Int.mul_zero]; rfl⟩
theorem IsP.deg {N M K : Nat} {F G H : Nat → Int} {e e' : Int → Int} (h : IsP N F e) (k : IsP M G e') (l : IsP K H (fun x => e x * e' x)) : (N = 0 ∨ M = 0 → K = 0) ∧ (0 < N → 0 < M → K = N + M - 1) :=
 ⟨fun h0 => (l.unique (h.mul0 k h0)).1, fun hN hM => (l.unique (h.mul k hN hM)).1⟩
theorem ypol_mono (a : Int) (i K : Nat) (h : i < K) (x : Int) : ypol (fun t => if t = i then a else 0) K x = a * x ^ i := by
 unfold ypol
 rw [dotN_congr (g := fun t => if t = i then a * x ^ i else 0) fun t _ => by
  show (if t = i then a else 0) * x ^ t = _
  by_cases h1 : t = i
  ·rw [if_pos h1, if_pos h1, h1]
  ·rw [if_neg h1, if_neg h1, Int.zero_mul]]
 exact dotN_one _ _ K h
theorem ypol_nought (K : Nat) (x : Int) : ypol (fun _ => 0) K x = 0 := by
 unfold ypol
 rw [dotN_congr (g := fun _ => 0) fun t _ => Int.zero_mul _, dotN_zero]
theorem dvS_ev {f g : Nat → Int} {n m : Nat} (hm : 0 < m) (hnm : m ≤ n) (x : Int) : ∀ j, j ≤ n - m + 1 →
  g (m - 1) ^ j * ypol f n x = ypol (dvS f g n m j).1 (n - m + 1) x * ypol g m x + ypol (dvS f g n m j).2 n x
 | 0, _ => by
  show _ = ypol (fun _ => 0) _ x * _ + ypol f n x
  rw [ypol_nought]
  simp
 | j + 1, hj => by
  have ih := dvS_ev (f := f) (g := g) hm hnm x j (by omega)
  obtain ⟨t, ht⟩ : ∃ t, (dvS f g n m j).2 (n - m - j + m - 1) = t := ⟨_, rfl⟩
  obtain ⟨i, hi⟩ : ∃ i, n - m - j = i := ⟨_, rfl⟩
  obtain ⟨c, hc⟩ : ∃ c, g (m - 1) = c := ⟨_, rfl⟩
  have e1 : ypol (dvS f g n m (j + 1)).1 (n - m + 1) x = c * ypol (dvS f g n m j).1 (n - m + 1) x + t * x ^ i := by
   rw [← ypol_smul, ← ypol_mono t i (n - m + 1) (by omega) x, ← ypol_add]
   refine ypol_congr x fun k _ => ?_
   dsimp only [dvS]
   rw [ht, hi, hc, Int.mul_comm]
  have e2 : ypol (dvS f g n m (j + 1)).2 n x = c * ypol (dvS f g n m j).2 n x + -t * x ^ i * ypol g m x := by
   rw [← ypol_smul, ← ypol_shift (-t) g i x m n (by omega), ← ypol_add]
   refine ypol_congr x fun k _ => ?_
   dsimp only [dvS]
   rw [ht, hi, hc, Int.mul_comm]
   by_cases h : i ≤ k ∧ k < i + m
   ·rw [if_pos h, if_pos h, Int.neg_mul]; omega
   ·rw [if_neg h, if_neg h]; omega
  rw [hc] at ih
  rw [e1, e2, hc, Int.pow_succ, show c ^ j * c * ypol f n x = c * (c ^ j * ypol f n x) from by rw [Int.mul_comm (c ^ j) c, Int.mul_assoc], ih]
  clear e1 e2 ih
  generalize ypol (dvS f g n m j).1 (n - m + 1) x = Q
  generalize ypol (dvS f g n m j).2 n x = R
  generalize ypol g m x = G
  generalize x ^ i = y
  clear ht hc hi
  grind
theorem dv_ev {f g : Nat → Int} {n m : Nat} (hm : 0 < m) (x : Int) :
  g (m - 1) ^ (n + 1 - m) * ypol f n x = ypol (dvQ f g n m) (dvLQ f g n m) x * ypol g m x + ypol (dvR f g n m) (dvLR f g n m) x := by
 unfold dvQ dvLQ dvR dvLR
 by_cases h : n < m
 ·rw [if_pos h, if_pos h, if_pos h, show n + 1 - m = 0 from by omega, ypol_nil]
  simp
 ·rw [if_neg h, if_neg h, if_neg h, ypol_dg, ypol_dg, show n + 1 - m = n - m + 1 from by omega]
  exact dvS_ev hm (by omega) x _ (Nat.le_refl _)
def PF (e : Int → Int) : Prop := ∃ N F, IsP N F e
theorem IsP.pf {N : Nat} {F : Nat → Int} {e : Int → Int} (h : IsP N F e) : PF e := ⟨N, F, h⟩
theorem PF.of (f : Nat → Int) (n : Nat) : PF (fun x => ypol f n x) := (IsP.of f n).pf
theorem PF.congr {e e' : Int → Int} (h : PF e) (he : ∀ x, e x = e' x) : PF e' := by
 obtain ⟨N, F, h⟩ := h; exact ⟨N, F, h.congr he⟩
theorem PF.add {e e' : Int → Int} (h : PF e) (k : PF e') : PF (fun x => e x + e' x) := by
 obtain ⟨N, F, h⟩ := h
 obtain ⟨M, G, k⟩ := k
 refine (PF.of (fun j => F j + G j) (N + M)).congr fun x => ?_
 rw [ypol_add, h.far (by omega), k.far (by omega)]
theorem PF.mul {e e' : Int → Int} (h : PF e) (k : PF e') : PF (fun x => e x * e' x) := by
 obtain ⟨N, F, h⟩ := h
 obtain ⟨M, G, k⟩ := k
 by_cases h0 : N = 0 ∨ M = 0
 ·exact (h.mul0 k h0).pf
 ·exact (h.mul k (by omega) (by omega)).pf
theorem PF.const (c : Int) : PF (fun _ => c) := (PF.of (fun _ => c) 1).congr fun x => by simp [ypol, dotN]
theorem PF.smul (c : Int) {e : Int → Int} (h : PF e) : PF (fun x => c * e x) := (PF.const c).mul h
theorem IsP.smul {N : Nat} {F : Nat → Int} {e : Int → Int} (h : IsP N F e) {c : Int} (hc : c ≠ 0) : IsP N (fun j => c * F j) (fun x => c * e x) :=
 ⟨fun h0 h1 => by
  rcases Int.mul_eq_zero.1 h1 with h2 | h2
  ·exact hc h2
  ·exact h.top h0 h2, fun k hk => by show c * F k = 0; rw [h.out k hk, Int.mul_zero], fun x => by rw [ypol_smul, h.ev]⟩
theorem mul_ne {a b : Int} (ha : a ≠ 0) (hb : b ≠ 0) : a * b ≠ 0 := fun h => by
 rcases Int.mul_eq_zero.1 h with h | h
 ·exact ha h
 ·exact hb h
end Go.Proofs.YtmbamcpndbimaaaGreatDoor
