/- slices.Equal of two lists of numbers that read alike. groovelaw03.awake. -/
import Derived.Test.YteoemijgdcpopaaDoorE8
import Derived.Test.YteoemijgdcpopaaDoorE11
import Derived.Test.YteoemijgdcpopaaDoorE28
import Derived.Test.YteoemijgdcpopaaDoorE32
namespace Go.Proofs.YteoemijgdcpopaaDoor
open Go.RowKit Go.Shelf
set_option maxRecDepth 100000 in
set_option maxHeartbeats 2000000 in
theorem sameZs_any (n : Nat) (f : Nat → Int) (pa pb : Option Addr) (ca cb : Nat) (w : World) (hA : RowF w pa n f) (hB : RowF w pb n f) (hn : n < 1000000000000) :
    Calls Tryd.prog 22 #[.slice pa n ca, .slice pb n cb] w fun e w' => e = .returned (.bool true) ∧ Below w.heap.size w w' := by
  have HA := Lib.hid hA
  have HB := Lib.hid hB
  clear hA hB
  go_enter Tryd.func22, Tryd.ntmps22
  go_wp2
  go_loopw [13] (fun i wr => ∃ k : Nat, k ≤ n ∧ i = .int .i64 k ∧ Hid (Below w.heap.size w wr)) (fun i _ => n - (intOf i).toNat)
  case atStart => exact ⟨0, by omega, rfl, Lib.hid (Below.refl _ _)⟩
  case round =>
    obtain ⟨k, hk, rfl, Hd⟩ := hrel
    by_cases hlt : k < n
    · obtain ⟨ab, ao, rfl, hab, hca⟩ := RowF.cells (HA.out.below (Nat.le_refl _) Hd.out) hlt
      obtain ⟨bb, bo, rfl, hbb, hcb⟩ := RowF.cells (HB.out.below (Nat.le_refl _) Hd.out) hlt
      obtain ⟨a1, a2⟩ := hca k hlt
      obtain ⟨b1, b2⟩ := hcb k hlt
      obtain ⟨x, hx⟩ : ∃ x, canon (f k) = x := ⟨_, rfl⟩
      rw [hx] at a1 a2 b1 b2
      have i0 : (0 : Int) ≤ (k : Int) := by omega
      have i1 : (k : Int) < (n : Int) := by omega
      clear hca hcb hx
      go_wp2_with fail
      go_quiet (fail)
      go_wp2
      go_roundw
      case rel => exact ⟨k + 1, by omega, by go_num, Lib.hid (below_dr Hd.out)⟩
      case measure => simp [intOf]; omega
    · have i1 : ¬ (k : Int) < (n : Int) := by omega
      go_wp2
      go_ret
      exact ⟨rfl, Hd.out⟩
end Go.Proofs.YteoemijgdcpopaaDoor
namespace Go.Proofs.YteoemijgdcpopaaDoor
open Go.RowKit Go.Shelf
theorem ymax3c {P : Program} (ts : Array TypeId) (t : TypeId) (w : World) : (Builtin.max_ ts t #[.int .i64 0, .int .i64 0, .int .i64 0]).run P w = .ok (.int .i64 0) w := by rfl
/-- A list's elements, and 0 behind them. -/
def lz (L : List Int) (i : Nat) : Int := L.getD i 0
theorem lz_small {L : List Int} {e : Nat} (h : ∀ x, x ∈ L → x.natAbs ≤ 2 ^ e) (k : Nat) : Bn (lz L k) e := by
  unfold Bn lz
  rw [List.getD_eq_getElem?_getD]
  cases hk : L[k]? with
  | none => simp
  | some x => exact h x (List.mem_of_getElem? hk)
theorem val_lz (L : List Int) : (fun k => valZ (canon (lz L k))) = lz L := funext fun _ => valZ_canon _
theorem canon_lz_size {L : List Int} (h : ∀ x, x ∈ L → x.natAbs ≤ 2 ^ 10) (k : Nat) : (canon (lz L k)).mag.size ≤ 1000000 := (lz_small h k).size _ (by omega)
theorem of_lit (V : World) (L : List Int) (cs : Array Value) (n : Nat) (hcs : cs.toList = L.map (Value.int .i64)) (hn : L.length = n) (hn2 : n ≤ 1000) (hL : ∀ x, x ∈ L → -1000 ≤ x ∧ x ≤ 1000) :
    Calls Tryd.prog 44 #[.slice (some ⟨V.heap.size, 0, none⟩) n n] (V.alloc (.cells cs 3)) fun e w' => ∃ q cap, e = .returned (.slice q n cap) ∧ RowF w' q n (lz L) ∧ Below V.heap.size V w' := by
  have hb := (Below.refl V.heap.size V).alloc (Nat.le_refl _) (.cells cs 3)
  refine (ofL_any n (lz L) (some ⟨V.heap.size, 0, none⟩) n hn2 (fun i hi => ?_) _ (.inr ⟨V.heap.size, 0, rfl, by simp, fun i hi j hj => ?_⟩)).mono ?_
  · have h1 : L[i]? = some (L[i]'(by omega)) := List.getElem?_eq_getElem (by omega)
    have : lz L i = L[i]'(by omega) := by unfold lz; rw [List.getD_eq_getElem?_getD, h1]; rfl
    rw [this]
    exact hL _ (List.getElem_mem _)
  · obtain rfl : j = 0 := by omega
    rw [World.cell?_alloc_new]
    have h1 : L[i]? = some (L[i]'(by omega)) := List.getElem?_eq_getElem (by omega)
    rw [show (0 : Nat) + i * 1 + 0 = i from by omega, ← Array.getElem?_toList, hcs, List.getElem?_map, h1]
    simp [lz, List.getD_eq_getElem?_getD, h1]
  · rintro e w' ⟨q, cap, rfl, hr, hb2⟩
    exact ⟨q, cap, rfl, hr, hb.trans (hb2.mono hb.size)⟩
theorem ex_div (W : World) (p q : Option Addr) (c d : Nat) (hA : RowF W p 4 (lz [1, -2, 0, 1])) (hB : RowF W q 2 (lz [-1, 1])) :
    Calls Tryd.prog 18 #[.slice p 4 c, .slice q 2 d] W fun e w' => ∃ q c p d, e = .returned (.tuple #[.slice q 3 c, .slice p 0 d, .int .i64 0]) ∧ RowF w' q 3 (lz [-1, 1, 1]) ∧ Below W.heap.size W w' := by
  have h := pDivide_any 4 2 (fun k => canon (lz [1, -2, 0, 1] k)) (fun k => canon (lz [-1, 1] k)) p q c d (e := 10) (by decide) (by decide) (fun k _ => Nat.le_trans (canon_lz_size (by decide) k) (by decide)) (fun k _ => Nat.le_trans (canon_lz_size (by decide) k) (by decide))
    (fun k => by rw [valZ_canon]; exact lz_small (by decide) k) (fun k => by rw [valZ_canon]; exact lz_small (by decide) k) (by decide) W hA hB (lz [1, -2, 0, 1]) (lz [-1, 1]) (val_lz _) (val_lz _) 4 2 (by decide +kernel) (by decide +kernel)
  rw [show dvCode 4 2 = 0 from rfl, if_pos rfl, if_pos rfl, show dvLQ (lz [1, -2, 0, 1]) (lz [-1, 1]) 4 2 = 3 from by decide +kernel, show dvLR (lz [1, -2, 0, 1]) (lz [-1, 1]) 4 2 = 0 from by decide +kernel] at h
  refine h.mono ?_
  rintro e w' ⟨q, c, p, d, rfl, h1, _, h2⟩
  exact ⟨q, c, p, d, rfl, h1.congr (by decide +kernel), h2⟩
theorem ex_gcd (W : World) (p q : Option Addr) (c d : Nat) (hA : RowF W p 3 (lz [-2, 0, 2])) (hB : RowF W q 2 (lz [-3, 3])) :
    Calls Tryd.prog 20 #[.slice p 3 c, .slice q 2 d] W fun e w' => ∃ q c, e = .returned (.tuple #[.slice q 2 c, .int .i64 0]) ∧ RowF w' q 2 (lz [-1, 1]) ∧ Below W.heap.size W w' := by
  have h := pGcd_any 3 2 (fun k => canon (lz [-2, 0, 2] k)) (fun k => canon (lz [-3, 3] k)) p q c d (e := 10) (K := 1000) (by decide) (by decide) (fun k _ => Nat.le_trans (canon_lz_size (by decide) k) (by decide)) (fun k _ => Nat.le_trans (canon_lz_size (by decide) k) (by decide))
    (fun k => by rw [valZ_canon]; exact lz_small (by decide) k) (fun k => by rw [valZ_canon]; exact lz_small (by decide) k) W hA hB (lz [-2, 0, 2]) (lz [-3, 3]) (val_lz _) (val_lz _) 3 2 (by decide +kernel) (by decide +kernel) (by decide) (fun _ _ => by unfold gcB; decide)
  rw [show gcCode 3 2 = 0 from rfl, if_pos rfl, show (gcR (lz [-2, 0, 2]) (lz [-3, 3]) 3 2).1 = 2 from by decide +kernel] at h
  refine h.mono ?_
  rintro e w' ⟨q, c, rfl, h1, h2⟩
  exact ⟨q, c, rfl, h1.congr (by decide +kernel), h2⟩
theorem ex_sqf (W : World) (p : Option Addr) (c : Nat) (hA : RowF W p 4 (lz [0, 0, -4, 4])) :
    Calls Tryd.prog 36 #[.slice p 4 c] W fun e w' => ∃ q c, e = .returned (.tuple #[.slice q 3 c, .int .i64 0]) ∧ RowF w' q 3 (lz [0, -1, 1]) ∧ Below W.heap.size W w' := by
  have h := pSquare_any 4 (fun k => canon (lz [0, 0, -4, 4] k)) p c (e := 10) (K := 10000) (by decide) (fun k _ => Nat.le_trans (canon_lz_size (by decide) k) (by decide))
    (fun k => by rw [valZ_canon]; exact lz_small (by decide) k) (by decide) W hA (lz [0, 0, -4, 4]) (val_lz _) 4 (by decide +kernel) (by decide) (fun _ => by unfold gcB; decide) (fun _ => by decide)
  rw [show sqCode 4 = 0 from rfl, if_pos rfl, show sqN (lz [0, 0, -4, 4]) 4 = 3 from by decide +kernel] at h
  refine h.mono ?_
  rintro e w' ⟨q, c, rfl, h1, h2⟩
  exact ⟨q, c, rfl, h1.congr (by decide +kernel), h2⟩
theorem ex_txt : polL (lz [1, -2, 0, 1]) 4 = [120, 94, 51, 32, 45, 32, 50, 42, 120, 32, 43, 32, 49] := by
  have h3 : Lib.decDigits 3 = [51] := by rw [Lib.decDigits, dif_pos (by decide)]; rfl
  have d : desL (lz [1, -2, 0, 1]) 4 0 = [(3, 1), (2, 0), (1, -2), (0, 1)] := by decide +kernel
  have t3 : termL 3 1 = [120, 94, 51] := by unfold termL powL; rw [if_neg (by decide), if_pos rfl, if_neg (by decide), h3]; rfl
  have t1 : termL 1 2 = [50, 42, 120] := by decide +kernel
  have t0 : termL 0 1 = [49] := by decide +kernel
  unfold polL accP
  rw [d]
  simp [prStep, t3, t1, t0]
theorem ex_prt (W : World) (p : Option Addr) (c : Nat) (hA : RowF W p 4 (lz [1, -2, 0, 1])) :
    Calls Tryd.prog 14 #[.slice p 4 c] W fun e w' => e = .returned (.string ⟨#[120, 94, 51, 32, 45, 32, 50, 42, 120, 32, 43, 32, 49]⟩) ∧ Below W.heap.size W w' := by
  have h := pPrint_any 4 (fun k => canon (lz [1, -2, 0, 1] k)) p c (by decide) (fun k _ => canon_lz_size (by decide) k) W hA (lz [1, -2, 0, 1]) (val_lz _)
  rw [show dgN (lz [1, -2, 0, 1]) 4 = 4 from by decide +kernel, ex_txt] at h
  exact h
set_option maxRecDepth 100000 in
set_option maxHeartbeats 8000000 in
theorem awake_any (w : World) : Calls Tryd.prog 12 #[] w (RetB true w) := by
  have HDv := Lib.hid (fun W p q c d hA hB => ex_div W p q c d hA hB)
  have HGc := Lib.hid (fun W p q c d hA hB => ex_gcd W p q c d hA hB)
  have HSq := Lib.hid (fun W p c hA => ex_sqf W p c hA)
  have HPr := Lib.hid (fun W p c hA => ex_prt W p c hA)
  have hmax := @ymax3c Tryd.prog
  have Hb : Hid (Below w.heap.size w w) := Lib.hid (Below.refl _ _)
  go_enter Tryd.func12, Tryd.ntmps12
  go_wp2_with fail
  refine (of_lit _ [1, -2, 0, 1] _ 4 rfl rfl (by decide) (by decide)).mono ?_
  rintro e y1 ⟨pa, cpa, rfl, hpa, hbc⟩
  dsimp only
  have b_1 := Lib.hid (Hb.out.trans (hbc.mono Hb.out.size))
  clear Hb
  have pa_1 := Lib.hid (hpa)
  go_wp2_with fail
  refine (of_lit _ [-1, 1] _ 2 rfl rfl (by decide) (by decide)).mono ?_
  rintro e y2 ⟨pb, cpb, rfl, hpb, hbc⟩
  dsimp only
  have b_2 := Lib.hid (b_1.out.trans (hbc.mono b_1.out.size))
  have pa_2 := Lib.hid (pa_1.out.below (Nat.le_refl _) hbc)
  clear b_1 pa_1
  have pb_2 := Lib.hid (hpb)
  go_wp2_with fail
  refine (HDv.out _ _ _ _ _ pa_2.out pb_2.out).mono ?_
  rintro e y3 ⟨dq, cdq, dr, cdr, rfl, hdq, hbc⟩
  dsimp only
  have b_3 := Lib.hid (b_2.out.trans (hbc.mono b_2.out.size))
  clear b_2 pa_2 pb_2
  have dq_3 := Lib.hid (hdq)
  go_wp2_with fail
  refine (of_lit _ [-2, 0, 2] _ 3 rfl rfl (by decide) (by decide)).mono ?_
  rintro e y4 ⟨pc, cpc, rfl, hpc, hbc⟩
  dsimp only
  have b_4 := Lib.hid (b_3.out.trans (hbc.mono b_3.out.size))
  have dq_4 := Lib.hid (dq_3.out.below (Nat.le_refl _) hbc)
  clear b_3 dq_3
  have pc_4 := Lib.hid (hpc)
  go_wp2_with fail
  refine (of_lit _ [-3, 3] _ 2 rfl rfl (by decide) (by decide)).mono ?_
  rintro e y5 ⟨pd, cpd, rfl, hpd, hbc⟩
  dsimp only
  have b_5 := Lib.hid (b_4.out.trans (hbc.mono b_4.out.size))
  have dq_5 := Lib.hid (dq_4.out.below (Nat.le_refl _) hbc)
  have pc_5 := Lib.hid (pc_4.out.below (Nat.le_refl _) hbc)
  clear b_4 dq_4 pc_4
  have pd_5 := Lib.hid (hpd)
  go_wp2_with fail
  refine (HGc.out _ _ _ _ _ pc_5.out pd_5.out).mono ?_
  rintro e y6 ⟨gq, cgq, rfl, hgq, hbc⟩
  dsimp only
  have b_6 := Lib.hid (b_5.out.trans (hbc.mono b_5.out.size))
  have dq_6 := Lib.hid (dq_5.out.below (Nat.le_refl _) hbc)
  clear b_5 dq_5 pc_5 pd_5
  have gq_6 := Lib.hid (hgq)
  go_wp2_with fail
  refine (of_lit _ [0, 0, -4, 4] _ 4 rfl rfl (by decide) (by decide)).mono ?_
  rintro e y7 ⟨pe, cpe, rfl, hpe, hbc⟩
  dsimp only
  have b_7 := Lib.hid (b_6.out.trans (hbc.mono b_6.out.size))
  have dq_7 := Lib.hid (dq_6.out.below (Nat.le_refl _) hbc)
  have gq_7 := Lib.hid (gq_6.out.below (Nat.le_refl _) hbc)
  clear b_6 dq_6 gq_6
  have pe_7 := Lib.hid (hpe)
  go_wp2_with fail
  refine (HSq.out _ _ _ pe_7.out).mono ?_
  rintro e y8 ⟨sq, csq, rfl, hsq, hbc⟩
  dsimp only
  have b_8 := Lib.hid (b_7.out.trans (hbc.mono b_7.out.size))
  have dq_8 := Lib.hid (dq_7.out.below (Nat.le_refl _) hbc)
  have gq_8 := Lib.hid (gq_7.out.below (Nat.le_refl _) hbc)
  clear b_7 dq_7 gq_7 pe_7
  have sq_8 := Lib.hid (hsq)
  go_wp2_with fail
  refine (of_lit _ [-1, 1, 1] _ 3 rfl rfl (by decide) (by decide)).mono ?_
  rintro e y9 ⟨p1, cp1, rfl, hp1, hbc⟩
  dsimp only
  have b_9 := Lib.hid (b_8.out.trans (hbc.mono b_8.out.size))
  have dq_9 := Lib.hid (dq_8.out.below (Nat.le_refl _) hbc)
  have gq_9 := Lib.hid (gq_8.out.below (Nat.le_refl _) hbc)
  have sq_9 := Lib.hid (sq_8.out.below (Nat.le_refl _) hbc)
  clear b_8 dq_8 gq_8 sq_8
  have p1_9 := Lib.hid (hp1)
  go_wp2_with fail
  refine (sameZs_any 3 _ _ _ _ _ _ dq_9.out p1_9.out (by decide)).mono ?_
  rintro e y10 ⟨rfl, hbc⟩
  dsimp only
  have b_10 := Lib.hid (b_9.out.trans (hbc.mono b_9.out.size))
  have gq_10 := Lib.hid (gq_9.out.below (Nat.le_refl _) hbc)
  have sq_10 := Lib.hid (sq_9.out.below (Nat.le_refl _) hbc)
  clear b_9 dq_9 gq_9 sq_9 p1_9
  go_wp2_with fail
  refine (of_lit _ [-1, 1] _ 2 rfl rfl (by decide) (by decide)).mono ?_
  rintro e y11 ⟨p2, cp2, rfl, hp2, hbc⟩
  dsimp only
  have b_11 := Lib.hid (b_10.out.trans (hbc.mono b_10.out.size))
  have gq_11 := Lib.hid (gq_10.out.below (Nat.le_refl _) hbc)
  have sq_11 := Lib.hid (sq_10.out.below (Nat.le_refl _) hbc)
  clear b_10 gq_10 sq_10
  have p2_11 := Lib.hid (hp2)
  go_wp2_with fail
  refine (sameZs_any 2 _ _ _ _ _ _ gq_11.out p2_11.out (by decide)).mono ?_
  rintro e y12 ⟨rfl, hbc⟩
  dsimp only
  have b_12 := Lib.hid (b_11.out.trans (hbc.mono b_11.out.size))
  have sq_12 := Lib.hid (sq_11.out.below (Nat.le_refl _) hbc)
  clear b_11 gq_11 sq_11 p2_11
  go_wp2_with fail
  refine (of_lit _ [0, -1, 1] _ 3 rfl rfl (by decide) (by decide)).mono ?_
  rintro e y13 ⟨p3, cp3, rfl, hp3, hbc⟩
  dsimp only
  have b_13 := Lib.hid (b_12.out.trans (hbc.mono b_12.out.size))
  have sq_13 := Lib.hid (sq_12.out.below (Nat.le_refl _) hbc)
  clear b_12 sq_12
  have p3_13 := Lib.hid (hp3)
  go_wp2_with fail
  refine (sameZs_any 3 _ _ _ _ _ _ sq_13.out p3_13.out (by decide)).mono ?_
  rintro e y14 ⟨rfl, hbc⟩
  dsimp only
  have b_14 := Lib.hid (b_13.out.trans (hbc.mono b_13.out.size))
  clear b_13 sq_13 p3_13
  go_wp2_with fail
  refine (of_lit _ [1, -2, 0, 1] _ 4 rfl rfl (by decide) (by decide)).mono ?_
  rintro e y15 ⟨p4, cp4, rfl, hp4, hbc⟩
  dsimp only
  have b_15 := Lib.hid (b_14.out.trans (hbc.mono b_14.out.size))
  clear b_14
  have p4_15 := Lib.hid (hp4)
  go_wp2_with fail
  refine (HPr.out _ _ _ p4_15.out).mono ?_
  rintro e y16 ⟨rfl, hbc⟩
  dsimp only
  have b_16 := Lib.hid (b_15.out.trans (hbc.mono b_15.out.size))
  clear b_15 p4_15
  go_wp2_with fail
  go_ret
  exact ⟨rfl, b_16.out⟩
end Go.Proofs.YteoemijgdcpopaaDoor
