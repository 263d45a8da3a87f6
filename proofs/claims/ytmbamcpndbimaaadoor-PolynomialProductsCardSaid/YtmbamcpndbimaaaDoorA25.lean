/- slices.Equal of two lists of numbers that read alike. groovelaw03.awake. grooveref01: trim, Canonical. grooveref01: Canonical. grooveref01: Neg. grooveref01: small. -/
import Derived.Test.YtmbamcpndbimaaaDoorA6
import Derived.Test.YtmbamcpndbimaaaDoorA7
import Derived.Test.YtmbamcpndbimaaaDoorA20
import Derived.Test.YtmbamcpndbimaaaDoorA24
import Derived.Test.YtmbamcpndbimaaaDoorA2
namespace Go.Proofs.YtmbamcpndbimaaaDoor
open Go.RowKit Go.Shelf
set_option maxRecDepth 100000 in
set_option maxHeartbeats 2000000 in
theorem sameZs_any (n : Nat) (f : Nat → Int) (pa pb : Option Addr) (ca cb : Nat) (w : World) (hA : RowF w pa n f) (hB : RowF w pb n f) (hn : n < 1000000000000) :
    Calls Tryd.prog 12 #[.slice pa n ca, .slice pb n cb] w fun e w' => e = .returned (.bool true) ∧ Below w.heap.size w w' := by
  have HA := Lib.hid hA
  have HB := Lib.hid hB
  clear hA hB
  go_enter Tryd.func12, Tryd.ntmps12
  go_wp2
  go_loopw [13] (fun i wr => ∃ k : Nat, k ≤ n ∧ i = .int .i64 k ∧ Hid (Below w.heap.size w wr)) (fun i _ => n - (intOf i).toNat)
  case atStart => exact ⟨0, by omega, rfl, Lib.hid (Below.refl _ _)⟩
  case round =>
    obtain ⟨k, hk, rfl, Hd⟩ := hrel
    by_cases hlt : k < n
    · obtain ⟨ab, ao, rfl, hab, hca⟩ := RowF.cells (HA.out.below (Nat.le_refl _) Hd.out) hlt
      obtain ⟨bb, bo, rfl, hbb, hcb⟩ := RowF.cells (HB.out.below (Nat.le_refl _) Hd.out) hlt
      obtain ⟨a1, a2⟩ := hca k hlt
      obtain ⟨b1, b2⟩ := hcb k hlt
      obtain ⟨x, hx⟩ : ∃ x, canon (f k) = x := ⟨_, rfl⟩
      rw [hx] at a1 a2 b1 b2
      have i0 : (0 : Int) ≤ (k : Int) := by omega
      have i1 : (k : Int) < (n : Int) := by omega
      clear hca hcb hx
      go_wp2_with fail
      go_quiet (fail)
      go_wp2
      go_roundw
      case rel => exact ⟨k + 1, by omega, by go_num, Lib.hid (below_dr Hd.out)⟩
      case measure => simp [intOf]; omega
    · have i1 : ¬ (k : Int) < (n : Int) := by omega
      go_wp2
      go_ret
      exact ⟨rfl, Hd.out⟩
end Go.Proofs.YtmbamcpndbimaaaDoor
namespace Go.Proofs.YtmbamcpndbimaaaDoor
open Go.RowKit Go.Shelf
theorem ymax3c {P : Program} (ts : Array TypeId) (t : TypeId) (w : World) : (Builtin.max_ ts t #[.int .i64 0, .int .i64 0, .int .i64 0]).run P w = .ok (.int .i64 0) w := by rfl
/-- A list's elements, and 0 behind them. -/
def lz (L : List Int) (i : Nat) : Int := L.getD i 0
theorem lz_small {L : List Int} {e : Nat} (h : ∀ x, x ∈ L → x.natAbs ≤ 2 ^ e) (k : Nat) : Bn (lz L k) e := by
  unfold Bn lz
  rw [List.getD_eq_getElem?_getD]
  cases hk : L[k]? with
  | none => simp
  | some x => exact h x (List.mem_of_getElem? hk)
theorem val_lz (L : List Int) : (fun k => valZ (canon (lz L k))) = lz L := funext fun _ => valZ_canon _
theorem canon_lz_size {L : List Int} (h : ∀ x, x ∈ L → x.natAbs ≤ 2 ^ 10) (k : Nat) : (canon (lz L k)).mag.size ≤ 1000000 := (lz_small h k).size _ (by omega)
theorem of_lit (V : World) (L : List Int) (cs : Array Value) (n : Nat) (hcs : cs.toList = L.map (Value.int .i64)) (hn : L.length = n) (hn2 : n ≤ 1000) (hL : ∀ x, x ∈ L → -1000 ≤ x ∧ x ≤ 1000) :
    Calls Tryd.prog 15 #[.slice (some ⟨V.heap.size, 0, none⟩) n n] (V.alloc (.cells cs 3)) fun e w' => ∃ q cap, e = .returned (.slice q n cap) ∧ RowF w' q n (lz L) ∧ Below V.heap.size V w' := by
  have hb := (Below.refl V.heap.size V).alloc (Nat.le_refl _) (.cells cs 3)
  refine (ofL_any n (lz L) (some ⟨V.heap.size, 0, none⟩) n hn2 (fun i hi => ?_) _ (.inr ⟨V.heap.size, 0, rfl, by simp, fun i hi j hj => ?_⟩)).mono ?_
  · have h1 : L[i]? = some (L[i]'(by omega)) := List.getElem?_eq_getElem (by omega)
    have : lz L i = L[i]'(by omega) := by unfold lz; rw [List.getD_eq_getElem?_getD, h1]; rfl
    rw [this]
    exact hL _ (List.getElem_mem _)
  · obtain rfl : j = 0 := by omega
    rw [World.cell?_alloc_new]
    have h1 : L[i]? = some (L[i]'(by omega)) := List.getElem?_eq_getElem (by omega)
    rw [show (0 : Nat) + i * 1 + 0 = i from by omega, ← Array.getElem?_toList, hcs, List.getElem?_map, h1]
    simp [lz, List.getD_eq_getElem?_getD, h1]
  · rintro e w' ⟨q, cap, rfl, hr, hb2⟩
    exact ⟨q, cap, rfl, hr, hb.trans (hb2.mono hb.size)⟩
theorem ex_div (W : World) (p q : Option Addr) (c d : Nat) (hA : RowF W p 4 (lz [1, -2, 0, 1])) (hB : RowF W q 2 (lz [-1, 1])) :
    Calls Tryd.prog 8 #[.slice p 4 c, .slice q 2 d] W fun e w' => ∃ q c p d, e = .returned (.tuple #[.slice q 3 c, .slice p 0 d, .int .i64 0]) ∧ RowF w' q 3 (lz [-1, 1, 1]) ∧ Below W.heap.size W w' := by
  have h := pDivide_any 4 2 (fun k => canon (lz [1, -2, 0, 1] k)) (fun k => canon (lz [-1, 1] k)) p q c d (e := 10) (by decide) (by decide) (fun k _ => Nat.le_trans (canon_lz_size (by decide) k) (by decide)) (fun k _ => Nat.le_trans (canon_lz_size (by decide) k) (by decide))
    (fun k => by rw [valZ_canon]; exact lz_small (by decide) k) (fun k => by rw [valZ_canon]; exact lz_small (by decide) k) (by decide) W hA hB (lz [1, -2, 0, 1]) (lz [-1, 1]) (val_lz _) (val_lz _) 4 2 (by decide +kernel) (by decide +kernel)
  rw [show dvCode 4 2 = 0 from rfl, if_pos rfl, if_pos rfl, show dvLQ (lz [1, -2, 0, 1]) (lz [-1, 1]) 4 2 = 3 from by decide +kernel, show dvLR (lz [1, -2, 0, 1]) (lz [-1, 1]) 4 2 = 0 from by decide +kernel] at h
  refine h.mono ?_
  rintro e w' ⟨q, c, p, d, rfl, h1, _, h2⟩
  exact ⟨q, c, p, d, rfl, h1.congr (by decide +kernel), h2⟩
theorem ex_gcd (W : World) (p q : Option Addr) (c d : Nat) (hA : RowF W p 3 (lz [-2, 0, 2])) (hB : RowF W q 2 (lz [-3, 3])) :
    Calls Tryd.prog 10 #[.slice p 3 c, .slice q 2 d] W fun e w' => ∃ q c, e = .returned (.tuple #[.slice q 2 c, .int .i64 0]) ∧ RowF w' q 2 (lz [-1, 1]) ∧ Below W.heap.size W w' := by
  have h := pGcd_any 3 2 (fun k => canon (lz [-2, 0, 2] k)) (fun k => canon (lz [-3, 3] k)) p q c d (e := 10) (K := 1000) (by decide) (by decide) (fun k _ => Nat.le_trans (canon_lz_size (by decide) k) (by decide)) (fun k _ => Nat.le_trans (canon_lz_size (by decide) k) (by decide))
    (fun k => by rw [valZ_canon]; exact lz_small (by decide) k) (fun k => by rw [valZ_canon]; exact lz_small (by decide) k) W hA hB (lz [-2, 0, 2]) (lz [-3, 3]) (val_lz _) (val_lz _) 3 2 (by decide +kernel) (by decide +kernel) (by decide) (fun _ _ => by unfold gcB; decide)
  rw [show gcCode 3 2 = 0 from rfl, if_pos rfl, show (gcR (lz [-2, 0, 2]) (lz [-3, 3]) 3 2).1 = 2 from by decide +kernel] at h
  refine h.mono ?_
  rintro e w' ⟨q, c, rfl, h1, h2⟩
  exact ⟨q, c, rfl, h1.congr (by decide +kernel), h2⟩
theorem ex_sqf (W : World) (p : Option Addr) (c : Nat) (hA : RowF W p 4 (lz [0, 0, -4, 4])) :
    Calls Tryd.prog 16 #[.slice p 4 c] W fun e w' => ∃ q c, e = .returned (.tuple #[.slice q 3 c, .int .i64 0]) ∧ RowF w' q 3 (lz [0, -1, 1]) ∧ Below W.heap.size W w' := by
  have h := pSquare_any 4 (fun k => canon (lz [0, 0, -4, 4] k)) p c (e := 10) (K := 10000) (by decide) (fun k _ => Nat.le_trans (canon_lz_size (by decide) k) (by decide))
    (fun k => by rw [valZ_canon]; exact lz_small (by decide) k) (by decide) W hA (lz [0, 0, -4, 4]) (val_lz _) 4 (by decide +kernel) (by decide) (fun _ => by unfold gcB; decide) (fun _ => by decide)
  rw [show sqCode 4 = 0 from rfl, if_pos rfl, show sqN (lz [0, 0, -4, 4]) 4 = 3 from by decide +kernel] at h
  refine h.mono ?_
  rintro e w' ⟨q, c, rfl, h1, h2⟩
  exact ⟨q, c, rfl, h1.congr (by decide +kernel), h2⟩
theorem ex_txt : polL (lz [1, -2, 0, 1]) 4 = [120, 94, 51, 32, 45, 32, 50, 42, 120, 32, 43, 32, 49] := by
  have h3 : Lib.decDigits 3 = [51] := by rw [Lib.decDigits, dif_pos (by decide)]; rfl
  have d : desL (lz [1, -2, 0, 1]) 4 0 = [(3, 1), (2, 0), (1, -2), (0, 1)] := by decide +kernel
  have t3 : termL 3 1 = [120, 94, 51] := by unfold termL powL; rw [if_neg (by decide), if_pos rfl, if_neg (by decide), h3]; rfl
  have t1 : termL 1 2 = [50, 42, 120] := by decide +kernel
  have t0 : termL 0 1 = [49] := by decide +kernel
  unfold polL accP
  rw [d]
  simp [prStep, t3, t1, t0]
theorem ex_prt (W : World) (p : Option Addr) (c : Nat) (hA : RowF W p 4 (lz [1, -2, 0, 1])) :
    Calls Tryd.prog 17 #[.slice p 4 c] W fun e w' => e = .returned (.string ⟨#[120, 94, 51, 32, 45, 32, 50, 42, 120, 32, 43, 32, 49]⟩) ∧ Below W.heap.size W w' := by
  have h := pPrint_any 4 (fun k => canon (lz [1, -2, 0, 1] k)) p c (by decide) (fun k _ => canon_lz_size (by decide) k) W hA (lz [1, -2, 0, 1]) (val_lz _)
  rw [show dgN (lz [1, -2, 0, 1]) 4 = 4 from by decide +kernel, ex_txt] at h
  exact h
set_option maxRecDepth 100000 in
set_option maxHeartbeats 8000000 in
theorem awake_any (w : World) : Calls Tryd.prog 5 #[] w (RetB true w) := by
  have HDv := Lib.hid (fun W p q c d hA hB => ex_div W p q c d hA hB)
  have HGc := Lib.hid (fun W p q c d hA hB => ex_gcd W p q c d hA hB)
  have HSq := Lib.hid (fun W p c hA => ex_sqf W p c hA)
  have HPr := Lib.hid (fun W p c hA => ex_prt W p c hA)
  have hmax := @ymax3c Tryd.prog
  have Hb : Hid (Below w.heap.size w w) := Lib.hid (Below.refl _ _)
  go_enter Tryd.func5, Tryd.ntmps5
  go_wp2_with fail
  refine (of_lit _ [1, -2, 0, 1] _ 4 rfl rfl (by decide) (by decide)).mono ?_
  rintro e y1 ⟨pa, cpa, rfl, hpa, hbc⟩
  dsimp only
  have b_1 := Lib.hid (Hb.out.trans (hbc.mono Hb.out.size))
  clear Hb
  have pa_1 := Lib.hid (hpa)
  go_wp2_with fail
  refine (of_lit _ [-1, 1] _ 2 rfl rfl (by decide) (by decide)).mono ?_
  rintro e y2 ⟨pb, cpb, rfl, hpb, hbc⟩
  dsimp only
  have b_2 := Lib.hid (b_1.out.trans (hbc.mono b_1.out.size))
  have pa_2 := Lib.hid (pa_1.out.below (Nat.le_refl _) hbc)
  clear b_1 pa_1
  have pb_2 := Lib.hid (hpb)
  go_wp2_with fail
  refine (HDv.out _ _ _ _ _ pa_2.out pb_2.out).mono ?_
  rintro e y3 ⟨dq, cdq, dr, cdr, rfl, hdq, hbc⟩
  dsimp only
  have b_3 := Lib.hid (b_2.out.trans (hbc.mono b_2.out.size))
  clear b_2 pa_2 pb_2
  have dq_3 := Lib.hid (hdq)
  go_wp2_with fail
  refine (of_lit _ [-2, 0, 2] _ 3 rfl rfl (by decide) (by decide)).mono ?_
  rintro e y4 ⟨pc, cpc, rfl, hpc, hbc⟩
  dsimp only
  have b_4 := Lib.hid (b_3.out.trans (hbc.mono b_3.out.size))
  have dq_4 := Lib.hid (dq_3.out.below (Nat.le_refl _) hbc)
  clear b_3 dq_3
  have pc_4 := Lib.hid (hpc)
  go_wp2_with fail
  refine (of_lit _ [-3, 3] _ 2 rfl rfl (by decide) (by decide)).mono ?_
  rintro e y5 ⟨pd, cpd, rfl, hpd, hbc⟩
  dsimp only
  have b_5 := Lib.hid (b_4.out.trans (hbc.mono b_4.out.size))
  have dq_5 := Lib.hid (dq_4.out.below (Nat.le_refl _) hbc)
  have pc_5 := Lib.hid (pc_4.out.below (Nat.le_refl _) hbc)
  clear b_4 dq_4 pc_4
  have pd_5 := Lib.hid (hpd)
  go_wp2_with fail
  refine (HGc.out _ _ _ _ _ pc_5.out pd_5.out).mono ?_
  rintro e y6 ⟨gq, cgq, rfl, hgq, hbc⟩
  dsimp only
  have b_6 := Lib.hid (b_5.out.trans (hbc.mono b_5.out.size))
  have dq_6 := Lib.hid (dq_5.out.below (Nat.le_refl _) hbc)
  clear b_5 dq_5 pc_5 pd_5
  have gq_6 := Lib.hid (hgq)
  go_wp2_with fail
  refine (of_lit _ [0, 0, -4, 4] _ 4 rfl rfl (by decide) (by decide)).mono ?_
  rintro e y7 ⟨pe, cpe, rfl, hpe, hbc⟩
  dsimp only
  have b_7 := Lib.hid (b_6.out.trans (hbc.mono b_6.out.size))
  have dq_7 := Lib.hid (dq_6.out.below (Nat.le_refl _) hbc)
  have gq_7 := Lib.hid (gq_6.out.below (Nat.le_refl _) hbc)
  clear b_6 dq_6 gq_6
  have pe_7 := Lib.hid (hpe)
  go_wp2_with fail
  refine (HSq.out _ _ _ pe_7.out).mono ?_
  rintro e y8 ⟨sq, csq, rfl, hsq, hbc⟩
  dsimp only
  have b_8 := Lib.hid (b_7.out.trans (hbc.mono b_7.out.size))
  have dq_8 := Lib.hid (dq_7.out.below (Nat.le_refl _) hbc)
  have gq_8 := Lib.hid (gq_7.out.below (Nat.le_refl _) hbc)
  clear b_7 dq_7 gq_7 pe_7
  have sq_8 := Lib.hid (hsq)
  go_wp2_with fail
  refine (of_lit _ [-1, 1, 1] _ 3 rfl rfl (by decide) (by decide)).mono ?_
  rintro e y9 ⟨p1, cp1, rfl, hp1, hbc⟩
  dsimp only
  have b_9 := Lib.hid (b_8.out.trans (hbc.mono b_8.out.size))
  have dq_9 := Lib.hid (dq_8.out.below (Nat.le_refl _) hbc)
  have gq_9 := Lib.hid (gq_8.out.below (Nat.le_refl _) hbc)
  have sq_9 := Lib.hid (sq_8.out.below (Nat.le_refl _) hbc)
  clear b_8 dq_8 gq_8 sq_8
  have p1_9 := Lib.hid (hp1)
  go_wp2_with fail
  refine (sameZs_any 3 _ _ _ _ _ _ dq_9.out p1_9.out (by decide)).mono ?_
  rintro e y10 ⟨rfl, hbc⟩
  dsimp only
  have b_10 := Lib.hid (b_9.out.trans (hbc.mono b_9.out.size))
  have gq_10 := Lib.hid (gq_9.out.below (Nat.le_refl _) hbc)
  have sq_10 := Lib.hid (sq_9.out.below (Nat.le_refl _) hbc)
  clear b_9 dq_9 gq_9 sq_9 p1_9
  go_wp2_with fail
  refine (of_lit _ [-1, 1] _ 2 rfl rfl (by decide) (by decide)).mono ?_
  rintro e y11 ⟨p2, cp2, rfl, hp2, hbc⟩
  dsimp only
  have b_11 := Lib.hid (b_10.out.trans (hbc.mono b_10.out.size))
  have gq_11 := Lib.hid (gq_10.out.below (Nat.le_refl _) hbc)
  have sq_11 := Lib.hid (sq_10.out.below (Nat.le_refl _) hbc)
  clear b_10 gq_10 sq_10
  have p2_11 := Lib.hid (hp2)
  go_wp2_with fail
  refine (sameZs_any 2 _ _ _ _ _ _ gq_11.out p2_11.out (by decide)).mono ?_
  rintro e y12 ⟨rfl, hbc⟩
  dsimp only
  have b_12 := Lib.hid (b_11.out.trans (hbc.mono b_11.out.size))
  have sq_12 := Lib.hid (sq_11.out.below (Nat.le_refl _) hbc)
  clear b_11 gq_11 sq_11 p2_11
  go_wp2_with fail
  refine (of_lit _ [0, -1, 1] _ 3 rfl rfl (by decide) (by decide)).mono ?_
  rintro e y13 ⟨p3, cp3, rfl, hp3, hbc⟩
  dsimp only
  have b_13 := Lib.hid (b_12.out.trans (hbc.mono b_12.out.size))
  have sq_13 := Lib.hid (sq_12.out.below (Nat.le_refl _) hbc)
  clear b_12 sq_12
  have p3_13 := Lib.hid (hp3)
  go_wp2_with fail
  refine (sameZs_any 3 _ _ _ _ _ _ sq_13.out p3_13.out (by decide)).mono ?_
  rintro e y14 ⟨rfl, hbc⟩
  dsimp only
  have b_14 := Lib.hid (b_13.out.trans (hbc.mono b_13.out.size))
  clear b_13 sq_13 p3_13
  go_wp2_with fail
  refine (of_lit _ [1, -2, 0, 1] _ 4 rfl rfl (by decide) (by decide)).mono ?_
  rintro e y15 ⟨p4, cp4, rfl, hp4, hbc⟩
  dsimp only
  have b_15 := Lib.hid (b_14.out.trans (hbc.mono b_14.out.size))
  clear b_14
  have p4_15 := Lib.hid (hp4)
  go_wp2_with fail
  refine (HPr.out _ _ _ p4_15.out).mono ?_
  rintro e y16 ⟨rfl, hbc⟩
  dsimp only
  have b_16 := Lib.hid (b_15.out.trans (hbc.mono b_15.out.size))
  clear b_15 p4_15
  go_wp2_with fail
  go_ret
  exact ⟨rfl, b_16.out⟩
end Go.Proofs.YtmbamcpndbimaaaDoor
namespace Go.Proofs.YtmbamcpndbimaaaDoor
open Go.RowKit

theorem beb_bval : ∀ (n : Nat) (l : List UInt8), l.length = n → beb (bval l) = l.dropWhile (· == 0)
  | 0, l, h => by
    have : l = [] := List.length_eq_zero_iff.1 h
    subst this; rfl
  | n + 1, l, h => by
    obtain ⟨r, c, rfl⟩ : ∃ r c, l = r ++ [c] := ⟨l.dropLast, l.getLast (fun h0 => by rw [h0] at h; simp at h), (List.dropLast_concat_getLast _).symm⟩
    have ih := beb_bval n r (by simpa using h)
    rw [bval_snoc, List.dropWhile_append, ← ih]
    have hc : UInt8.ofNat c.toNat = c := by simp
    by_cases h0 : bval r = 0
    · rw [h0, beb_zero]
      by_cases hz : c = 0
      · subst hz; rfl
      · have hz' : c.toNat ≠ 0 := fun h => hz (by rw [← hc, h]; rfl)
        have := beb_snoc (m := 0) (c := c.toNat) (UInt8.toNat_lt _) (.inr hz')
        rw [this, beb_zero, hc]
        have hb : (c == 0) = false := by rw [beq_eq_false_iff_ne]; exact hz
        simp [List.dropWhile, hb]
    · rw [beb_snoc (UInt8.toNat_lt _) (.inl h0), hc]
      have : (beb (bval r)).isEmpty = false := by
        rw [List.isEmpty_eq_false_iff]
        intro h; exact h0 (beb_len_zero.1 (by rw [h]; rfl))
      rw [this]; simp

theorem str_cons (t : ByteArray) (h : 0 < t.size) : t.data.toList = t[0] :: (t.extract 1 t.size).data.toList := by
  rcases t with ⟨⟨l⟩⟩
  cases l with
  | nil => exact absurd h (by decide)
  | cons c r =>
    rw [ByteArray.data_extract]
    show c :: r = c :: _
    congr 1
    simp [ByteArray.size]
theorem bval_cons_zero {c : UInt8} {r : List UInt8} (h : c.toNat = 0) : bval (c :: r) = bval r := by
  unfold bval
  rw [List.foldl_cons, h]
theorem beb_head {c : UInt8} {r : List UInt8} (h : c.toNat ≠ 0) : beb (bval (c :: r)) = c :: r := by
  rw [beb_bval _ _ rfl]
  have : (c == 0) = false := by
    rw [beq_eq_false_iff_ne]; intro h2; exact h (by rw [h2]; rfl)
  simp [List.dropWhile, this]

set_option maxRecDepth 100000 in
set_option maxHeartbeats 4000000 in
theorem refTrim_any (s : ByteArray) (hs : s.size ≤ 100000000) (w : World) :
    Calls Tryd.prog 81 #[.string s] w fun e w' => e = .returned (.string ⟨(beb (bval s.data.toList)).toArray⟩) ∧ w = w' := by
  go_enter Tryd.func81, Tryd.ntmps81
  go_wp2
  go_loopw [0] (fun v wr => ∃ t : ByteArray, v = .string t ∧ t.size ≤ 100000000 ∧ wr = w ∧ Hid (bval t.data.toList = bval s.data.toList)) (fun v _ => match v with | .string t => t.size | _ => 0)
  case atStart => exact ⟨s, rfl, hs, rfl, Lib.hid rfl⟩
  case round =>
    obtain ⟨t, rfl, ht, rfl, hv⟩ := hrel
    by_cases hlt : 0 < t.size
    · obtain ⟨c, hcc⟩ : ∃ c, (t[0]'hlt).toNat = c := ⟨_, rfl⟩
      have i0 : (0 : Int) < (t.size : Int) := by omega
      by_cases hc : c = 0
      · have hcb : ((c : Int) == 0) = true := by rw [beq_iff_eq]; omega
        go_wp2
        have he : bval (t.extract 1 t.size).data.toList = bval s.data.toList := by
          rw [← hv.out, str_cons t hlt, bval_cons_zero (by omega)]
        have hsz : (t.extract 1 t.size).size = t.size - 1 := by simp
        go_roundw
        case rel => exact ⟨_, rfl, by omega, trivial, Lib.hid he⟩
        case measure => show (t.extract 1 t.size).size < t.size; omega
      · have hcb : ((c : Int) == 0) = false := by rw [beq_eq_false_iff_ne]; omega
        have he : (⟨(beb (bval s.data.toList)).toArray⟩ : ByteArray) = t := by
          rw [← hv.out, str_cons t hlt, beb_head (by omega), ← str_cons t hlt]
        have He := Lib.hid he
        clear he
        go_wp2
        go_ret
        exact ⟨by rw [He.out]; rfl, rfl⟩
    · have i0 : ¬ (0 : Int) < (t.size : Int) := by omega
      have he : (⟨(beb (bval s.data.toList)).toArray⟩ : ByteArray) = t := by
        rcases t with ⟨⟨l⟩⟩
        have : l = [] := List.length_eq_zero_iff.1 (by simp [ByteArray.size] at hlt; simp [hlt])
        subst this
        rw [← hv.out]; rfl
      have He := Lib.hid he
      clear he
      go_wp2
      go_ret
      exact ⟨by rw [He.out]; rfl, rfl⟩

theorem canon_of_head {z : ZI} (h : 0 < z.mag.size) (h0 : (z.mag[0]).toNat ≠ 0) : z = canon (valZ z) := by
  rw [← sameZ_val]
  have h1 : beb (absZ z) = z.mag.data.toList := by
    unfold absZ
    rw [str_cons z.mag h, beb_head h0]
  have h2 : absZ z ≠ 0 := fun h3 => by
    rw [h3, beb_zero] at h1
    have := congrArg List.length h1
    simp at this
    have h4 : z.mag.size = z.mag.data.size := rfl
    omega
  unfold mkZ
  rw [if_neg h2, h1]
end Go.Proofs.YtmbamcpndbimaaaDoor

namespace Go.Proofs.YtmbamcpndbimaaaDoor
open Go.RowKit

theorem canon_parts (z : ZI) : (canon (valZ z)).neg = (z.neg && !(beb (bval z.mag.data.toList)).isEmpty) ∧ (canon (valZ z)).mag = ⟨(beb (bval z.mag.data.toList)).toArray⟩ := by
  rw [← sameZ_val]
  have h : absZ z = bval z.mag.data.toList := rfl
  rw [← h]
  unfold mkZ
  by_cases h0 : absZ z = 0
  · rw [if_pos h0, h0, beb_zero]; simp
  · rw [if_neg h0]
    have : (beb (absZ z)).isEmpty = false := by
      rw [List.isEmpty_eq_false_iff]
      intro h; exact h0 (beb_len_zero.1 (by rw [h]; rfl))
    rw [this]; simp

set_option maxRecDepth 100000 in
set_option maxHeartbeats 4000000 in
theorem refCanonical_any (z : ZI) (hz : z.mag.size ≤ 100000000) (w : World) :
    Calls Tryd.prog 64 #[.agg #[.bool z.neg, .string z.mag]] w (RetZ (canon (valZ z)) w) := by
  obtain ⟨hp1, hp2⟩ := canon_parts z
  obtain ⟨Z, hZ⟩ : ∃ Z, canon (valZ z) = Z := ⟨_, rfl⟩
  rw [hZ] at hp1 hp2
  rw [hZ]
  have Hp1 := Lib.hid hp1
  have Hp2 := Lib.hid hp2
  clear hp1 hp2
  by_cases hlt : 0 < z.mag.size
  · obtain ⟨c, hcc⟩ : ∃ c, (z.mag[0]'hlt).toNat = c := ⟨_, rfl⟩
    have i0 : (0 : Int) < (z.mag.size : Int) := by omega
    by_cases hc : c = 0
    · have hcb : ((c : Int) != 0) = false := by rw [bne_eq_false_iff_eq]; omega
      clear hZ
      cases hn : z.neg
      all_goals
        rw [hn] at Hp1
        go_enter Tryd.func64, Tryd.ntmps64
        go_wp2_with (go_at_call 81; go_fit (refTrim_any z.mag hz _); rintro e w2 ⟨rfl, rfl⟩)
        refine bodyPost_ret (v := .agg #[.bool Z.neg, .string Z.mag]) ?_ rfl ⟨rfl, ((Below.refl _ _).alloc (Nat.le_refl _) _).alloc (by simp) _⟩
        rw [Hp1.out, Hp2.out]
        simp [results, Tryd.results64, go_sem]
    · have hcb : ((c : Int) != 0) = true := by rw [bne_iff_ne]; omega
      have HZ := Lib.hid (show z = Z from by rw [← hZ]; exact canon_of_head hlt (by omega))
      clear hZ
      go_enter Tryd.func64, Tryd.ntmps64
      go_wp2
      refine bodyPost_ret (v := .agg #[.bool Z.neg, .string Z.mag]) ?_ rfl ⟨rfl, ((Below.refl _ _).alloc (Nat.le_refl _) _).alloc (by simp) _⟩
      rw [← HZ.out]
      simp [results, Tryd.results64, go_sem]
  · have i0 : ¬ (0 : Int) < (z.mag.size : Int) := by omega
    clear hZ
    cases hn : z.neg
    all_goals
      rw [hn] at Hp1
      go_enter Tryd.func64, Tryd.ntmps64
      go_wp2_with (go_at_call 81; go_fit (refTrim_any z.mag hz _); rintro e w2 ⟨rfl, rfl⟩)
      refine bodyPost_ret (v := .agg #[.bool Z.neg, .string Z.mag]) ?_ rfl ⟨rfl, ((Below.refl _ _).alloc (Nat.le_refl _) _).alloc (by simp) _⟩
      rw [Hp1.out, Hp2.out]
      simp [results, Tryd.results64, go_sem]
end Go.Proofs.YtmbamcpndbimaaaDoor

namespace Go.Proofs.YtmbamcpndbimaaaDoor
open Go.RowKit

theorem canon_neg_parts (n : Int) : (canon (-n)).neg = (!(canon n).neg && !(canon n).mag.toList.isEmpty) ∧ (canon (-n)).mag = (canon n).mag := by
  rw [ByteArray.toList_eq]
  have hm : (canon (-n)).mag = (canon n).mag := by simp [canon]
  refine ⟨?_, hm⟩
  by_cases h0 : n = 0
  · subst h0; rfl
  · have h1 : beb n.natAbs ≠ [] := fun h => by
      have : n.natAbs = 0 := beb_len_zero.1 (by rw [h]; rfl)
      omega
    have h2 : (beb n.natAbs).isEmpty = false := by rw [List.isEmpty_eq_false_iff]; exact h1
    show decide (-n < 0) = (!decide (n < 0) && !(beb n.natAbs).isEmpty)
    rw [h2]
    by_cases h : n < 0
    · rw [decide_eq_true h, decide_eq_false (by omega)]; rfl
    · rw [decide_eq_false h, decide_eq_true (by omega)]; rfl

set_option maxRecDepth 100000 in
set_option maxHeartbeats 8000000 in
theorem refNeg_any (z : ZI) (hz : z.mag.size ≤ 100000000) (w : World) :
    Calls Tryd.prog 73 #[.agg #[.bool z.neg, .string z.mag]] w (RetZ (canon (-valZ z)) w) := by
  have hcan := refCanonical_any z hz
  obtain ⟨hp1, hp2⟩ := canon_neg_parts (valZ z)
  generalize canon (-valZ z) = R at *
  generalize canon (valZ z) = m at *
  have Hcan := Lib.hid hcan
  have Hp1 := Lib.hid hp1
  have Hp2 := Lib.hid hp2
  clear hcan hp1 hp2
  rcases m with ⟨N, M⟩
  dsimp only at Hp1 Hp2
  have n1 : ¬ (w.heap.size = w.heap.size + 1) := by omega
  have n2 : ¬ (w.heap.size + 1 = w.heap.size) := by omega
  cases N
  all_goals
    go_enter Tryd.func73, Tryd.ntmps73
    go_wp2_with (go_at_call 64; go_fit (Hcan.out _); rintro e w3 ⟨rfl, hb⟩; have Hb3 := Lib.hid hb; have HA := Lib.hid ((BoxAt.new w (.bool z.neg) (.string z.mag) 32).alloc (.cells #[.bool false, .string ⟨#[]⟩] 32) |>.below hb (by simp; omega)); have hB0 := (BoxAt.new (w.alloc (.cells #[.bool z.neg, .string z.mag] 32)) (.bool false) (.string ⟨#[]⟩) 32).below hb (by simp); rw [World.size_alloc] at hB0; have HB := Lib.hid hB0; obtain ⟨a0, a1, a2, a3, _⟩ := HA.out; obtain ⟨b0, b1, b2, b3, _⟩ := hB0; clear hb)
    refine bodyPost_ret (v := .agg #[.bool R.neg, .string R.mag]) ?_ rfl ⟨rfl, ?_⟩
    · rw [Hp1.out, Hp2.out]
      simp [results, Tryd.results73, go_sem, b0, b1]
    · have hbe : Below w.heap.size w w3 := (((Below.refl _ _).alloc (Nat.le_refl _) _).alloc (by simp) _).trans (Hb3.out.mono (by simp; omega))
      exact (((hbe.setCell (by simp) _).setCell (by simp) _).setCell (by simp) _).setCell (by simp) _
end Go.Proofs.YtmbamcpndbimaaaDoor

namespace Go.Proofs.YtmbamcpndbimaaaDoor
open Go.RowKit

theorem bval_take {l : List UInt8} {i : Nat} (h : i < l.length) : bval (l.take (i + 1)) = bval (l.take i) * 256 + l[i].toNat := by
  rw [List.take_succ_eq_append_getElem h, bval_snoc]
theorem bval_take_lt (l : List UInt8) (i : Nat) : bval (l.take i) < 256 ^ i := by
  refine Nat.lt_of_lt_of_le (bval_lt _) (Nat.pow_le_pow_right (by decide) ?_)
  rw [List.length_take]; omega
theorem pow_six {i : Nat} (h : i ≤ 6) : 256 ^ i ≤ 281474976710656 := Nat.pow_le_pow_right (n := 256) (by decide) h
theorem or_byte (n : Nat) (c : Nat) (hc : c < 256) (hn : n < 281474976710656) : bits .or .i64 ((n : Int) * 256) (c : Int) = ((n * 256 + c : Nat) : Int) := by
  have h1 : ((n : Int) * 256) = ((n * 256 : Nat) : Int) := by simp
  have h2 := Nat.two_pow_add_eq_or_of_lt (i := 8) (b := c) (by omega) n
  have h3 : n * 256 + c = n * 256 ||| c := by
    rw [Nat.mul_comm n 256]; exact h2
  rw [h1]
  show IntKind.i64.wrap ((BitVec.ofInt 64 ((n * 256 : Nat) : Int) ||| BitVec.ofInt 64 (c : Int)).toNat : Int) = _
  rw [BitVec.toNat_or, ofInt_u64 _ (by omega), ofInt_u64 c (by omega), ← h3]
  rw [IntKind.wrap_i64]
  omega

set_option maxRecDepth 100000 in
set_option maxHeartbeats 4000000 in
theorem refSmall_any (s : ByteArray) (hs : s.size ≤ 7) (w : World) :
    Calls Tryd.prog 82 #[.string s] w fun e w' => e = .returned (.int .i64 (bval s.data.toList : Nat)) ∧ w = w' := by
  go_enter Tryd.func82, Tryd.ntmps82
  go_wp2
  go_loop [3, 4] (fun v i => ∃ k n : Nat, k ≤ s.size ∧ i = .int .i64 k ∧ v = .int .i64 n ∧ Hid (n = bval (s.data.toList.take k))) (fun _ i => s.size - (intOf i).toNat)
  case atStart => exact ⟨0, 0, Nat.zero_le _, rfl, rfl, Lib.hid rfl⟩
  case round =>
    obtain ⟨k, n, hk, rfl, rfl, hr⟩ := hrel
    by_cases hlt : k < s.size
    · have hltI : (k : Int) < (s.size : Int) := by omega
      obtain ⟨c, hc⟩ : ∃ c, (s[k]'hlt).toNat = c := ⟨_, rfl⟩
      have hc2 : c < 256 := by rw [← hc]; exact UInt8.toNat_lt _
      have hl : k < s.data.toList.length := by simpa using hlt
      have hn : n < 281474976710656 := by
        rw [hr.out]; exact Nat.lt_of_lt_of_le (bval_take_lt _ _) (pow_six (by omega))
      have hnext : n * 256 + c = bval (s.data.toList.take (k + 1)) := by
        rw [bval_take hl, ← hr.out, ← hc]; rfl
      have Hn := Lib.hid hnext
      clear hnext
      go_wp2
      go_round
      case rel => exact ⟨k + 1, n * 256 + c, by omega, by go_num, by rw [or_byte n c hc2 hn], Hn⟩
      case measure => simp [intOf]; omega
    · have hke : k = s.size := by omega
      have i0 : ¬ (k : Int) < (s.size : Int) := by omega
      have he : n = bval s.data.toList := by
        rw [hr.out, List.take_of_length_le (by rw [hke]; simp)]
      have He := Lib.hid he
      clear he
      go_wp2
      go_ret
      exact ⟨ret_int (by rw [He.out]), rfl⟩
end Go.Proofs.YtmbamcpndbimaaaDoor
