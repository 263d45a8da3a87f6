/- PolynomialTexts: the walk. -/
import Derived.Test.YteoemijgdcpopaaDoorBYtx
import Derived.Test.YteoemijgdcpopaaDoorB44
import Derived.Test.YteoemijgdcpopaaDoorB43
namespace Go.Proofs.YteoemijgdcpopaaDoor
open Go.RowKit Go.Shelf
theorem dgN_self (f : Nat → Int) (n : Nat) : dgN f (dgN f n) = dgN f n := by
  obtain ⟨m, hm⟩ : ∃ m, dgN f n = m := ⟨_, rfl⟩
  have ht := dgN_top f n
  rw [hm] at ht ⊢
  cases m with
  | zero => rfl
  | succ k => rw [dgN, if_neg]; exact ht (by omega)
theorem dgN_zero {f : Nat → Int} {n : Nat} : dgN f n = 0 ↔ ∀ k, k < n → f k = 0 := by
  constructor
  · intro h k hk
    exact dgN_over f n k (by omega) hk
  · intro h
    apply Classical.byContradiction
    intro h0
    have h1 := dgN_top f n (by omega)
    have h2 := dgN_le f n
    exact h1 (h _ (by omega))
theorem txt_same (Z Y : Nat → ZI) (n m : Nat) : dgN (fun k => cf Z n k - cf Y m k) (mxN n m) = 0 ↔ polL (fun k => valZ (Z k)) (dgN (fun k => valZ (Z k)) n) = polL (fun k => valZ (Y k)) (dgN (fun k => valZ (Y k)) m) := by
  rw [polL_same (dgN_top _ _) (dgN_top _ _), dgN_zero]
  obtain ⟨f, hf⟩ : ∃ f : Nat → Int, (fun k => valZ (Z k)) = f := ⟨_, rfl⟩
  obtain ⟨g, hg⟩ : ∃ g : Nat → Int, (fun k => valZ (Y k)) = g := ⟨_, rfl⟩
  have hf' : ∀ k, valZ (Z k) = f k := fun k => by rw [← hf]
  have hg' : ∀ k, valZ (Y k) = g k := fun k => by rw [← hg]
  have hcf : ∀ k, cf Z n k = if k < n then f k else 0 := fun k => by unfold cf; rw [hf']
  have hcg : ∀ k, cf Y m k = if k < m then g k else 0 := fun k => by unfold cf; rw [hg']
  rw [hf, hg]
  simp only [hcf, hcg]
  obtain ⟨hmx1, hmx2⟩ := mxN_ge n m
  have f1 := dgN_le f n
  have g1 := dgN_le g m
  have f2 := dgN_over f n
  have g2 := dgN_over g m
  have f3 := dgN_top f n
  have g3 := dgN_top g m
  generalize dgN f n = n1 at *
  generalize dgN g m = m1 at *
  constructor
  · intro h
    have key : ∀ k, (if k < n then f k else 0) = if k < m then g k else 0 := fun k => by
      by_cases hk : k < mxN n m
      · have := h k hk; omega
      · rw [if_neg (by omega), if_neg (by omega)]
    have e1 : n1 ≤ m1 := by
      by_cases h0 : 0 < n1
      · have h4 := key (n1 - 1)
        rw [if_pos (by omega)] at h4
        have h5 := f3 h0
        apply Classical.byContradiction
        intro h6
        by_cases h7 : n1 - 1 < m
        · rw [if_pos h7, g2 _ (by omega) h7] at h4; exact h5 h4
        · rw [if_neg h7] at h4; exact h5 h4
      · omega
    have e2 : m1 ≤ n1 := by
      by_cases h0 : 0 < m1
      · have h4 := key (m1 - 1)
        rw [if_pos (show m1 - 1 < m by omega)] at h4
        have h5 := g3 h0
        apply Classical.byContradiction
        intro h6
        by_cases h7 : m1 - 1 < n
        · rw [if_pos h7, f2 _ (by omega) h7] at h4; exact h5 h4.symm
        · rw [if_neg h7] at h4; exact h5 h4.symm
      · omega
    refine ⟨by omega, fun k hk => ?_⟩
    have h4 := key k
    rw [if_pos (by omega), if_pos (by omega)] at h4
    rw [hf', hg']; exact h4
  · rintro ⟨rfl, h⟩ k _
    by_cases hk : k < n1
    · have h8 := h k hk
      rw [hf', hg'] at h8
      rw [if_pos (by omega), if_pos (by omega), h8]; omega
    · have a1 : (if k < n then f k else 0) = 0 := by
        by_cases h7 : k < n
        · rw [if_pos h7]; exact f2 k (by omega) h7
        · rw [if_neg h7]
      have a2 : (if k < m then g k else 0) = 0 := by
        by_cases h7 : k < m
        · rw [if_pos h7]; exact g2 k (by omega) h7
        · rw [if_neg h7]
      rw [a1, a2]; rfl
theorem canon_cf_size {Z : Nat → ZI} {n : Nat} (hz : ∀ k, k < n → (Z k).mag.size ≤ 3) (k : Nat) : (cf Z n k).natAbs < 256 ^ 3 := by
  unfold cf
  split
  · have h1 := absZ_lt (Z k)
    have h2 : 256 ^ (Z k).mag.size ≤ 256 ^ 3 := Nat.pow_le_pow_right (by decide) (hz k (by assumption))
    unfold valZ
    split <;> omega
  · decide
theorem ystrT {a b : ByteArray} (h : a = b) : (a.toList == b.toList) = true := by rw [h]; exact beq_self_eq_true _
theorem ystrF {a b : ByteArray} (h : a ≠ b) : (a.toList == b.toList) = false := by
  rw [beq_eq_false_iff_ne]
  intro e
  apply h
  rw [ByteArray.toList_eq, ByteArray.toList_eq] at e
  exact ByteArray.ext (Array.toList_inj.1 e)
set_option maxRecDepth 100000 in
set_option maxHeartbeats 8000000 in
theorem lawTexts (p : Option Addr) (n c : Nat) (Z : Nat → ZI) (q : Option Addr) (m d : Nat) (Y : Nat → ZI) (w : World) (hX : GRow w p n Z) (hn : n ≤ maxLen) (_hz : ∀ k, k < n → (Z k).mag.size ≤ maxLen) (hY : GRow w q m Y) (hm : m ≤ maxLen) (_hy : ∀ k, k < m → (Y k).mag.size ≤ maxLen) :
    Calls Tryd.prog 3 #[.slice p n c, .slice q m d] w (RetB true w) := by
  have HX := Lib.hid hX
  have HY := Lib.hid hY
  have Hb : Hid (Below w.heap.size w w) := Lib.hid (Below.refl _ _)
  have HAw := Lib.hid (fun W => awake_any W)
  have HGr := Lib.hid (fun W h1 h2 => great2_any W p q n m c d Z Y h1 h2 hn hm)
  clear hX hY
  cases hg : (gtP n Z || gtP m Y)
  · rw [hg] at HGr
    rw [Bool.or_eq_false_iff] at hg
    obtain ⟨n1, z1⟩ := gtP_false hg.1
    obtain ⟨m1, y1⟩ := gtP_false hg.2
    have hSub := fun W h1 h2 => pSub_any n m Z Y p q c d (by omega) (by omega) (fun k hk => by have := z1 k hk; omega) (fun k hk => by have := y1 k hk; omega) (fun k _ => Nat.le_trans (canon_size _ (k := 4) (by
      have h1 := canon_cf_size z1 k
      have h2 := canon_cf_size y1 k
      omega)) (by decide)) W h1 h2
    have hPa := fun W h1 => pPrint_any n Z p c (by omega) (fun k hk => by have := z1 k hk; omega) W h1 _ rfl
    have hPb := fun W h1 => pPrint_any m Y q d (by omega) (fun k hk => by have := y1 k hk; omega) W h1 _ rfl
    have hCa := fun W h1 => Canonical_any n Z p c (by omega) (fun k hk => by have := z1 k hk; omega) W h1
    have hts := txt_same Z Y n m
    obtain ⟨f, hf⟩ : ∃ f : Nat → Int, (fun k => valZ (Z k)) = f := ⟨_, rfl⟩
    have hPc := fun W r cr h1 => pPrint_any (dgN f n) (fun k => canon (f k)) r cr (by have := dgN_le f n; omega) (fun k hk => by
      rw [← hf]
      have h2 := canon_size_le (Z k)
      have h3 := z1 k (by have := dgN_le f n; omega)
      show (canon (valZ (Z k))).mag.size ≤ 1000000
      omega) W h1 f (funext fun _ => valZ_canon _)
    rw [dgN_self] at hPc
    rw [hf] at hPa hCa hts
    obtain ⟨n2, hn2⟩ : ∃ x, dgN f n = x := ⟨_, rfl⟩
    rw [hn2] at hPa hCa hts hPc
    obtain ⟨A, hA⟩ : ∃ s : ByteArray, (⟨(polL f n2).toArray⟩ : ByteArray) = s := ⟨_, rfl⟩
    obtain ⟨B, hB⟩ : ∃ s : ByteArray, (⟨(polL (fun k => valZ (Y k)) (dgN (fun k => valZ (Y k)) m)).toArray⟩ : ByteArray) = s := ⟨_, rfl⟩
    obtain ⟨D, hD⟩ : ∃ x, dgN (fun k => cf Z n k - cf Y m k) (mxN n m) = x := ⟨_, rfl⟩
    rw [hA] at hPa hPc
    rw [hB] at hPb
    rw [hD] at hSub hts
    have hAB : D = 0 ↔ A = B := by
      rw [hts, ← hA, ← hB]
      constructor
      · intro h; rw [h]
      · intro h; simpa using h
    have HSub := Lib.hid hSub
    have HPa := Lib.hid hPa
    have HPb := Lib.hid hPb
    have HPc := Lib.hid hPc
    have HCa := Lib.hid hCa
    clear hSub hPa hPb hPc hCa hts hf hn2 hA hB hD n1 z1 m1 y1 hn hm hg _hz _hy
    by_cases hd0 : D = 0
    · have hE := hAB.1 hd0
      subst hE
      subst hd0
      have heq := ystrT (rfl : A = A)
      clear hAB
      go_enter Tryd.func3, Tryd.ntmps3
      go_wp2_with fail
      refine (HGr.out _ HX.out HY.out).mono ?_
      rintro e y1 ⟨rfl, hbc⟩
      dsimp only
      have b_1 := Lib.hid (Hb.out.trans (hbc.mono Hb.out.size))
      have X_1 := Lib.hid (SlAt.mono HX.out (Nat.le_refl _) hbc)
      have Y_1 := Lib.hid (SlAt.mono HY.out (Nat.le_refl _) hbc)
      clear Hb HX HY
      go_wp2_with fail
      refine (HSub.out _ X_1.out Y_1.out).mono ?_
      rintro e y2 ⟨_, _, rfl, _, hbc⟩
      dsimp only
      have b_2 := Lib.hid (b_1.out.trans (hbc.mono b_1.out.size))
      have X_2 := Lib.hid (SlAt.mono X_1.out (Nat.le_refl _) hbc)
      have Y_2 := Lib.hid (SlAt.mono Y_1.out (Nat.le_refl _) hbc)
      clear b_1 X_1 Y_1
      go_wp2_with fail
      refine (HPa.out _ X_2.out).mono ?_
      rintro e y3 ⟨rfl, hbc⟩
      dsimp only
      have b_3 := Lib.hid (b_2.out.trans (hbc.mono b_2.out.size))
      have X_3 := Lib.hid (SlAt.mono X_2.out (Nat.le_refl _) hbc)
      have Y_3 := Lib.hid (SlAt.mono Y_2.out (Nat.le_refl _) hbc)
      clear b_2 X_2 Y_2
      go_wp2_with fail
      refine (HPb.out _ Y_3.out).mono ?_
      rintro e y4 ⟨rfl, hbc⟩
      dsimp only
      have b_4 := Lib.hid (b_3.out.trans (hbc.mono b_3.out.size))
      have X_4 := Lib.hid (SlAt.mono X_3.out (Nat.le_refl _) hbc)
      have Y_4 := Lib.hid (SlAt.mono Y_3.out (Nat.le_refl _) hbc)
      clear b_3 X_3 Y_3
      go_wp2_with fail
      refine (HCa.out _ X_4.out).mono ?_
      rintro e y5 ⟨qc, cc, rfl, hrc, hbc⟩
      dsimp only
      have b_5 := Lib.hid (b_4.out.trans (hbc.mono b_4.out.size))
      have X_5 := Lib.hid (SlAt.mono X_4.out (Nat.le_refl _) hbc)
      have Y_5 := Lib.hid (SlAt.mono Y_4.out (Nat.le_refl _) hbc)
      clear b_4 X_4 Y_4
      have C_5 := Lib.hid (hrc)
      go_wp2_with fail
      refine (HPc.out _ _ _ C_5.out).mono ?_
      rintro e y6 ⟨rfl, hbc⟩
      dsimp only
      have b_6 := Lib.hid (b_5.out.trans (hbc.mono b_5.out.size))
      have X_6 := Lib.hid (SlAt.mono X_5.out (Nat.le_refl _) hbc)
      have Y_6 := Lib.hid (SlAt.mono Y_5.out (Nat.le_refl _) hbc)
      have C_6 := Lib.hid (C_5.out.below (Nat.le_refl _) hbc)
      clear b_5 X_5 Y_5 C_5
      go_wp2_with fail
      refine (HPa.out _ X_6.out).mono ?_
      rintro e y7 ⟨rfl, hbc⟩
      dsimp only
      have b_7 := Lib.hid (b_6.out.trans (hbc.mono b_6.out.size))
      have X_7 := Lib.hid (SlAt.mono X_6.out (Nat.le_refl _) hbc)
      have Y_7 := Lib.hid (SlAt.mono Y_6.out (Nat.le_refl _) hbc)
      have C_7 := Lib.hid (C_6.out.below (Nat.le_refl _) hbc)
      clear b_6 X_6 Y_6 C_6
      go_wp2_with fail
      refine (HAw.out _).mono ?_
      rintro e y8 ⟨rfl, hbc⟩
      dsimp only
      have b_8 := Lib.hid (b_7.out.trans (hbc.mono b_7.out.size))
      have X_8 := Lib.hid (SlAt.mono X_7.out (Nat.le_refl _) hbc)
      have Y_8 := Lib.hid (SlAt.mono Y_7.out (Nat.le_refl _) hbc)
      have C_8 := Lib.hid (C_7.out.below (Nat.le_refl _) hbc)
      clear b_7 X_7 Y_7 C_7
      go_wp2_with fail
      go_ret
      exact ⟨rfl, b_8.out⟩
    · have hE : A ≠ B := fun h => hd0 (hAB.2 h)
      have heq := ystrF hE
      have d0 : ((D : Int) == 0) = false := by rw [beq_eq_false_iff_ne]; omega
      have d1 : ¬ (D : Int) = 0 := by omega
      have heq2 := ystrT (rfl : A = A)
      clear hAB hE hd0
      go_enter Tryd.func3, Tryd.ntmps3
      go_wp2_with fail
      refine (HGr.out _ HX.out HY.out).mono ?_
      rintro e y1 ⟨rfl, hbc⟩
      dsimp only
      have b_1 := Lib.hid (Hb.out.trans (hbc.mono Hb.out.size))
      have X_1 := Lib.hid (SlAt.mono HX.out (Nat.le_refl _) hbc)
      have Y_1 := Lib.hid (SlAt.mono HY.out (Nat.le_refl _) hbc)
      clear Hb HX HY
      go_wp2_with fail
      refine (HSub.out _ X_1.out Y_1.out).mono ?_
      rintro e y2 ⟨_, _, rfl, _, hbc⟩
      dsimp only
      have b_2 := Lib.hid (b_1.out.trans (hbc.mono b_1.out.size))
      have X_2 := Lib.hid (SlAt.mono X_1.out (Nat.le_refl _) hbc)
      have Y_2 := Lib.hid (SlAt.mono Y_1.out (Nat.le_refl _) hbc)
      clear b_1 X_1 Y_1
      go_wp2_with fail
      refine (HPa.out _ X_2.out).mono ?_
      rintro e y3 ⟨rfl, hbc⟩
      dsimp only
      have b_3 := Lib.hid (b_2.out.trans (hbc.mono b_2.out.size))
      have X_3 := Lib.hid (SlAt.mono X_2.out (Nat.le_refl _) hbc)
      have Y_3 := Lib.hid (SlAt.mono Y_2.out (Nat.le_refl _) hbc)
      clear b_2 X_2 Y_2
      go_wp2_with fail
      refine (HPb.out _ Y_3.out).mono ?_
      rintro e y4 ⟨rfl, hbc⟩
      dsimp only
      have b_4 := Lib.hid (b_3.out.trans (hbc.mono b_3.out.size))
      have X_4 := Lib.hid (SlAt.mono X_3.out (Nat.le_refl _) hbc)
      have Y_4 := Lib.hid (SlAt.mono Y_3.out (Nat.le_refl _) hbc)
      clear b_3 X_3 Y_3
      go_wp2_with fail
      refine (HCa.out _ X_4.out).mono ?_
      rintro e y5 ⟨qc, cc, rfl, hrc, hbc⟩
      dsimp only
      have b_5 := Lib.hid (b_4.out.trans (hbc.mono b_4.out.size))
      have X_5 := Lib.hid (SlAt.mono X_4.out (Nat.le_refl _) hbc)
      have Y_5 := Lib.hid (SlAt.mono Y_4.out (Nat.le_refl _) hbc)
      clear b_4 X_4 Y_4
      have C_5 := Lib.hid (hrc)
      go_wp2_with fail
      refine (HPc.out _ _ _ C_5.out).mono ?_
      rintro e y6 ⟨rfl, hbc⟩
      dsimp only
      have b_6 := Lib.hid (b_5.out.trans (hbc.mono b_5.out.size))
      have X_6 := Lib.hid (SlAt.mono X_5.out (Nat.le_refl _) hbc)
      have Y_6 := Lib.hid (SlAt.mono Y_5.out (Nat.le_refl _) hbc)
      have C_6 := Lib.hid (C_5.out.below (Nat.le_refl _) hbc)
      clear b_5 X_5 Y_5 C_5
      go_wp2_with fail
      refine (HPa.out _ X_6.out).mono ?_
      rintro e y7 ⟨rfl, hbc⟩
      dsimp only
      have b_7 := Lib.hid (b_6.out.trans (hbc.mono b_6.out.size))
      have X_7 := Lib.hid (SlAt.mono X_6.out (Nat.le_refl _) hbc)
      have Y_7 := Lib.hid (SlAt.mono Y_6.out (Nat.le_refl _) hbc)
      have C_7 := Lib.hid (C_6.out.below (Nat.le_refl _) hbc)
      clear b_6 X_6 Y_6 C_6
      go_wp2_with fail
      refine (HAw.out _).mono ?_
      rintro e y8 ⟨rfl, hbc⟩
      dsimp only
      have b_8 := Lib.hid (b_7.out.trans (hbc.mono b_7.out.size))
      have X_8 := Lib.hid (SlAt.mono X_7.out (Nat.le_refl _) hbc)
      have Y_8 := Lib.hid (SlAt.mono Y_7.out (Nat.le_refl _) hbc)
      have C_8 := Lib.hid (C_7.out.below (Nat.le_refl _) hbc)
      clear b_7 X_7 Y_7 C_7
      go_wp2_with fail
      go_ret
      exact ⟨rfl, b_8.out⟩
  · rw [hg] at HGr
    clear hg hn hm _hz _hy
    go_enter Tryd.func3, Tryd.ntmps3
    go_wp2_with fail
    refine (HGr.out _ HX.out HY.out).mono ?_
    rintro e y1 ⟨rfl, hbc⟩
    dsimp only
    have b_1 := Lib.hid (Hb.out.trans (hbc.mono Hb.out.size))
    have X_1 := Lib.hid (SlAt.mono HX.out (Nat.le_refl _) hbc)
    have Y_1 := Lib.hid (SlAt.mono HY.out (Nat.le_refl _) hbc)
    clear Hb HX HY
    go_wp2_with fail
    refine (HAw.out _).mono ?_
    rintro e y2 ⟨rfl, hbc⟩
    dsimp only
    have b_2 := Lib.hid (b_1.out.trans (hbc.mono b_1.out.size))
    have X_2 := Lib.hid (SlAt.mono X_1.out (Nat.le_refl _) hbc)
    have Y_2 := Lib.hid (SlAt.mono Y_1.out (Nat.le_refl _) hbc)
    clear b_1 X_1 Y_1
    go_wp2_with fail
    go_ret
    exact ⟨rfl, b_2.out⟩
end Go.Proofs.YteoemijgdcpopaaDoor
