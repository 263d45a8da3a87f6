/- The walk of matrix.characteristic. -/
import Derived.Test.YtlaoijfphkhchaaB11
namespace Go.Proofs.Ytlaoijfphkhchaa
open Go.RowKit Go.Shelf

/-- The matrices of the rounds, and their coefficients. -/
def chrM (n : Nat) (A : Nat → Nat → Int) : Nat → Nat → Nat → Int
  | 0 => fun i k => if i = k then 1 else 0
  | j + 1 => fun i k => mulF n A (chrM n A j) i k + if i = k then (-(dotN (fun i => mulF n A (chrM n A j) i i) n)) / ((j + 1 : Nat) : Int) else 0
def chrC (n : Nat) (A : Nat → Nat → Int) (j : Nat) : Int := (-(dotN (fun i => mulF n A (chrM n A j) i i) n)) / ((j + 1 : Nat) : Int)
/-- The coefficients when j rounds are done. -/
def chrP (n : Nat) (A : Nat → Nat → Int) (j m : Nat) : Int := if m = n then 1 else if n ≤ m + j then chrC n A (n - 1 - m) else 0
/-- All numbers are of moderate size. -/
structure ChrOk (n : Nat) (A : Nat → Nat → Int) : Prop where
  a : Small n n A
  m : ∀ j, j < n → Small n n (chrM n A j)
  p : ∀ j, j < n → SmallP n n n A (chrM n A j)
  s : ∀ j, j < n → Small n n (mulF n A (chrM n A j))
  t : ∀ j, j < n → ∀ i, i ≤ n → (canon (dotN (fun i => mulF n A (chrM n A j) i i) i)).mag.size ≤ 100000000
  c : ∀ j, j < n → (canon (chrC n A j)).mag.size ≤ 100000000
/-- What characteristic returns. -/
def RetChr (n : Nat) (A : Nat → Nat → Int) (w : World) (e : Ending) (w' : World) : Prop :=
  ∃ g q, e = .returned (.tuple #[.slice (some ⟨g, 0, none⟩) (n + 1) (n + 1), .slice (some ⟨q, 0, none⟩) n n]) ∧ ZAt w' g (n + 1) (chrP n A n) ∧ OwnMat w' w.heap.size q n n (chrM n A (n - 1)) ∧ Below w.heap.size w w'

theorem negc_any (a : Int) (ha : (canon a).mag.size ≤ 100000000) (w : World) :
    Calls Try.prog 86 #[.agg #[.bool (canon a).neg, .string (canon a).mag]] w (RetZ (canon (-a)) w) := by
  have h := neg_any (canon a) ha w
  rwa [negZ_val, valZ_canon] at h
theorem size_neg (a : Int) : (canon (-a)).mag.size = (canon a).mag.size := by
  unfold canon; simp
theorem quo_canon (a k : Int) (hk : 0 < k) : quoZ (canon a) (canon k) = canon (a / k) := by
  obtain ⟨K, hK⟩ : ∃ K : Nat, k = K := ⟨k.natAbs, by omega⟩
  subst hK
  have hKp : 0 < K := by omega
  unfold quoZ
  rw [absZ_canon, absZ_canon]
  have e1 : (canon (K : Int)).neg = false := by show decide ((K : Int) < 0) = false; rw [decide_eq_false_iff_not]; omega
  have eN : ((K : Int)).natAbs = K := by omega
  rw [e1, eN]
  by_cases ha : a < 0
  · have e2 : (canon a).neg = true := decide_eq_true ha
    rw [e2, if_neg (by decide)]
    obtain ⟨N, hN⟩ : ∃ N : Nat, a = -(N : Int) := ⟨a.natAbs, by omega⟩
    subst hN
    have eM : (-(N : Int)).natAbs = N := by omega
    rw [eM]
    have hdm := Nat.div_add_mod N K
    have hlt := Nat.mod_lt N hKp
    generalize N / K = q at *
    generalize N % K = r at *
    subst hdm
    by_cases hr : r = 0
    · rw [if_pos hr, mkZ_val]
      subst hr
      have h := (Int.ediv_emod_unique (a := -((K * q + 0 : Nat) : Int)) (b := (K : Int)) (r := 0) (q := -(q : Int)) (by omega)).2 ⟨by rw [Int.mul_neg]; push_cast; omega, by omega, by omega⟩
      rw [h.1]; rfl
    · rw [if_neg hr, mkZ_val]
      have h := (Int.ediv_emod_unique (a := -((K * q + r : Nat) : Int)) (b := (K : Int)) (r := (K : Int) - r) (q := -((q : Int) + 1)) (by omega)).2 ⟨by rw [Int.mul_neg, Int.mul_add]; push_cast; omega, by omega, by omega⟩
      rw [h.1]; rfl
  · have e2 : (canon a).neg = false := decide_eq_false ha
    rw [e2, if_pos rfl, mkZ_val]
    obtain ⟨N, hN⟩ : ∃ N : Nat, a = N := ⟨a.natAbs, by omega⟩
    subst hN
    rw [show ((N : Int)).natAbs = N from by omega, if_neg (by decide), Int.natCast_ediv]
theorem divc_any (a k : Int) (hk : 0 < k) (hk2 : k < 4294967296) (ha : (canon a).mag.size ≤ 100000000) (w : World) :
    Calls Try.prog 46 #[.agg #[.bool (canon a).neg, .string (canon a).mag], .agg #[.bool (canon k).neg, .string (canon k).mag]] w (RetDiv (canon (a / k)) (remZ (canon a) (canon k)) w) := by
  have h := div_short (canon a) (canon k) ha (Nat.le_trans (canon_size k (k := 4) (by omega)) (by decide)) (by rw [absZ_canon]; omega) (by rw [absZ_canon]; omega) w
  rwa [quo_canon a k hk] at h

set_option maxRecDepth 100000 in
set_option maxHeartbeats 4000000 in
theorem chr_any (n : Nat) (p : Option Addr) (cp : Nat) (A : Nat → Nat → Int) (h1 : 0 < n) (hn : n ≤ 1000) (w : World) (hA : MatF w p n n A) (hok : ChrOk n A) :
    Calls Try.prog 80 #[.slice p n cp] w (RetChr n A w) := by
  have HA := Lib.hid hA
  have Hok := Lib.hid hok
  clear hA hok
  have hmk := make_zs (n + 1) (by omega) w
  rw [show ((n + 1 : Nat) : Int) = (n : Int) + 1 from by omega] at hmk
  have hz := made_zero w (n + 1) 28
  have hb := (Below.refl w.heap.size w).alloc (Nat.le_refl _) (.cells (madeCells #[.bool false, .string ⟨#[]⟩] ((n + 1) * 2)) 28)
  generalize w.alloc (.cells (madeCells #[.bool false, .string ⟨#[]⟩] ((n + 1) * 2)) 28) = w1 at *
  obtain ⟨g, hg⟩ : ∃ g, w.heap.size = g := ⟨_, rfl⟩
  rw [hg] at hmk hz
  have HG := Lib.hid hg
  have Hz := Lib.hid hz
  have Hb := Lib.hid hb
  clear hz hb hg
  have n0 : (0 : Int) ≤ (n : Int) := by omega
  have n1 : (n : Int) < (n : Int) + 1 := by omega
  have hgl := Hz.out.1
  go_enter Try.func80, Try.ntmps80
  go_wp2_with fail
  refine (of_any 1 (by decide) (by decide) _).mono ?_
  rintro e w2 ⟨rfl, hb2⟩
  dsimp only
  have Hz2 := Lib.hid (Hz.out.below hb2 hgl)
  have Hb2 := Lib.hid (Hb.out.trans (hb2.mono Hb.out.size))
  obtain ⟨⟨z1, z2⟩, z3, z4⟩ := Hz2.out.2 n (by omega)
  obtain ⟨C1, hC1⟩ : ∃ Z, canon 1 = Z := ⟨_, rfl⟩
  rw [hC1]
  have HC1 := Lib.hid hC1
  clear hC1 hb2 hmk Hb Hz hgl
  go_wp2_with fail
  have hgw : w.heap.size ≤ g := by rw [HG.out]; exact Nat.le_refl _
  have Hb3 : Hid (Below w.heap.size w ((w2.setCell ⟨g, n * 2, none⟩ (.bool C1.neg)).setCell ⟨g, n * 2 + 1, none⟩ (.string C1.mag))) := Lib.hid ((Hb2.out.setCell hgw _).setCell hgw _)
  have Hz3 : Hid (ZAt ((w2.setCell ⟨g, n * 2, none⟩ (.bool C1.neg)).setCell ⟨g, n * 2 + 1, none⟩ (.string C1.mag)) g (n + 1) (fun i => if i = n then 1 else 0)) := Lib.hid (by have h := Hz2.out.set (k := n) 1; rw [HC1.out] at h; exact h)
  generalize (w2.setCell ⟨g, n * 2, none⟩ (.bool C1.neg)).setCell ⟨g, n * 2 + 1, none⟩ (.string C1.mag) = w3 at *
  rw [← HC1.out]
  refine (scalar_any 1 n (by omega) _).mono ?_
  rintro e w4 ⟨q, rfl, hq, hb4⟩
  dsimp only
  have Hz4 := Lib.hid (Hz3.out.below hb4 Hz3.out.1)
  have Hb4 := Lib.hid (Hb3.out.trans (hb4.mono Hb3.out.size))
  have Hq := Lib.hid (hq.low (C := g + 1) Hz3.out.1)
  clear z1 z2 z3 z4 Hz2 Hb2 Hz3 Hb3 hb4 hq
  go_wp2_with fail
  go_loopw [6, 7] (fun v u wr => ∃ (j q : Nat), j < n ∧ v = .slice (some ⟨q, 0, none⟩) n n ∧ u = .int .i64 ((j : Int) + 1) ∧ Hid (Below w.heap.size w wr) ∧ Hid (ZAt wr g (n + 1) (chrP n A j)) ∧ Hid (OwnMat wr (g + 1) q n n (chrM n A j))) (fun _ u _ => n - (intOf u).toNat)
  case atStart =>
    refine ⟨0, q, h1, rfl, by go_num, Hb4, Lib.hid (Hz4.out.congr fun k hk => ?_), Hq⟩
    unfold chrP
    by_cases e : k = n
    · rw [if_pos e, if_pos e]
    · rw [if_neg e, if_neg e, if_neg (by omega)]
  case round =>
    clear Hz4 Hb4 Hq
    obtain ⟨j, q, hj, rfl, rfl, Hb, Hz, Hq⟩ := hrel
    have hok := Hok.out
    have HAr := Lib.hid (HA.out.below (Nat.le_refl _) Hb.out)
    have HP := Lib.hid (product_any n n n p (some ⟨q, 0, none⟩) cp n A (chrM n A j) h1 (by omega) (by omega) (by omega) wr HAr.out Hq.out.mat hok.a (hok.m j hj) (hok.p j hj))
    clear hok
    go_wp2_with fail
    refine HP.out.mono ?_
    rintro e w5 ⟨qn, rfl, hn5, hb5⟩
    dsimp only
    have HT := Lib.hid (trace_any n n (some ⟨qn, 0, none⟩) n (mulF n A (chrM n A j)) (Nat.le_refl _) (by omega) w5 hn5.mat (Hok.out.s j hj) (Hok.out.t j hj))
    obtain ⟨T, hT⟩ : ∃ T, dotN (fun i => mulF n A (chrM n A j) i i) n = T := ⟨_, rfl⟩
    have hTs := Hok.out.t j hj n (Nat.le_refl _)
    have hCs := Hok.out.c j hj
    have hCd : chrC n A j = (-T) / ((j : Int) + 1) := by unfold chrC; rw [hT]; congr 1
    rw [hT] at HT hTs
    have HTs := Lib.hid hTs
    have HCs := Lib.hid hCs
    have HCd := Lib.hid hCd
    have Hn5 := Lib.hid (hn5.low (C := g + 1) Hz.out.1)
    have Hq5 := Lib.hid (Hq.out.call hb5)
    have Hz5 := Lib.hid (Hz.out.below hb5 Hz.out.1)
    have Hb5 := Lib.hid (Hb.out.trans (hb5.mono Hb.out.size))
    clear hT hTs hCs hCd HP hb5 hn5 HAr
    go_wp2_with fail
    refine HT.out.mono ?_
    rintro e w6 ⟨rfl, hb6⟩
    dsimp only
    have Hz6 := Lib.hid (Hz5.out.below hb6 Hz5.out.1)
    have Hn6 := Lib.hid (Hn5.out.call hb6)
    have Hq6 := Lib.hid (Hq5.out.call hb6)
    have Hb6 := Lib.hid (Hb5.out.trans (hb6.mono Hb5.out.size))
    clear HT hb6
    go_wp2_with fail
    refine (negc_any T HTs.out _).mono ?_
    rintro e w7 ⟨rfl, hb7⟩
    dsimp only
    have Hz7 := Lib.hid (Hz6.out.below hb7 Hz6.out.1)
    have Hn7 := Lib.hid (Hn6.out.call hb7)
    have Hq7 := Lib.hid (Hq6.out.call hb7)
    have Hb7 := Lib.hid (Hb6.out.trans (hb7.mono Hb6.out.size))
    clear hb7
    go_wp2_with fail
    refine (of_any ((j : Int) + 1) (by omega) (by omega) _).mono ?_
    rintro e w8 ⟨rfl, hb8⟩
    dsimp only
    have Hz8 := Lib.hid (Hz7.out.below hb8 Hz7.out.1)
    have Hn8 := Lib.hid (Hn7.out.call hb8)
    have Hq8 := Lib.hid (Hq7.out.call hb8)
    have Hb8 := Lib.hid (Hb7.out.trans (hb8.mono Hb7.out.size))
    clear hb8 Hz5 Hz6 Hz7 Hn5 Hn6 Hn7 Hb5 Hb6 Hb7 Hq5 Hq6 Hq7 Hq Hb Hz
    go_wp2_with fail
    refine (divc_any (-T) ((j : Int) + 1) (by omega) (by omega) (by rw [size_neg]; exact HTs.out) _).mono ?_
    rintro e w9 ⟨rfl, hb9⟩
    dsimp only
    have Hz9 := Lib.hid (Hz8.out.below hb9 Hz8.out.1)
    have Hn9 := Lib.hid (Hn8.out.call hb9)
    have Hq9 := Lib.hid (Hq8.out.call hb9)
    have Hb9 := Lib.hid (Hb8.out.trans (hb9.mono Hb8.out.size))
    rw [← HCd.out]
    obtain ⟨i, hi⟩ : ∃ i : Nat, i + j + 1 = n := ⟨n - 1 - j, by omega⟩
    have hiI : (n : Int) - ((j : Int) + 1) = i := by omega
    obtain ⟨⟨z1, z2⟩, z3, z4⟩ := Hz9.out.2 i (by omega)
    have i0 : (0 : Int) ≤ (i : Int) := by omega
    have i1 : (i : Int) < (n : Int) + 1 := by omega
    obtain ⟨C, hC⟩ : ∃ C, canon (chrC n A j) = C := ⟨_, rfl⟩
    rw [hC]
    have HC := Lib.hid hC
    clear hC hb9 Hz8 Hn8 Hb8 Hq8
    have hnew := Hz9.out.set (k := i) (chrC n A j)
    rw [HC.out] at hnew
    have Hznew := Lib.hid (hnew.congr (h := chrP n A (j + 1)) fun k hk => by
      by_cases e : k = i
      · subst e
        unfold chrP
        rw [if_pos rfl, if_neg (by omega), if_pos (by omega), show n - 1 - k = j from by omega]
      · rw [if_neg e]
        unfold chrP
        by_cases e2 : k = n
        · rw [if_pos e2, if_pos e2]
        · rw [if_neg e2, if_neg e2]
          by_cases e3 : n ≤ k + j
          · rw [if_pos e3, if_pos (by omega)]
          · rw [if_neg e3, if_neg (by omega)])
    have Hbnew : Hid (Below w.heap.size w ((w9.setCell ⟨g, i * 2, none⟩ (.bool C.neg)).setCell ⟨g, i * 2 + 1, none⟩ (.string C.mag))) := Lib.hid ((Hb9.out.setCell hgw _).setCell hgw _)
    have Hnnew := Lib.hid ((Hn9.out.other ⟨g, i * 2, none⟩ (.bool C.neg) (Nat.lt_succ_self g)).other ⟨g, i * 2 + 1, none⟩ (.string C.mag) (Nat.lt_succ_self g))
    have Hqnew := Lib.hid ((Hq9.out.other ⟨g, i * 2, none⟩ (.bool C.neg) (Nat.lt_succ_self g)).other ⟨g, i * 2 + 1, none⟩ (.string C.mag) (Nat.lt_succ_self g))
    clear hnew Hn9 Hq9 Hb9 Hz9
    by_cases hl : j + 1 = n
    · have hbq : (((j : Int) + 1) == (n : Int)) = true := by rw [beq_iff_eq]; omega
      go_wp2_with fail
      refine bodyPost_ret (v := .tuple #[.slice (some ⟨g, 0, none⟩) (n + 1) (n + 1), .slice (some ⟨q, 0, none⟩) n n]) (by simp [results, Try.results80, go_sem]) rfl ?_
      refine ⟨g, q, rfl, ?_, ?_, Hbnew.out⟩
      · have h := Hznew.out
        rw [hl] at h
        exact h
      · have h := Hqnew.out
        rw [show j = n - 1 from by omega] at h
        exact h.low (by omega)
    · have hbq : (((j : Int) + 1) == (n : Int)) = false := by rw [beq_eq_false_iff_ne]; omega
      go_wp2_with fail
      clear z1 z2 z3 z4
      generalize ((w9.setCell ⟨g, i * 2, none⟩ (.bool C.neg)).setCell ⟨g, i * 2 + 1, none⟩ (.string C.mag)) = w10 at *
      rw [← HC.out]
      refine (scalar_any (chrC n A j) n (by omega) _).mono ?_
      rintro e w11 ⟨qs, rfl, hs11, hb11⟩
      dsimp only
      have Hn11 := Lib.hid (Hnnew.out.call hb11)
      have Hz11 := Lib.hid (Hznew.out.below hb11 Hznew.out.1)
      have Hb11 := Lib.hid (Hbnew.out.trans (hb11.mono Hbnew.out.size))
      have HSm := Lib.hid (sum_any n n (some ⟨qn, 0, none⟩) (some ⟨qs, 0, none⟩) n n (mulF n A (chrM n A j)) (fun i k => if i = k then chrC n A j else 0) h1 (by omega) (by omega) w11 Hn11.out.mat hs11.mat (Hok.out.s j hj) (fun i k _ _ => by
        dsimp only
        split
        · exact HCs.out
        · exact Nat.zero_le _))
      clear hs11 hb11 Hnnew Hznew Hbnew Hqnew
      go_wp2_with fail
      refine HSm.out.mono ?_
      rintro e w12 ⟨qt, rfl, ht12, hb12⟩
      dsimp only
      have Hz12 := Lib.hid (Hz11.out.below hb12 Hz11.out.1)
      have Hb12 := Lib.hid (Hb11.out.trans (hb12.mono Hb11.out.size))
      have Ht12 : Hid (OwnMat w12 (g + 1) qt n n (chrM n A (j + 1))) := Lib.hid ((ht12.low (C := g + 1) Hz11.out.1).congr (fun _ _ _ _ => rfl))
      clear ht12 hb12 HSm
      go_wp2
      go_roundw
      case rel => exact ⟨j + 1, qt, by omega, rfl, by go_num, Hb12, Hz12, Ht12⟩
      case measure => simp [intOf]; omega
end Go.Proofs.Ytlaoijfphkhchaa
