/- MatrixSums: the walk. -/
import Derived.Test.YtlkoiekdafaapaaSms
import Derived.Test.YtlkoiekdafaapaaLExp
namespace Go.Proofs.Ytlkoiekdafaapaa
open Go.RowKit Go.Shelf

set_option maxRecDepth 100000 in
set_option maxHeartbeats 8000000 in
theorem lawSums (a : GM) (pa : Option Addr) (ca : Nat) (b : GM) (pb : Option Addr) (cb : Nat) (q : Option Addr) (nv cv : Nat) (Z : Nat → ZI) (n : Int) (w : World) (ha : a.In w pa) (hb : b.In w pb) (hq : GRow w q nv Z) (hnv : nv ≤ 9223372036854775807) (hZ : ∀ k, k < nv → (Z k).mag.size ≤ 9223372036854775807) :
    Calls Try.prog 9 #[.slice pa a.r ca, .slice pb b.r cb, .slice q nv cv, .int .i64 n] w (RetB true w) := by
  have HGa := Lib.hid (fun (W : World) (hW : Below w.heap.size w W) => great_any a pa ca ha.r ha.z W (ha.at'.below (Nat.le_refl _) hW))
  have HGb := Lib.hid (fun (W : World) (hW : Below w.heap.size w W) => great_any b pb cb hb.r hb.z W (hb.at'.below (Nat.le_refl _) hW))
  have HGr := Lib.hid (fun (W : World) (hW : Below w.heap.size w W) => greatRow_any nv q cv Z hZ hnv W (hq.mono (Nat.le_refl _) hW))
  have HB : Hid (∀ W, Below w.heap.size w W → a.At W pa ∧ b.At W pb ∧ GRow W q nv Z) := Lib.hid (fun W hW => ⟨ha.at'.below (Nat.le_refl _) hW, hb.at'.below (Nat.le_refl _) hW, hq.mono (Nat.le_refl _) hW⟩)
  clear hZ hnv hq ha hb
  by_cases fa : a.gt = false
  rotate_left 1
  · rw [Bool.not_eq_false] at fa
    rw [fa] at HGa
    clear HB fa
    generalize a.r = na at *
    generalize b.r = nb at *
    have Hbb : Hid (Below w.heap.size w w) := Lib.hid (Below.refl _ _)
    go_enter Try.func9, Try.ntmps9
    go_wp2_with fail
    refine (HGa.out _ Hbb.out).mono ?_
    rintro e y1 ⟨rfl, hbc⟩
    dsimp only
    have Hbb := Lib.hid (Hbb.out.trans (hbc.mono Hbb.out.size))
    clear hbc
    go_wp2_with fail
    refine (awake_any _).mono ?_
    rintro e y2 ⟨rfl, hbc⟩
    dsimp only
    have Hbb := Lib.hid (Hbb.out.trans (hbc.mono Hbb.out.size))
    clear hbc
    go_wp2
    go_ret
    exact ⟨rfl, Hbb.out⟩
  rw [fa] at HGa
  by_cases fb : b.gt = false
  rotate_left 1
  · rw [Bool.not_eq_false] at fb
    rw [fb] at HGb
    clear HB fa fb
    generalize a.r = na at *
    generalize b.r = nb at *
    have Hbb : Hid (Below w.heap.size w w) := Lib.hid (Below.refl _ _)
    go_enter Try.func9, Try.ntmps9
    go_wp2_with fail
    refine (HGa.out _ Hbb.out).mono ?_
    rintro e y1 ⟨rfl, hbc⟩
    dsimp only
    have Hbb := Lib.hid (Hbb.out.trans (hbc.mono Hbb.out.size))
    clear hbc
    go_wp2_with fail
    refine (HGb.out _ Hbb.out).mono ?_
    rintro e y2 ⟨rfl, hbc⟩
    dsimp only
    have Hbb := Lib.hid (Hbb.out.trans (hbc.mono Hbb.out.size))
    clear hbc
    go_wp2_with fail
    refine (awake_any _).mono ?_
    rintro e y3 ⟨rfl, hbc⟩
    dsimp only
    have Hbb := Lib.hid (Hbb.out.trans (hbc.mono Hbb.out.size))
    clear hbc
    go_wp2
    go_ret
    exact ⟨rfl, Hbb.out⟩
  rw [fb] at HGb
  by_cases fg : grB nv Z = false
  rotate_left 1
  · rw [Bool.not_eq_false] at fg
    rw [fg] at HGr
    clear HB fa fb fg
    generalize a.r = na at *
    generalize b.r = nb at *
    have Hbb : Hid (Below w.heap.size w w) := Lib.hid (Below.refl _ _)
    go_enter Try.func9, Try.ntmps9
    go_wp2_with fail
    refine (HGa.out _ Hbb.out).mono ?_
    rintro e y1 ⟨rfl, hbc⟩
    dsimp only
    have Hbb := Lib.hid (Hbb.out.trans (hbc.mono Hbb.out.size))
    clear hbc
    go_wp2_with fail
    refine (HGb.out _ Hbb.out).mono ?_
    rintro e y2 ⟨rfl, hbc⟩
    dsimp only
    have Hbb := Lib.hid (Hbb.out.trans (hbc.mono Hbb.out.size))
    clear hbc
    go_wp2_with fail
    refine (HGr.out _ Hbb.out).mono ?_
    rintro e y3 ⟨rfl, hbc⟩
    dsimp only
    have Hbb := Lib.hid (Hbb.out.trans (hbc.mono Hbb.out.size))
    clear hbc
    go_wp2_with fail
    refine (awake_any _).mono ?_
    rintro e y4 ⟨rfl, hbc⟩
    dsimp only
    have Hbb := Lib.hid (Hbb.out.trans (hbc.mono Hbb.out.size))
    clear hbc
    go_wp2
    go_ret
    exact ⟨rfl, Hbb.out⟩
  rw [fg] at HGr
  obtain ⟨ffa, _, _⟩ := GM.gt_fit fa
  obtain ⟨ffb, _, _⟩ := GM.gt_fit fb
  obtain ⟨gn, gn2, gz⟩ := grB_false fg
  have hn1 : addE a b = 0 → a.chk = 0 ∧ b.chk = 0 ∧ a.r = b.r ∧ a.L 0 = b.L 0 := addE_zero
  have hm1 : mulE a b = 0 → a.chk = 0 ∧ b.chk = 0 ∧ a.L 0 = b.r := mulE_zero
  have ht1 : trE a = 0 → a.chk = 0 := fun h => by
    unfold trE at h
    split at h
    · cases h
    · rename_i h2
      simpa using h2
  have hp1 : applyE a nv Z = 0 → a.chk = 0 ∧ nv = a.L 0 ∧ ∀ k, k < nv → Z k = canon (valZ (Z k)) := applyE_zero
  have qm : mulE a b = 0 → SmallQ a.r b.r (b.L 0) a.F b.F := fun h => by
    obtain ⟨h1, h2, h3⟩ := hm1 h
    obtain ⟨_, x1, _, _, x2⟩ := gt_says fa h1
    obtain ⟨_, y1, _, _, y2⟩ := gt_says fb h2
    rw [h3] at x2
    exact x2.smallQ y2 (two_pow y1) (by decide)
  have qs : mulE a b = 0 → Small a.r b.r a.F ∧ Small b.r (b.L 0) b.F ∧ SmallP a.r b.r (b.L 0) a.F b.F := fun h => by
    obtain ⟨h1, h2, h3⟩ := hm1 h
    obtain ⟨_, x1, _, _, x2⟩ := gt_says fa h1
    obtain ⟨_, y1, _, _, y2⟩ := gt_says fb h2
    rw [h3] at x2
    exact ⟨x2.small (by decide), y2.small (by decide), x2.smallP y2 (two_pow y1) (by decide)⟩
  have qa : addE a b = 0 → Small a.r (a.L 0) a.F ∧ Small b.r (b.L 0) b.F := fun h => by
    obtain ⟨h1, h2, h3, h4⟩ := hn1 h
    exact ⟨(gt_says fa h1).2.2.2.2.small (by decide), (gt_says fb h2).2.2.2.2.small (by decide)⟩
  have qb : addE a b = 0 → ∀ i k, i < a.r → k < a.L 0 → (canon (a.F i k)).mag.size < 100000000 ∧ (canon (b.F i k)).mag.size < 100000000 := fun h i k hi hk => by
    obtain ⟨h1, h2, h3, h4⟩ := hn1 h
    exact ⟨Nat.lt_of_le_of_lt (((gt_says fa h1).2.2.2.2 i k hi hk).size 1000 (by decide)) (by decide), Nat.lt_of_le_of_lt (((gt_says fb h2).2.2.2.2 i k (by omega) (by omega)).size 1000 (by decide)) (by decide)⟩
  have qv : BnM nv 1 (fun j _ => valZ (Z j)) 24 := fun i k hi _ => absZ_bn (gz i hi)
  have qp : applyE a nv Z = 0 → Small a.r nv a.F ∧ SmallP a.r nv 1 a.F (fun j _ => valZ (Z j)) := fun h => by
    obtain ⟨h1, h2, _⟩ := hp1 h
    obtain ⟨_, x1, _, x3, x2⟩ := gt_says fa h1
    rw [← h2] at x2
    exact ⟨x2.small (by decide), x2.smallP qv (two_pow (by omega)) (by decide)⟩
  have qq : applyE a nv Z = 0 → SmallQ a.r nv 1 a.F (fun j _ => valZ (Z j)) := fun h => by
    obtain ⟨h1, h2, _⟩ := hp1 h
    obtain ⟨_, x1, _, x3, x2⟩ := gt_says fa h1
    rw [← h2] at x2
    exact x2.smallQ qv (two_pow (by omega)) (by decide)
  have HI1 := Lib.hid (fun W => (identity_any n W).mono fun _ _ h => h.ans)
  have HI2 := Lib.hid (fun W => (refIdentity_any n W).mono fun _ _ h => h.ans)
  have HC1 := Lib.hid (fun W (hW : Below w.heap.size w W) => check_m a pa ca ffa W (HB.out W hW).1)
  have HC2 := Lib.hid (fun W (hW : Below w.heap.size w W) => refCheck_m a pa ca ffa W (HB.out W hW).1)
  have HA1 := Lib.hid (fun W (hW : Below w.heap.size w W) => (add_m a b pa pb ca cb ffa ffb qa W (HB.out W hW).1 (HB.out W hW).2.1).mono fun _ _ h => h.ans)
  have HA2 := Lib.hid (fun W (hW : Below w.heap.size w W) => (refAdd_m a b pa pb ca cb ffa ffb qb W (HB.out W hW).1 (HB.out W hW).2.1).mono fun _ _ h => h.ans)
  have HM1 := Lib.hid (fun W (hW : Below w.heap.size w W) => (mul_m a b pa pb ca cb ffa ffb qs W (HB.out W hW).1 (HB.out W hW).2.1).mono fun _ _ h => h.ans)
  have HM2 := Lib.hid (fun W (hW : Below w.heap.size w W) => (refMul_m a b pa pb ca cb ffa ffb qm W (HB.out W hW).1 (HB.out W hW).2.1).mono fun _ _ h => h.ans)
  have HT1 := Lib.hid (fun W (hW : Below w.heap.size w W) => (tr_m a pa ca ffa W (HB.out W hW).1).mono fun _ _ h => h.ans)
  have HT2 := Lib.hid (fun W (hW : Below w.heap.size w W) => (refTr_m a pa ca ffa W (HB.out W hW).1).mono fun _ _ h => h.ans)
  have HP1 := Lib.hid (fun W (hW : Below w.heap.size w W) => (apply_m a pa ca q nv cv Z ffa (by omega) (fun k hk => Nat.le_trans (gz k hk) (by decide)) qp W (HB.out W hW).1 (HB.out W hW).2.2).mono fun _ _ h => h.ans)
  have HP2 := Lib.hid (fun W (hW : Below w.heap.size w W) => (refApply_m a pa ca q nv cv Z ffa (by omega) (fun k hk => Nat.le_trans (gz k hk) (by decide)) qq W (HB.out W hW).1 (HB.out W hW).2.2).mono fun _ _ h => h.ans)
  have zi := rowsE_le (E := if n < 1 ∨ 32 < n then 2 else 0) (n := n.toNat) (fun h => by
    split at h
    · cases h
    · omega)
  have za1 := rowsE_le (E := addE a b) (n := a.r) (fun h => by have := gt_says fa (hn1 h).1; omega)
  have za2 := rowsE_le (E := addE a b) (n := a.L 0) (fun h => by have := gt_says fa (hn1 h).1; omega)
  have zm1 := rowsE_le (E := mulE a b) (n := a.r) (fun h => by have := gt_says fa (hm1 h).1; omega)
  have zm2 := rowsE_le (E := mulE a b) (n := b.L 0) (fun h => by have := gt_says fb (hm1 h).2.1; omega)
  have zt1 := rowsE_le (E := trE a) (n := a.L 0) (fun h => by have := gt_says fa (ht1 h); omega)
  have zt2 := rowsE_le (E := trE a) (n := a.r) (fun h => by have := gt_says fa (ht1 h); omega)
  have zp := rowsE_le (E := applyE a nv Z) (n := a.r) (fun h => by have := gt_says fa (hp1 h).1; omega)
  clear HB fa fb fg hn1 hm1 ht1 hp1 qm qs qa qb qv qp qq gn gn2 gz ffa ffb
  generalize (if n < 1 ∨ 32 < n then (2 : Int) else 0) = ei at *
  generalize rowsE ei n.toNat = ri at *
  generalize rowsE (addE a b) a.r = ra1 at *
  generalize rowsE (addE a b) (a.L 0) = ra2 at *
  generalize rowsE (mulE a b) a.r = rm1 at *
  generalize rowsE (mulE a b) (b.L 0) = rm2 at *
  generalize rowsE (trE a) a.r = rt2 at *
  generalize rowsE (trE a) (a.L 0) = rt1 at *
  generalize rowsE (applyE a nv Z) a.r = rp at *
  generalize addE a b = ea at *
  generalize mulE a b = em at *
  generalize trE a = et at *
  generalize applyE a nv Z = ep at *
  generalize a.chk = ck at *
  generalize (fun i => dotN (fun j => a.F i j * valZ (Z j)) nv) = DP at *
  generalize mulF b.r a.F b.F = DM at *
  generalize (fun i k => a.F k i) = DT at *
  generalize (fun i k => a.F i k + b.F i k) = DA at *
  generalize (fun i k : Nat => if i = k then (1 : Int) else 0) = DI at *
  generalize a.r = na at *
  generalize b.r = nb at *
  have Hbb : Hid (Below w.heap.size w w) := Lib.hid (Below.refl _ _)
  go_enter Try.func9, Try.ntmps9
  go_wp2_with fail
  refine (HGa.out _ Hbb.out).mono ?_
  rintro e y1 ⟨rfl, hbc⟩
  dsimp only
  have Hbb := Lib.hid (Hbb.out.trans (hbc.mono Hbb.out.size))
  clear hbc
  go_wp2_with fail
  refine (HGb.out _ Hbb.out).mono ?_
  rintro e y2 ⟨rfl, hbc⟩
  dsimp only
  have Hbb := Lib.hid (Hbb.out.trans (hbc.mono Hbb.out.size))
  clear hbc
  go_wp2_with fail
  refine (HGr.out _ Hbb.out).mono ?_
  rintro e y3 ⟨rfl, hbc⟩
  dsimp only
  have Hbb := Lib.hid (Hbb.out.trans (hbc.mono Hbb.out.size))
  clear hbc
  clear HGa HGb HGr
  go_wp2_with fail
  refine (HI1.out _).mono ?_
  rintro e y4 ⟨v1, rfl, hsc, hbc⟩
  dsimp only
  have Hbb := Lib.hid (Hbb.out.trans (hbc.mono Hbb.out.size))
  have S1 := Lib.hid hsc
  clear hbc hsc
  go_wp2_with fail
  refine (HI2.out _).mono ?_
  rintro e y5 ⟨v2, rfl, hsc, hbc⟩
  dsimp only
  have S1 := Lib.hid (S1.out.below hbc)
  have Hbb := Lib.hid (Hbb.out.trans (hbc.mono Hbb.out.size))
  have S2 := Lib.hid hsc
  clear hbc hsc
  go_wp2_with fail
  refine (HC1.out _ Hbb.out).mono ?_
  rintro e y6 ⟨rfl, hbc⟩
  dsimp only
  have S1 := Lib.hid (S1.out.below hbc)
  have S2 := Lib.hid (S2.out.below hbc)
  have Hbb := Lib.hid (Hbb.out.trans (hbc.mono Hbb.out.size))
  clear hbc
  go_wp2_with fail
  refine (HC2.out _ Hbb.out).mono ?_
  rintro e y7 ⟨rfl, hbc⟩
  dsimp only
  have S1 := Lib.hid (S1.out.below hbc)
  have S2 := Lib.hid (S2.out.below hbc)
  have Hbb := Lib.hid (Hbb.out.trans (hbc.mono Hbb.out.size))
  clear hbc
  go_wp2_with fail
  refine (ans_same S1.out S2.out zi zi).mono ?_
  rintro e y8 ⟨rfl, hbc⟩
  dsimp only
  have S1 := Lib.hid (S1.out.below hbc)
  have S2 := Lib.hid (S2.out.below hbc)
  have Hbb := Lib.hid (Hbb.out.trans (hbc.mono Hbb.out.size))
  clear hbc S1 S2
  clear HI1 HI2 HC1 HC2
  go_wp2_with fail
  refine (HA1.out _ Hbb.out).mono ?_
  rintro e y9 ⟨v3, rfl, hsc, hbc⟩
  dsimp only
  have Hbb := Lib.hid (Hbb.out.trans (hbc.mono Hbb.out.size))
  have S3 := Lib.hid hsc
  clear hbc hsc
  clear HA1
  go_wp2_with fail
  refine (HA2.out _ Hbb.out).mono ?_
  rintro e y10 ⟨v4, rfl, hsc, hbc⟩
  dsimp only
  have S3 := Lib.hid (S3.out.below hbc)
  have Hbb := Lib.hid (Hbb.out.trans (hbc.mono Hbb.out.size))
  have S4 := Lib.hid hsc
  clear hbc hsc
  clear HA2
  go_wp2_with fail
  refine (HM1.out _ Hbb.out).mono ?_
  rintro e y11 ⟨v5, rfl, hsc, hbc⟩
  dsimp only
  have S3 := Lib.hid (S3.out.below hbc)
  have S4 := Lib.hid (S4.out.below hbc)
  have Hbb := Lib.hid (Hbb.out.trans (hbc.mono Hbb.out.size))
  have S5 := Lib.hid hsc
  clear hbc hsc
  clear HM1
  go_wp2_with fail
  refine (HM2.out _ Hbb.out).mono ?_
  rintro e y12 ⟨v6, rfl, hsc, hbc⟩
  dsimp only
  have S3 := Lib.hid (S3.out.below hbc)
  have S4 := Lib.hid (S4.out.below hbc)
  have S5 := Lib.hid (S5.out.below hbc)
  have Hbb := Lib.hid (Hbb.out.trans (hbc.mono Hbb.out.size))
  have S6 := Lib.hid hsc
  clear hbc hsc
  clear HM2
  go_wp2_with fail
  refine (HT1.out _ Hbb.out).mono ?_
  rintro e y13 ⟨v7, rfl, hsc, hbc⟩
  dsimp only
  have S3 := Lib.hid (S3.out.below hbc)
  have S4 := Lib.hid (S4.out.below hbc)
  have S5 := Lib.hid (S5.out.below hbc)
  have S6 := Lib.hid (S6.out.below hbc)
  have Hbb := Lib.hid (Hbb.out.trans (hbc.mono Hbb.out.size))
  have S7 := Lib.hid hsc
  clear hbc hsc
  clear HT1
  go_wp2_with fail
  refine (HT2.out _ Hbb.out).mono ?_
  rintro e y14 ⟨v8, rfl, hsc, hbc⟩
  dsimp only
  have S3 := Lib.hid (S3.out.below hbc)
  have S4 := Lib.hid (S4.out.below hbc)
  have S5 := Lib.hid (S5.out.below hbc)
  have S6 := Lib.hid (S6.out.below hbc)
  have S7 := Lib.hid (S7.out.below hbc)
  have Hbb := Lib.hid (Hbb.out.trans (hbc.mono Hbb.out.size))
  have S8 := Lib.hid hsc
  clear hbc hsc
  clear HT2
  go_wp2_with fail
  refine (HP1.out _ Hbb.out).mono ?_
  rintro e y15 ⟨v9, rfl, hsc, hbc⟩
  dsimp only
  have S3 := Lib.hid (S3.out.below hbc)
  have S4 := Lib.hid (S4.out.below hbc)
  have S5 := Lib.hid (S5.out.below hbc)
  have S6 := Lib.hid (S6.out.below hbc)
  have S7 := Lib.hid (S7.out.below hbc)
  have S8 := Lib.hid (S8.out.below hbc)
  have Hbb := Lib.hid (Hbb.out.trans (hbc.mono Hbb.out.size))
  have S9 := Lib.hid hsc
  clear hbc hsc
  clear HP1
  go_wp2_with fail
  refine (HP2.out _ Hbb.out).mono ?_
  rintro e y16 ⟨v10, rfl, hsc, hbc⟩
  dsimp only
  have S3 := Lib.hid (S3.out.below hbc)
  have S4 := Lib.hid (S4.out.below hbc)
  have S5 := Lib.hid (S5.out.below hbc)
  have S6 := Lib.hid (S6.out.below hbc)
  have S7 := Lib.hid (S7.out.below hbc)
  have S8 := Lib.hid (S8.out.below hbc)
  have S9 := Lib.hid (S9.out.below hbc)
  have Hbb := Lib.hid (Hbb.out.trans (hbc.mono Hbb.out.size))
  have S10 := Lib.hid hsc
  clear hbc hsc
  clear HP2
  go_wp2_with fail
  refine (ans_same S3.out S4.out za1 za2).mono ?_
  rintro e y17 ⟨rfl, hbc⟩
  dsimp only
  have S3 := Lib.hid (S3.out.below hbc)
  have S4 := Lib.hid (S4.out.below hbc)
  have S5 := Lib.hid (S5.out.below hbc)
  have S6 := Lib.hid (S6.out.below hbc)
  have S7 := Lib.hid (S7.out.below hbc)
  have S8 := Lib.hid (S8.out.below hbc)
  have S9 := Lib.hid (S9.out.below hbc)
  have S10 := Lib.hid (S10.out.below hbc)
  have Hbb := Lib.hid (Hbb.out.trans (hbc.mono Hbb.out.size))
  clear hbc S3 S4
  go_wp2_with fail
  refine (ans_same S5.out S6.out zm1 zm2).mono ?_
  rintro e y18 ⟨rfl, hbc⟩
  dsimp only
  have S5 := Lib.hid (S5.out.below hbc)
  have S6 := Lib.hid (S6.out.below hbc)
  have S7 := Lib.hid (S7.out.below hbc)
  have S8 := Lib.hid (S8.out.below hbc)
  have S9 := Lib.hid (S9.out.below hbc)
  have S10 := Lib.hid (S10.out.below hbc)
  have Hbb := Lib.hid (Hbb.out.trans (hbc.mono Hbb.out.size))
  clear hbc S5 S6
  go_wp2_with fail
  refine (ans_same S7.out S8.out zt1 zt2).mono ?_
  rintro e y19 ⟨rfl, hbc⟩
  dsimp only
  have S7 := Lib.hid (S7.out.below hbc)
  have S8 := Lib.hid (S8.out.below hbc)
  have S9 := Lib.hid (S9.out.below hbc)
  have S10 := Lib.hid (S10.out.below hbc)
  have Hbb := Lib.hid (Hbb.out.trans (hbc.mono Hbb.out.size))
  clear hbc S7 S8
  go_wp2_with fail
  refine (ans_sameRow S9.out S10.out zp).mono ?_
  rintro e y20 ⟨rfl, hbc⟩
  dsimp only
  have S9 := Lib.hid (S9.out.below hbc)
  have S10 := Lib.hid (S10.out.below hbc)
  have Hbb := Lib.hid (Hbb.out.trans (hbc.mono Hbb.out.size))
  clear hbc S9 S10
  go_wp2_with fail
  refine (awake_any _).mono ?_
  rintro e y21 ⟨rfl, hbc⟩
  dsimp only
  have Hbb := Lib.hid (Hbb.out.trans (hbc.mono Hbb.out.size))
  clear hbc
  go_wp2
  go_ret
  exact ⟨rfl, Hbb.out⟩
end Go.Proofs.Ytlkoiekdafaapaa
