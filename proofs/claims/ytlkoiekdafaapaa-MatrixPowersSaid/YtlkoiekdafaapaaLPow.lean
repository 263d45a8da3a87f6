/- MatrixPowers: the walk. -/
import Derived.Test.YtlkoiekdafaapaaSms
import Derived.Test.YtlkoiekdafaapaaLExp
import Derived.Test.YtlkoiekdafaapaaGr7
namespace Go.Proofs.Ytlkoiekdafaapaa
open Go.RowKit Go.Shelf

theorem GM.top {m : GM} {w : World} {p : Option Addr} (h : m.At w p) (h0 : 0 < m.r) (h1 : 0 < m.L 0) :
    ∃ b off rb ro c, p = some ⟨b, off, none⟩ ∧ w.cell? ⟨b, off, none⟩ = some (.slice (some ⟨rb, ro, none⟩) (m.L 0) c) ∧ w.cell? ⟨rb, ro, none⟩ = some (.bool (m.Z 0 0).neg) ∧ w.cell? ⟨rb, ro + 1, none⟩ = some (.string (m.Z 0 0).mag) := by
  obtain ⟨H, g1, g2⟩ := h
  rcases g1 with h | ⟨b, off, rfl, _, hc⟩
  · omega
  have g3 := g2 0 h0
  have g4 : w.cell? ⟨b, off, none⟩ = some (.slice (H 0).1 (m.L 0) (H 0).2) := by simpa using hc 0 h0 0 (by omega)
  rcases g3 with h | ⟨rb, ro, he, _, hd⟩
  · omega
  rw [he] at g4
  refine ⟨b, off, rb, ro, (H 0).2, rfl, g4, ?_, ?_⟩
  · simpa [zg] using hd 0 h1 0 (by omega)
  · simpa [zg] using hd 0 h1 1 (by omega)
theorem bitsN_le {v k : Nat} (h : v < 2 ^ k) : bitsN v ≤ k := by
  obtain ⟨_, h2⟩ := isBits_bitsN v
  rcases h2 with h2 | h2
  · omega
  · by_cases h3 : bitsN v ≤ k
    · exact h3
    · have := Nat.pow_le_pow_right (n := 2) (by decide) (show k ≤ bitsN v - 1 by omega)
      omega
theorem powE_zero {a : GM} {n : Int} (h : powE a n = 0) : a.sq = 0 ∧ 0 ≤ n ∧ n ≤ 4096 ∧ ((mxM (bitM a.F) a.r a.r + bitsN a.r : Nat) : Int) * n ≤ 65536 := by
  unfold powE at h
  split at h
  · rename_i h1; exact absurd h h1
  · rename_i h1
    split at h
    · cases h
    · split at h
      · cases h
      · refine ⟨by omega, by omega, by omega, by omega⟩
theorem mxC_ge {b : Nat} {f : Nat → Nat} {k : Nat} : b ≤ mxC b f k ∧ ∀ j, j < k → f j ≤ mxC b f k := by
  induction k with
  | zero => exact ⟨Nat.le_refl _, fun j hj => by omega⟩
  | succ k ih =>
    refine ⟨Nat.le_trans ih.1 (Nat.le_max_left _ _), fun j hj => ?_⟩
    by_cases h : j = k
    · subst h; exact Nat.le_max_right _ _
    · exact Nat.le_trans (ih.2 j (by omega)) (Nat.le_max_left _ _)
theorem mxM_ge {G : Nat → Nat → Nat} {c r : Nat} (h0 : 0 < r) (h1 : 0 < c) : G 0 0 ≤ mxM G c r := by
  induction r with
  | zero => omega
  | succ r ih =>
    by_cases h : r = 0
    · subst h; exact mxC_ge.2 0 h1
    · exact Nat.le_trans (ih (by omega)) mxC_ge.1
/-- The answer of Power stays where n is small. -/
theorem pow_small {a : GM} {n : Int} (_h : 12 < n) (hb : 0 < a.L 0 → 65536 < (bitsN (absZ (a.Z 0 0)) : Int) * n) : powE a n ≠ 0 := by
  intro h0
  obtain ⟨h1, _, h2, h3⟩ := powE_zero h0
  obtain ⟨h4, h5, h6, h7⟩ := GM.sq_zero h1
  have h8 := (GM.chk_zero h4).2.1
  have h9 := hb h8
  have h10 : bitsN (absZ (a.Z 0 0)) ≤ mxM (bitM a.F) a.r a.r := by
    have : bitM a.F 0 0 = bitsN (absZ (a.Z 0 0)) := by
      unfold bitM GM.F
      congr 1
      unfold valZ
      split <;> omega
    rw [← this]
    exact mxM_ge (by omega) (by omega)
  have h11 : (bitsN (absZ (a.Z 0 0)) : Int) * n ≤ ((mxM (bitM a.F) a.r a.r + bitsN a.r : Nat) : Int) * n := Int.mul_le_mul_of_nonneg_right (by omega) (by omega)
  omega
set_option maxRecDepth 100000 in
set_option maxHeartbeats 8000000 in
theorem lawPow (a : GM) (pa : Option Addr) (ca : Nat) (n : Int) (w : World) (ha : a.In w pa) :
    Calls Try.prog 3 #[.slice pa a.r ca, .int .i64 n] w (RetB true w) := by
  have HGa := Lib.hid (fun (W : World) (hW : Below w.heap.size w W) => great_any a pa ca ha.r ha.z W (ha.at'.below (Nat.le_refl _) hW))
  have HB : Hid (∀ W, Below w.heap.size w W → a.At W pa) := Lib.hid (fun W hW => ha.at'.below (Nat.le_refl _) hW)
  clear ha
  by_cases fa : a.gt = false
  rotate_left 1
  · rw [Bool.not_eq_false] at fa
    rw [fa] at HGa
    clear HB fa
    generalize a.r = na at *
    have Hbb : Hid (Below w.heap.size w w) := Lib.hid (Below.refl _ _)
    go_enter Try.func3, Try.ntmps3
    go_wp2_with fail
    refine (HGa.out _ Hbb.out).mono ?_
    rintro e y1 ⟨rfl, hbc⟩
    dsimp only
    have Hbb := Lib.hid (Hbb.out.trans (hbc.mono Hbb.out.size))
    clear hbc
    go_wp2_with fail
    refine (awake_any _).mono ?_
    rintro e y2 ⟨rfl, hbc⟩
    dsimp only
    have Hbb := Lib.hid (Hbb.out.trans (hbc.mono Hbb.out.size))
    clear hbc
    go_wp2
    go_ret
    exact ⟨rfl, Hbb.out⟩
  rw [fa] at HGa
  obtain ⟨ffa, _, _⟩ := GM.gt_fit fa
  have bz : powE a n = 0 → 0 ≤ n ∧ 0 < a.r ∧ a.r ≤ 2 ^ 2 ∧ BnM a.r a.r a.F 24 := fun h => by
    obtain ⟨h1, h2, _, _⟩ := powE_zero h
    obtain ⟨h4, h5, h6, h7⟩ := GM.sq_zero h1
    obtain ⟨x0, x1, _, _, x2⟩ := gt_says fa h4
    rw [← h5] at x2
    exact ⟨h2, x0, two_pow x1, x2⟩
  have HP : Hid ((powE a n = 0 → n ≤ 12) → (∀ W, Below w.heap.size w W → Calls Try.prog 15 #[.slice pa a.r ca, .int .i64 n] W (RetA (powE a n) (rowsE (powE a n) a.r) (rowsE (powE a n) a.r) (powF a.r a.F n.toNat) W)) ∧ (∀ W, Below w.heap.size w W → Calls Try.prog 16 #[.slice pa a.r ca, .int .i64 n] W (RetA (powE a n) (rowsE (powE a n) a.r) (rowsE (powE a n) a.r) (powF a.r a.F n.toNat) W))) := Lib.hid (fun h12 =>
    ⟨fun W hW => (pow_m a pa ca n ffa (fun h => by
        obtain ⟨h1, h2, h3, h4⟩ := bz h
        have h5 := h12 h
        have h6 : n.toNat * (24 + 2) ≤ 12 * (24 + 2) := Nat.mul_le_mul_right _ (by omega)
        exact powOk_of h4 h3 (by omega)) W (HB.out W hW)).mono fun _ _ h => h.ans,
     fun W hW => (refPow_m a pa ca n ffa (fun h u hu => by
        obtain ⟨h1, h2, h3, h4⟩ := bz h
        have h5 := h12 h
        have h6 : u * (24 + 2) ≤ 12 * (24 + 2) := Nat.mul_le_mul_right _ (by omega)
        exact (powF_bn h4 h3 u).smallQ h4 h3 (by omega)) W (HB.out W hW)).mono fun _ _ h => h.ans⟩)
  have zp := rowsE_le (E := powE a n) (n := a.r) (fun h => by have := (bz h).2.2.1; omega)
  have HTop := Lib.hid (fun (h0 : 0 < a.r) (h1 : 0 < a.L 0) => GM.top (HB.out w (Below.refl _ _)) h0 h1)
  have HHead := Lib.hid (fun (h0 : 0 < a.r) => GM.head (HB.out w (Below.refl _ _)) h0)
  have hsz : 0 < a.r → 0 < a.L 0 → (a.Z 0 0).mag.size ≤ 3 := fun h0 h1 => (GM.gt_fit fa).2.1 0 h0 0 h1
  have hps : 12 < n → (0 < a.L 0 → 65536 < (bitsN (absZ (a.Z 0 0)) : Int) * n) → powE a n ≠ 0 := fun h hb => pow_small h hb
  clear bz ffa fa HB
  have HE4 := Lib.hid (fun (h : ¬ n ≤ 4096) (h0 : powE a n = 0) => show n ≤ 12 from absurd (powE_zero h0).2.2.1 h)
  have Hsz := Lib.hid hsz
  have Hps := Lib.hid hps
  clear hsz hps
  obtain ⟨z, hz⟩ : ∃ z, a.Z 0 0 = z := ⟨_, rfl⟩
  rw [hz] at HTop Hsz Hps
  clear hz
  generalize powF a.r a.F n.toNat = D at *
  generalize rowsE (powE a n) a.r = rr at *
  generalize powE a n = E at *
  generalize a.r = na at *
  generalize a.L 0 = l at *
  by_cases h12 : n > 12
  rotate_left 1
  · have n1 : ¬ n > 12 := h12
    obtain ⟨hP1, hP2⟩ := HP.out (fun _ => by omega)
    have HP1 := Lib.hid hP1
    have HP2 := Lib.hid hP2
    clear hP1 hP2 HP
    clear h12 HTop HHead Hsz Hps
    have Hbb : Hid (Below w.heap.size w w) := Lib.hid (Below.refl _ _)
    go_enter Try.func3, Try.ntmps3
    go_wp2_with fail
    refine (HGa.out _ Hbb.out).mono ?_
    rintro e y1 ⟨rfl, hbc⟩
    dsimp only
    have Hbb := Lib.hid (Hbb.out.trans (hbc.mono Hbb.out.size))
    clear hbc
    clear HGa
    go_wp2_with fail
    refine (HP1.out _ Hbb.out).mono ?_
    rintro e y2 ⟨v1, rfl, hsc, hbc⟩
    dsimp only
    have Hbb := Lib.hid (Hbb.out.trans (hbc.mono Hbb.out.size))
    have S1 := Lib.hid hsc
    clear hbc hsc
    clear HP1
    go_wp2_with fail
    refine (HP2.out _ Hbb.out).mono ?_
    rintro e y3 ⟨v2, rfl, hsc, hbc⟩
    dsimp only
    have S1 := Lib.hid (S1.out.below hbc)
    have Hbb := Lib.hid (Hbb.out.trans (hbc.mono Hbb.out.size))
    have S2 := Lib.hid hsc
    clear hbc hsc
    clear HP2
    go_wp2_with fail
    refine (ans_same S1.out S2.out zp zp).mono ?_
    rintro e y4 ⟨rfl, hbc⟩
    dsimp only
    have S1 := Lib.hid (S1.out.below hbc)
    have S2 := Lib.hid (S2.out.below hbc)
    have Hbb := Lib.hid (Hbb.out.trans (hbc.mono Hbb.out.size))
    clear hbc S1 S2
    go_wp2_with fail
    refine (awake_any _).mono ?_
    rintro e y5 ⟨rfl, hbc⟩
    dsimp only
    have Hbb := Lib.hid (Hbb.out.trans (hbc.mono Hbb.out.size))
    clear hbc
    go_wp2
    go_ret
    exact ⟨rfl, Hbb.out⟩
  by_cases h40 : n ≤ 4096
  rotate_left 1
  · have n2 : ¬ n ≤ 4096 := h40
    obtain ⟨hP1, hP2⟩ := HP.out (HE4.out h40)
    have HP1 := Lib.hid hP1
    have HP2 := Lib.hid hP2
    clear hP1 hP2 HP
    clear h40 HTop HHead Hsz Hps HE4
    have Hbb : Hid (Below w.heap.size w w) := Lib.hid (Below.refl _ _)
    go_enter Try.func3, Try.ntmps3
    go_wp2_with fail
    refine (HGa.out _ Hbb.out).mono ?_
    rintro e y1 ⟨rfl, hbc⟩
    dsimp only
    have Hbb := Lib.hid (Hbb.out.trans (hbc.mono Hbb.out.size))
    clear hbc
    clear HGa
    go_wp2_with fail
    refine (HP1.out _ Hbb.out).mono ?_
    rintro e y2 ⟨v1, rfl, hsc, hbc⟩
    dsimp only
    have Hbb := Lib.hid (Hbb.out.trans (hbc.mono Hbb.out.size))
    have S1 := Lib.hid hsc
    clear hbc hsc
    clear HP1
    go_wp2_with fail
    refine (HP2.out _ Hbb.out).mono ?_
    rintro e y3 ⟨v2, rfl, hsc, hbc⟩
    dsimp only
    have S1 := Lib.hid (S1.out.below hbc)
    have Hbb := Lib.hid (Hbb.out.trans (hbc.mono Hbb.out.size))
    have S2 := Lib.hid hsc
    clear hbc hsc
    clear HP2
    go_wp2_with fail
    refine (ans_same S1.out S2.out zp zp).mono ?_
    rintro e y4 ⟨rfl, hbc⟩
    dsimp only
    have S1 := Lib.hid (S1.out.below hbc)
    have S2 := Lib.hid (S2.out.below hbc)
    have Hbb := Lib.hid (Hbb.out.trans (hbc.mono Hbb.out.size))
    clear hbc S1 S2
    go_wp2_with fail
    refine (awake_any _).mono ?_
    rintro e y5 ⟨rfl, hbc⟩
    dsimp only
    have Hbb := Lib.hid (Hbb.out.trans (hbc.mono Hbb.out.size))
    clear hbc
    go_wp2
    go_ret
    exact ⟨rfl, Hbb.out⟩
  clear HE4
  by_cases hna : 0 < na
  rotate_left 1
  · have r0 : ¬ (na : Int) > 0 := by omega
    clear HP HTop HHead Hsz Hps hna
    have Hbb : Hid (Below w.heap.size w w) := Lib.hid (Below.refl _ _)
    go_enter Try.func3, Try.ntmps3
    go_wp2_with fail
    refine (HGa.out _ Hbb.out).mono ?_
    rintro e y1 ⟨rfl, hbc⟩
    dsimp only
    have Hbb := Lib.hid (Hbb.out.trans (hbc.mono Hbb.out.size))
    clear hbc
    clear HGa
    go_wp2_with fail
    refine (awake_any _).mono ?_
    rintro e y2 ⟨rfl, hbc⟩
    dsimp only
    have Hbb := Lib.hid (Hbb.out.trans (hbc.mono Hbb.out.size))
    clear hbc
    go_wp2
    go_ret
    exact ⟨rfl, Hbb.out⟩
  have r0 : (na : Int) > 0 := by omega
  by_cases hl : 0 < l
  rotate_left 1
  · obtain ⟨b, off, q, c, rfl, hb, a0⟩ := HHead.out hna
    have l0 : ¬ (l : Int) > 0 := by omega
    clear HP HTop HHead Hsz Hps hl hb
    have Hbb : Hid (Below w.heap.size w w) := Lib.hid (Below.refl _ _)
    go_enter Try.func3, Try.ntmps3
    go_wp2_with fail
    refine (HGa.out _ Hbb.out).mono ?_
    rintro e y1 ⟨rfl, hbc⟩
    dsimp only
    have Hbb := Lib.hid (Hbb.out.trans (hbc.mono Hbb.out.size))
    clear hbc
    clear HGa
    have a0 := cell_below Hbb.out a0
    go_wp2_with fail
    refine (awake_any _).mono ?_
    rintro e y2 ⟨rfl, hbc⟩
    dsimp only
    have Hbb := Lib.hid (Hbb.out.trans (hbc.mono Hbb.out.size))
    clear hbc
    go_wp2
    go_ret
    exact ⟨rfl, Hbb.out⟩
  have l0 : (l : Int) > 0 := by omega
  obtain ⟨b, off, rb, ro, c, rfl, a0, a1, a2⟩ := HTop.out hna hl
  have hz3 := Hsz.out hna hl
  have HBt := Lib.hid (fun W => refBits_any z (by omega) W)
  have hbl : bitsN (absZ z) ≤ 24 := bitsN_le (Nat.lt_of_lt_of_le (absZ_lt z) (Nat.le_trans (Nat.pow_le_pow_right (by decide) hz3) (by decide)))
  obtain ⟨B, hB⟩ : ∃ B, bitsN (absZ z) = B := ⟨_, rfl⟩
  rw [hB] at hbl HBt Hps
  clear hB HTop HHead Hsz hz3
  obtain ⟨N, rfl⟩ : ∃ N : Nat, n = N := ⟨n.toNat, by omega⟩
  have hpe : (B : Int) * (N : Int) = ((B * N : Nat) : Int) := by push_cast; rfl
  have hpl : B * N ≤ 24 * 4096 := Nat.mul_le_mul hbl (by omega)
  have hw : wrap64 ((B : Int) * (N : Int)) = ((B * N : Nat) : Int) := by
    rw [hpe]
    exact IntWalk.wrap64_in _ ⟨by omega, by omega⟩
  rw [hpe] at Hps
  clear hpe hbl
  by_cases hbn : 65536 < B * N
  rotate_left 1
  · have w1 : (!decide (65536 < wrap64 ((B : Int) * (N : Int)))) = true := by rw [hw]; simp; omega
    clear HP Hps hbn hpl hw hna hl
    have Hbb : Hid (Below w.heap.size w w) := Lib.hid (Below.refl _ _)
    go_enter Try.func3, Try.ntmps3
    go_wp2_with fail
    refine (HGa.out _ Hbb.out).mono ?_
    rintro e y1 ⟨rfl, hbc⟩
    dsimp only
    have Hbb := Lib.hid (Hbb.out.trans (hbc.mono Hbb.out.size))
    clear hbc
    clear HGa
    have a0 := cell_below Hbb.out a0
    have a1 := cell_below Hbb.out a1
    have a2 := cell_below Hbb.out a2
    go_wp2_with fail
    refine (HBt.out _).mono ?_
    rintro e y2 ⟨rfl, hbc⟩
    dsimp only
    have Hbb := Lib.hid (Hbb.out.trans (hbc.mono Hbb.out.size))
    clear hbc
    clear HBt a0 a1 a2
    go_wp2_with fail
    refine (awake_any _).mono ?_
    rintro e y3 ⟨rfl, hbc⟩
    dsimp only
    have Hbb := Lib.hid (Hbb.out.trans (hbc.mono Hbb.out.size))
    clear hbc
    go_wp2
    go_ret
    exact ⟨rfl, Hbb.out⟩
  have w1 : (!decide (65536 < wrap64 ((B : Int) * (N : Int)))) = false := by rw [hw]; simp; omega
  obtain ⟨hP1, hP2⟩ := HP.out (fun h => absurd h (Hps.out h12 (fun _ => by omega)))
  have HP1 := Lib.hid hP1
  have HP2 := Lib.hid hP2
  clear hP1 hP2 HP
  clear Hps hbn hpl hw hna hl
  have Hbb : Hid (Below w.heap.size w w) := Lib.hid (Below.refl _ _)
  go_enter Try.func3, Try.ntmps3
  go_wp2_with fail
  refine (HGa.out _ Hbb.out).mono ?_
  rintro e y1 ⟨rfl, hbc⟩
  dsimp only
  have Hbb := Lib.hid (Hbb.out.trans (hbc.mono Hbb.out.size))
  clear hbc
  clear HGa
  have a0 := cell_below Hbb.out a0
  have a1 := cell_below Hbb.out a1
  have a2 := cell_below Hbb.out a2
  go_wp2_with fail
  refine (HBt.out _).mono ?_
  rintro e y2 ⟨rfl, hbc⟩
  dsimp only
  have Hbb := Lib.hid (Hbb.out.trans (hbc.mono Hbb.out.size))
  clear hbc
  clear HBt a0 a1 a2
  go_wp2_with fail
  refine (HP1.out _ Hbb.out).mono ?_
  rintro e y3 ⟨v1, rfl, hsc, hbc⟩
  dsimp only
  have Hbb := Lib.hid (Hbb.out.trans (hbc.mono Hbb.out.size))
  have S1 := Lib.hid hsc
  clear hbc hsc
  clear HP1
  go_wp2_with fail
  refine (HP2.out _ Hbb.out).mono ?_
  rintro e y4 ⟨v2, rfl, hsc, hbc⟩
  dsimp only
  have S1 := Lib.hid (S1.out.below hbc)
  have Hbb := Lib.hid (Hbb.out.trans (hbc.mono Hbb.out.size))
  have S2 := Lib.hid hsc
  clear hbc hsc
  clear HP2
  go_wp2_with fail
  refine (ans_same S1.out S2.out zp zp).mono ?_
  rintro e y5 ⟨rfl, hbc⟩
  dsimp only
  have S1 := Lib.hid (S1.out.below hbc)
  have S2 := Lib.hid (S2.out.below hbc)
  have Hbb := Lib.hid (Hbb.out.trans (hbc.mono Hbb.out.size))
  clear hbc S1 S2
  go_wp2_with fail
  refine (awake_any _).mono ?_
  rintro e y6 ⟨rfl, hbc⟩
  dsimp only
  have Hbb := Lib.hid (Hbb.out.trans (hbc.mono Hbb.out.size))
  clear hbc
  go_wp2
  go_ret
  exact ⟨rfl, Hbb.out⟩
end Go.Proofs.Ytlkoiekdafaapaa
