/- Two polynomials have the same text exactly if they are the same: plain law. -/
import Derived.Test.YteoemijgdcpopaaDoorB41
namespace Go.Proofs.YteoemijgdcpopaaDoor
open Go.RowKit

theorem snocRec {motive : List UInt8 → Prop} (nil : motive []) (snoc : ∀ m c, motive m → motive (m ++ [c])) (m : List UInt8) : motive m := by
  rw [← List.reverse_reverse m]
  induction m.reverse with
  | nil => exact nil
  | cons c t ih => rw [List.reverse_cons]; exact snoc _ _ ih
/-- The value of a text of digits. -/
def dval (l : List UInt8) : Nat := l.foldl (fun a c => 10 * a + (c.toNat - 48)) 0
theorem dval_snoc (l : List UInt8) (c : UInt8) : dval (l ++ [c]) = 10 * dval l + (c.toNat - 48) := by unfold dval; rw [List.foldl_append]; rfl
theorem dig_val (d : Nat) (h : d < 10) : (UInt8.ofNat (48 + d)).toNat - 48 = d := by
  have : (48 + d) % 256 = 48 + d := Nat.mod_eq_of_lt (by omega)
  simp [UInt8.toNat_ofNat', this]
theorem dval_pad : ∀ k r, dval (pad k r) = r % 10 ^ k
  | 0, r => by simp [pad, dval, Nat.mod_one]
  | k + 1, r => by
    rw [pad, dval_snoc, dval_pad k, dig_val _ (Nat.mod_lt _ (by decide)), Nat.pow_succ, Nat.mul_comm (10 ^ k) 10, Nat.mod_mul]
    omega
theorem dval_append (l : List UInt8) : ∀ m : List UInt8, dval (l ++ m) = dval l * 10 ^ m.length + dval m := by
  intro m
  induction m using snocRec with
  | nil => simp [dval]
  | snoc m c ih =>
    rw [← List.append_assoc, dval_snoc, ih, dval_snoc, List.length_append, List.length_singleton, Nat.pow_succ]
    have : dval l * (10 ^ m.length * 10) = 10 * (dval l * 10 ^ m.length) := by rw [Nat.mul_comm (10 ^ m.length) 10, Nat.mul_left_comm]
    omega
theorem ndg_lt : ∀ r, r < 10 ^ ndg r := by
  intro r
  induction r using Nat.strongRecOn with
  | ind r ih =>
    by_cases h : r = 0
    · rw [h, ndg_zero]; decide
    · rw [ndg_pos h, Nat.add_comm, Nat.pow_succ]
      have := ih (r / 10) (by omega)
      omega
theorem dval_decL : ∀ v, dval (decL v) = v := by
  intro v
  induction v using Nat.strongRecOn with
  | ind v ih =>
    by_cases h : v < 1000000000
    · rw [decL_lt h, dval_pad, Nat.mod_eq_of_lt (ndg_lt v)]
    · rw [decL_ge h, dval_append, ih _ (by omega), pad_len, dval_pad]
      omega
theorem dval_prI (v : Nat) : dval (prI v) = v := by
  unfold prI
  by_cases h : (v : Int) = 0
  · rw [if_pos h]
    have : v = 0 := by omega
    rw [this]; rfl
  · rw [if_neg h, if_neg (by omega), List.nil_append, Int.natAbs_natCast, dval_decL]
theorem dval_dec : ∀ n, dval (Lib.decDigits n) = n := by
  intro n
  induction n using Nat.strongRecOn with
  | ind n ih =>
    rw [Lib.decDigits]
    by_cases h : n < 10
    · rw [dif_pos h]
      show 10 * 0 + ((UInt8.ofNat (48 + n)).toNat - 48) = n
      rw [dig_val n h]; omega
    · rw [dif_neg h, dval_snoc, ih _ (by omega), dig_val _ (Nat.mod_lt _ (by decide))]; omega
/-- A digit. -/
def isDg (c : UInt8) : Prop := 48 ≤ c.toNat ∧ c.toNat < 58
instance (c : UInt8) : Decidable (isDg c) := inferInstanceAs (Decidable (_ ∧ _))
theorem dig_isDg (d : Nat) (h : d < 10) : isDg (UInt8.ofNat (48 + d)) := by
  have : (48 + d) % 256 = 48 + d := Nat.mod_eq_of_lt (by omega)
  unfold isDg
  rw [UInt8.toNat_ofNat', this]; omega
theorem pad_dg : ∀ k r c, c ∈ pad k r → isDg c
  | 0, _, c, h => by simp [pad] at h
  | k + 1, r, c, h => by
    rw [pad, List.mem_append] at h
    rcases h with h | h
    · exact pad_dg k _ c h
    · rw [List.mem_singleton.1 h]; exact dig_isDg _ (Nat.mod_lt _ (by decide))
theorem decL_dg : ∀ v c, c ∈ decL v → isDg c := by
  intro v
  induction v using Nat.strongRecOn with
  | ind v ih =>
    intro c h
    by_cases h9 : v < 1000000000
    · rw [decL_lt h9] at h; exact pad_dg _ _ c h
    · rw [decL_ge h9, List.mem_append] at h
      rcases h with h | h
      · exact ih _ (by omega) c h
      · exact pad_dg _ _ c h
theorem prI_dg (v : Nat) (c : UInt8) (h : c ∈ prI v) : isDg c := by
  unfold prI at h
  split at h
  · rw [List.mem_singleton.1 h]; decide
  · rw [if_neg (by omega), List.nil_append] at h; exact decL_dg _ c h
theorem decL_ne {v : Nat} (h : v ≠ 0) : decL v ≠ [] := by
  intro e
  have := dval_decL v
  rw [e] at this
  exact h (by rw [← this]; rfl)
theorem prI_ne (v : Nat) : prI v ≠ [] := by
  unfold prI
  split
  · simp
  · rw [if_neg (by omega), List.nil_append]; exact decL_ne (by omega)
theorem dec_dg : ∀ n c, c ∈ Lib.decDigits n → isDg c := by
  intro n
  induction n using Nat.strongRecOn with
  | ind n ih =>
    intro c h
    rw [Lib.decDigits] at h
    by_cases h10 : n < 10
    · rw [dif_pos h10, List.mem_singleton] at h; rw [h]; exact dig_isDg n h10
    · rw [dif_neg h10, List.mem_append, List.mem_singleton] at h
      rcases h with h | h
      · exact ih _ (by omega) c h
      · rw [h]; exact dig_isDg _ (Nat.mod_lt _ (by decide))
/-- Two words of letters of a kind, with rests that begin with a letter of another kind. -/
theorem split_eq {Q : UInt8 → Prop} : ∀ {u u' r r' : List UInt8}, (∀ c, c ∈ u → Q c) → (∀ c, c ∈ u' → Q c) → (∀ c t, r = c :: t → ¬ Q c) → (∀ c t, r' = c :: t → ¬ Q c) → u ++ r = u' ++ r' → u = u' ∧ r = r'
  | [], [], _, _, _, _, _, _, h => ⟨rfl, h⟩
  | [], c :: u', r, r', _, h2, h3, _, h => absurd (h2 c (List.mem_cons_self ..)) (h3 c (u' ++ r') h)
  | c :: u, [], r, r', h1, _, _, h4, h => absurd (h1 c (List.mem_cons_self ..)) (h4 c (u ++ r) h.symm)
  | c :: u, c' :: u', r, r', h1, h2, h3, h4, h => by
    obtain ⟨e1, e2⟩ := List.cons.inj (show c :: (u ++ r) = c' :: (u' ++ r') from h)
    obtain ⟨e3, e4⟩ := split_eq (fun x hx => h1 x (List.mem_cons_of_mem _ hx)) (fun x hx => h2 x (List.mem_cons_of_mem _ hx)) h3 h4 e2
    exact ⟨by rw [e1, e3], e4⟩
theorem powL_head (n : Nat) : ∃ t, powL n = 120 :: t := by unfold powL; split <;> exact ⟨_, rfl⟩
theorem powL_inj {n m : Nat} (h : powL n = powL m) : n = m := by
  unfold powL at h
  by_cases h1 : n = 1 <;> by_cases h2 : m = 1
  · rw [h1, h2]
  · rw [if_pos h1, if_neg h2] at h; simp at h
  · rw [if_neg h1, if_pos h2] at h; simp at h
  · rw [if_neg h1, if_neg h2] at h
    have h3 := List.append_cancel_left h
    rw [← dval_dec n, h3, dval_dec]
/-- A term as digits and what follows. -/
theorem termL_parts (n v : Nat) : ∃ D r, termL n v = D ++ r ∧ (∀ c, c ∈ D → isDg c) ∧ (∀ c t, r = c :: t → ¬ isDg c) ∧
    ((n = 0 ∧ D = prI v ∧ r = []) ∨ (n ≠ 0 ∧ v = 1 ∧ D = [] ∧ r = powL n) ∨ (n ≠ 0 ∧ v ≠ 1 ∧ D = prI v ∧ r = 42 :: powL n)) := by
  unfold termL
  by_cases h0 : n = 0
  · exact ⟨prI v, [], by rw [if_pos h0, List.append_nil], prI_dg v, (by intro c t h; cases h), .inl ⟨h0, rfl, rfl⟩⟩
  · by_cases h1 : v = 1
    · refine ⟨[], powL n, by rw [if_neg h0, if_pos h1]; rfl, (by intro c h; cases h), ?_, .inr (.inl ⟨h0, h1, rfl, rfl⟩)⟩
      intro c t h
      obtain ⟨t2, h2⟩ := powL_head n
      rw [h2] at h
      rw [← (List.cons.inj h).1]; decide
    · refine ⟨prI v, 42 :: powL n, by rw [if_neg h0, if_neg h1, List.append_assoc]; rfl, prI_dg v, ?_, .inr (.inr ⟨h0, h1, rfl, rfl⟩)⟩
      intro c t h
      rw [← (List.cons.inj h).1]; decide
theorem prI_inj {v v' : Nat} (h : prI v = prI v') : v = v' := by rw [← dval_prI v, h, dval_prI]
theorem termL_inj {n v n' v' : Nat} (h : termL n v = termL n' v') : n = n' ∧ v = v' := by
  obtain ⟨D, r, e, hD, hr, hc⟩ := termL_parts n v
  obtain ⟨D', r', e', hD', hr', hc'⟩ := termL_parts n' v'
  rw [e, e'] at h
  obtain ⟨h1, h2⟩ := split_eq hD hD' hr hr' h
  obtain ⟨t, ht⟩ := powL_head n
  obtain ⟨t', ht'⟩ := powL_head n'
  rcases hc with ⟨a1, a2, a3⟩ | ⟨a1, a2, a3, a4⟩ | ⟨a1, a2, a3, a4⟩ <;> rcases hc' with ⟨b1, b2, b3⟩ | ⟨b1, b2, b3, b4⟩ | ⟨b1, b2, b3, b4⟩
  · exact ⟨by rw [a1, b1], prI_inj (by rw [← a2, ← b2, h1])⟩
  · rw [a3, b4, ht'] at h2; cases h2
  · rw [a3, b4] at h2; cases h2
  · rw [a4, b3, ht] at h2; cases h2
  · exact ⟨powL_inj (by rw [← a4, ← b4, h2]), by rw [a2, b2]⟩
  · exact absurd (by rw [← b3, ← h1, a3]) (prI_ne v')
  · rw [a4, b3] at h2; cases h2
  · exact absurd (by rw [← a3, h1, b3]) (prI_ne v)
  · rw [a4, b4] at h2
    exact ⟨powL_inj (List.cons.inj h2).2, prI_inj (by rw [← a3, ← b3, h1])⟩
theorem dg_ne {c : UInt8} (h : isDg c) : c ≠ 32 ∧ c ≠ 45 := by
  constructor <;> (rintro rfl; exact absurd h (by decide))
theorem powL_no (n : Nat) (c : UInt8) (h : c ∈ powL n) : c ≠ 32 := by
  unfold powL at h
  split at h
  · rw [List.mem_singleton.1 h]; decide
  · rw [List.mem_append] at h
    rcases h with h | h
    · simp at h; rcases h with rfl | rfl <;> decide
    · exact (dg_ne (dec_dg n c h)).1
theorem termL_no (n v : Nat) (c : UInt8) (h : c ∈ termL n v) : c ≠ 32 := by
  unfold termL at h
  split at h
  · exact (dg_ne (prI_dg v c h)).1
  · split at h
    · exact powL_no n c h
    · rw [List.mem_append, List.mem_append] at h
      rcases h with (h | h) | h
      · exact (dg_ne (prI_dg v c h)).1
      · rw [List.mem_singleton.1 h]; decide
      · exact powL_no n c h
theorem termL_ne (n v : Nat) : termL n v ≠ [] := by
  obtain ⟨t, ht⟩ := powL_head n
  unfold termL
  split
  · exact prI_ne v
  · split
    · rw [ht]; simp
    · simp
theorem termL_head (n v : Nat) (c : UInt8) (t : List UInt8) (h : termL n v = c :: t) : c ≠ 45 := by
  have hp : ∀ c t s, prI v ++ s = c :: t → c ≠ 45 := by
    intro c t s h
    cases hh : prI v with
    | nil => exact absurd hh (prI_ne v)
    | cons d s2 =>
      rw [hh] at h
      rw [← (List.cons.inj h).1]
      exact (dg_ne (prI_dg v d (by rw [hh]; exact List.mem_cons_self ..))).2
  unfold termL at h
  split at h
  · exact hp c t [] (by rw [List.append_nil]; exact h)
  · split at h
    · obtain ⟨t2, h2⟩ := powL_head n
      rw [h2] at h
      rw [← (List.cons.inj h).1]; decide
    · rw [List.append_assoc] at h; exact hp c t _ h
/-- The terms behind the first one. -/
def txT : List (Nat × Int) → List UInt8
  | [] => []
  | x :: r => (if x.2 < 0 then [32, 45, 32] else [32, 43, 32]) ++ (termL x.1 x.2.natAbs ++ txT r)
def txA : List (Nat × Int) → List UInt8
  | [] => []
  | x :: r => (if x.2 < 0 then [45] else []) ++ (termL x.1 x.2.natAbs ++ txT r)
theorem txT_space (L : List (Nat × Int)) (c : UInt8) (t : List UInt8) (h : txT L = c :: t) : c = 32 := by
  cases L with
  | nil => cases h
  | cons x r =>
    unfold txT at h
    split at h <;> exact (List.cons.inj h).1.symm
theorem nat_sign {a b : Int} (h1 : a < 0 ↔ b < 0) (h2 : a.natAbs = b.natAbs) : a = b := by omega
theorem txT_inj : ∀ {L M : List (Nat × Int)}, txT L = txT M → L = M
  | [], [], _ => rfl
  | [], x :: r, h => by unfold txT at h; split at h <;> cases h
  | x :: r, [], h => by rw [txT, txT] at h; split at h <;> cases h
  | x :: r, y :: s, h => by
    rw [txT, txT] at h
    have key : termL x.1 x.2.natAbs ++ txT r = termL y.1 y.2.natAbs ++ txT s ∧ (x.2 < 0 ↔ y.2 < 0) := by
      by_cases hx : x.2 < 0 <;> by_cases hy : y.2 < 0
      · rw [if_pos hx, if_pos hy] at h; exact ⟨List.append_cancel_left h, by simp [hx, hy]⟩
      · rw [if_pos hx, if_neg hy] at h; simp at h
      · rw [if_neg hx, if_pos hy] at h; simp at h
      · rw [if_neg hx, if_neg hy] at h; exact ⟨List.append_cancel_left h, by simp [hx, hy]⟩
    obtain ⟨h1, h2⟩ := key
    obtain ⟨h3, h4⟩ := split_eq (Q := fun c => c ≠ 32) (termL_no _ _) (termL_no _ _) (fun c t e hc => hc (txT_space _ c t e)) (fun c t e hc => hc (txT_space _ c t e)) h1
    obtain ⟨h5, h6⟩ := termL_inj h3
    rw [txT_inj h4, Prod.ext h5 (nat_sign h2 h6)]
theorem txA_inj : ∀ {L M : List (Nat × Int)}, txA L = txA M → L = M
  | [], [], _ => rfl
  | [], x :: r, h => by
    rw [txA, txA] at h
    exact absurd h.symm (by simp [termL_ne])
  | x :: r, [], h => by
    rw [txA, txA] at h
    exact absurd h (by simp [termL_ne])
  | x :: r, y :: s, h => by
    rw [txA, txA] at h
    have hh : ∀ (n v : Nat) (t u : List UInt8), termL n v ++ t ≠ 45 :: u := by
      intro n v t u e
      cases ht : termL n v with
      | nil => exact termL_ne n v ht
      | cons d k => rw [ht] at e; exact termL_head n v d k ht (List.cons.inj e).1
    have key : termL x.1 x.2.natAbs ++ txT r = termL y.1 y.2.natAbs ++ txT s ∧ (x.2 < 0 ↔ y.2 < 0) := by
      by_cases hx : x.2 < 0 <;> by_cases hy : y.2 < 0
      · rw [if_pos hx, if_pos hy] at h; exact ⟨List.append_cancel_left h, by simp [hx, hy]⟩
      · rw [if_pos hx, if_neg hy, List.nil_append] at h; exact absurd h.symm (hh _ _ _ _)
      · rw [if_neg hx, if_pos hy, List.nil_append] at h; exact absurd h (hh _ _ _ _)
      · rw [if_neg hx, if_neg hy] at h; exact ⟨List.append_cancel_left h, by simp [hx, hy]⟩
    obtain ⟨h1, h2⟩ := key
    obtain ⟨h3, h4⟩ := split_eq (Q := fun c => c ≠ 32) (termL_no _ _) (termL_no _ _) (fun c t e hc => hc (txT_space _ c t e)) (fun c t e hc => hc (txT_space _ c t e)) h1
    obtain ⟨h5, h6⟩ := termL_inj h3
    rw [txT_inj h4, Prod.ext h5 (nat_sign h2 h6)]
theorem fold_txT : ∀ (L : List (Nat × Int)) (acc : List UInt8), acc ≠ [] → L.foldl prStep acc = acc ++ txT (L.filter fun x => x.2 != 0)
  | [], acc, _ => by simp [txT]
  | x :: r, acc, h => by
    rw [List.foldl_cons]
    by_cases h0 : x.2 = 0
    · rw [show prStep acc x = acc from by unfold prStep; rw [if_pos h0], fold_txT r acc h, List.filter_cons_of_neg (by simp [h0])]
    · rw [List.filter_cons_of_pos (by simp [h0]), txT, show prStep acc x = acc ++ ((if x.2 < 0 then [32, 45, 32] else [32, 43, 32]) ++ termL x.1 x.2.natAbs) from by unfold prStep; rw [if_neg h0, if_neg h, List.append_assoc]]
      rw [fold_txT r _ (by simp [h])]
      simp only [List.append_assoc]
theorem fold_txA : ∀ (L : List (Nat × Int)), L.foldl prStep [] = txA (L.filter fun x => x.2 != 0)
  | [] => rfl
  | x :: r => by
    rw [List.foldl_cons]
    by_cases h0 : x.2 = 0
    · rw [show prStep [] x = [] from by unfold prStep; rw [if_pos h0], fold_txA r, List.filter_cons_of_neg (by simp [h0])]
    · rw [List.filter_cons_of_pos (by simp [h0]), txA, show prStep [] x = (if x.2 < 0 then [45] else []) ++ termL x.1 x.2.natAbs from by unfold prStep; rw [if_neg h0, if_pos rfl, List.nil_append]]
      rw [fold_txT r _ (fun e => termL_ne x.1 x.2.natAbs (List.append_eq_nil_iff.1 e).2)]
      simp only [List.append_assoc]
/-- The terms that are not 0. -/
def trmL (F : Nat → Int) (n : Nat) : List (Nat × Int) := (desL F n 0).filter fun x => x.2 != 0
theorem mem_trm {F : Nat → Int} {n k : Nat} {x : Int} : (k, x) ∈ trmL F n ↔ k < n ∧ F k = x ∧ x ≠ 0 := by
  unfold trmL desL
  rw [List.mem_filter, List.mem_map]
  constructor
  · rintro ⟨⟨t, ht, e⟩, hx⟩
    rw [List.mem_range] at ht
    obtain ⟨e1, e2⟩ := Prod.mk.inj e
    refine ⟨by omega, by rw [← e1, e2], by simpa using hx⟩
  · rintro ⟨hk, hF, hx⟩
    exact ⟨⟨n - 1 - k, List.mem_range.2 (by omega), by rw [show n - 1 - (n - 1 - k) = k from by omega, hF]⟩, by simpa using hx⟩
theorem polL_trm (F : Nat → Int) (n : Nat) : polL F n = if txA (trmL F n) = [] then [48] else txA (trmL F n) := by
  unfold polL accP
  rw [fold_txA]; rfl
theorem txA_nil {L : List (Nat × Int)} : txA L = [] ↔ L = [] := ⟨fun h => txA_inj (h.trans rfl), fun h => by rw [h]; rfl⟩
theorem txA_zero {L : List (Nat × Int)} (hL : ∀ x, x ∈ L → x.2 ≠ 0) : txA L ≠ [48] := by
  intro h
  cases L with
  | nil => cases h
  | cons x r =>
    have hx := hL x (List.mem_cons_self ..)
    rw [txA] at h
    by_cases hn : x.2 < 0
    · rw [if_pos hn] at h; cases h
    · rw [if_neg hn, List.nil_append] at h
      have h0 : termL 0 0 ++ txT [] = [48] := rfl
      rw [← h0] at h
      obtain ⟨h3, _⟩ := split_eq (Q := fun c => c ≠ 32) (termL_no _ _) (termL_no _ _) (fun c t e hc => hc (txT_space _ c t e)) (fun c t e hc => hc (txT_space _ c t e)) h
      have := (termL_inj h3).2
      omega
theorem trm_ne (F : Nat → Int) (n : Nat) : ∀ x, x ∈ trmL F n → x.2 ≠ 0 := fun _ hx => (mem_trm.1 hx).2.2
theorem polL_inj {F G : Nat → Int} {n m : Nat} (h : polL F n = polL G m) : trmL F n = trmL G m := by
  rw [polL_trm, polL_trm] at h
  by_cases hf : txA (trmL F n) = [] <;> by_cases hg : txA (trmL G m) = []
  · rw [txA_nil.1 hf, txA_nil.1 hg]
  · rw [if_pos hf, if_neg hg] at h; exact absurd h.symm (txA_zero (trm_ne G m))
  · rw [if_neg hf, if_pos hg] at h; exact absurd h (txA_zero (trm_ne F n))
  · rw [if_neg hf, if_neg hg] at h; exact txA_inj h
/-- The law: the same text exactly if the same coefficients (those behind the last ones are 0). -/
theorem polL_same {F G : Nat → Int} {n m : Nat} (hF : 0 < n → F (n - 1) ≠ 0) (hG : 0 < m → G (m - 1) ≠ 0) : polL F n = polL G m ↔ n = m ∧ ∀ k, k < n → F k = G k := by
  constructor
  · intro h
    have ht := polL_inj h
    have key : ∀ {F G : Nat → Int} {n m : Nat}, trmL F n = trmL G m → ∀ k, k < n → F k ≠ 0 → k < m ∧ G k = F k := by
      intro F G n m ht k hk h0
      have h1 : (k, F k) ∈ trmL F n := mem_trm.2 ⟨hk, rfl, h0⟩
      rw [ht] at h1
      obtain ⟨h2, h3, _⟩ := mem_trm.1 h1
      exact ⟨h2, h3⟩
    have h1 : n ≤ m := by
      by_cases h0 : 0 < n
      · have := (key ht (n - 1) (by omega) (hF h0)).1; omega
      · omega
    have h2 : m ≤ n := by
      by_cases h0 : 0 < m
      · have := (key ht.symm (m - 1) (by omega) (hG h0)).1; omega
      · omega
    have h3 : n = m := by omega
    refine ⟨h3, fun k hk => ?_⟩
    by_cases h0 : F k = 0
    · by_cases hg0 : G k = 0
      · rw [h0, hg0]
      · exact (key ht.symm k (by omega) hg0).2
    · exact (key ht k hk h0).2.symm
  · rintro ⟨rfl, h⟩
    have : desL F n 0 = desL G n 0 := by
      unfold desL
      refine List.map_congr_left fun t ht => ?_
      rw [List.mem_range] at ht
      rw [h (n - 1 - t) (by omega)]
    unfold polL
    rw [this]
end Go.Proofs.YteoemijgdcpopaaDoor
