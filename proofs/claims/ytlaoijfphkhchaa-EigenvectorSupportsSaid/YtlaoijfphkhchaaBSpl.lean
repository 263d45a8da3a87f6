/- The part of a graph on the support of a vector: the plain law. -/
import Derived.Test.YtlaoijfphkhchaaB44
import Derived.Test.YtlaoijfphkhchaaBEvy
namespace Go.Proofs.Ytlaoijfphkhchaa
theorem getD_at {α : Type} {l : List α} {k : Nat} {d : α} (h : k < l.length) : l.getD k d = l[k] := by rw [List.getD_eq_getElem?_getD, List.getElem?_eq_getElem h]; rfl
/-- How many components below a place are positive. -/
def rkS (v : Nat → Int) (s : Nat) : Nat := (supL v s).length
theorem supL_succ (v : Nat → Int) (s : Nat) : supL v (s + 1) = supL v s ++ if 0 < v s then [(s : Int)] else [] := rfl
theorem rkS_succ (v : Nat → Int) (s : Nat) : rkS v (s + 1) = rkS v s + if 0 < v s then 1 else 0 := by
  unfold rkS; rw [supL_succ, List.length_append]; split <;> rfl
theorem rkS_mono {v : Nat → Int} {s t : Nat} (h : s ≤ t) : rkS v s ≤ rkS v t := by
  induction t with
  | zero => rw [show s = 0 from by omega]; exact Nat.le_refl _
  | succ t ih =>
    by_cases e : s = t + 1
    · rw [e]; exact Nat.le_refl _
    · have h1 := ih (by omega)
      have h2 : rkS v t ≤ rkS v (t + 1) := by rw [rkS_succ]; exact Nat.le_add_right _ _
      omega
theorem rkS_lt {v : Nat → Int} {s t : Nat} (h : s < t) (hv : 0 < v s) : rkS v s < rkS v t := by
  have h1 := rkS_mono (v := v) (show s + 1 ≤ t from h)
  rw [rkS_succ, if_pos hv] at h1; omega
theorem supL_mem {v : Nat → Int} {N : Nat} {x : Int} (h : x ∈ supL v N) : ∃ s : Nat, s < N ∧ x = s ∧ 0 < v s := by
  induction N with
  | zero => cases h
  | succ N ih =>
    rw [supL_succ, List.mem_append] at h
    cases h with
    | inl h => obtain ⟨s, a, b, c⟩ := ih h; exact ⟨s, by omega, b, c⟩
    | inr h =>
      split at h
      · rename_i hp; exact ⟨N, by omega, List.mem_singleton.1 h, hp⟩
      · cases h
theorem supL_has {v : Nat → Int} {N s : Nat} (hs : s < N) (hv : 0 < v s) : (s : Int) ∈ supL v N := by
  induction N with
  | zero => omega
  | succ N ih =>
    rw [supL_succ, List.mem_append]
    by_cases e : s = N
    · subst e; exact .inr (by rw [if_pos hv]; exact List.mem_singleton.2 rfl)
    · exact .inl (ih (by omega))
theorem supL_sorted (v : Nat → Int) (N : Nat) : (supL v N).Pairwise (· < ·) := by
  induction N with
  | zero => exact List.Pairwise.nil
  | succ N ih =>
    rw [supL_succ, List.pairwise_append]
    refine ⟨ih, by split <;> simp, fun a ha b hb => ?_⟩
    obtain ⟨s, h1, rfl, _⟩ := supL_mem ha
    split at hb
    · rw [List.mem_singleton.1 hb]; omega
    · cases hb
theorem supL_count {v : Nat → Int} {N t : Nat} (h : t ≤ N) : (supL v N).countP (fun y => decide (y < (t : Int))) = rkS v t := by
  induction N with
  | zero => rw [show t = 0 from by omega]; rfl
  | succ N ih =>
    by_cases e : t = N + 1
    · subst e
      unfold rkS
      rw [List.countP_eq_length]
      intro x hx
      obtain ⟨s, h1, rfl, _⟩ := supL_mem hx
      exact decide_eq_true (by omega)
    · rw [supL_succ, List.countP_append, ih (by omega)]
      split
      · rw [List.countP_cons, List.countP_nil, if_neg (by rw [decide_eq_true_eq]; omega)]; rfl
      · rfl
theorem supL_contains {v : Nat → Int} {N s : Nat} (hs : s < N) : (supL v N).contains (s : Int) = decide (0 < v s) := by
  by_cases hv : 0 < v s
  · rw [decide_eq_true hv]; exact List.contains_iff_mem.2 (supL_has hs hv)
  · rw [decide_eq_false hv, Bool.eq_false_iff]
    intro h
    obtain ⟨t, _, e, h2⟩ := supL_mem (List.contains_iff_mem.1 h)
    rw [show s = t from by omega] at hv
    exact hv h2
theorem supL_get {v : Nat → Int} {N s : Nat} (hs : s < N) (hv : 0 < v s) : (supL v N).getD (rkS v s) 0 = (s : Int) := by
  induction N with
  | zero => omega
  | succ N ih =>
    rw [supL_succ]
    by_cases e : s = N
    · subst e
      unfold rkS
      rw [if_pos hv, List.getD_eq_getElem?_getD, List.getElem?_append_right (Nat.le_refl _), Nat.sub_self]; rfl
    · have h1 := rkS_lt (v := v) (show s < N by omega) hv
      have h2 := ih (by omega)
      rw [List.getD_eq_getElem?_getD] at h2 ⊢
      rw [List.getElem?_append_left h1]; exact h2
theorem supL_at {v : Nat → Int} {N k : Nat} (hk : k < (supL v N).length) : ∃ s : Nat, s < N ∧ 0 < v s ∧ rkS v s = k ∧ (supL v N).getD k 0 = (s : Int) := by
  have h1 : (supL v N).getD k 0 ∈ supL v N := getD_mem _ _ _ hk
  obtain ⟨s, h2, h3, h4⟩ := supL_mem h1
  refine ⟨s, h2, h4, ?_, h3⟩
  have h5 := supL_get h2 h4
  have h6 : rkS v s < (supL v N).length := rkS_lt h2 h4
  have hp := List.pairwise_iff_getElem.1 (supL_sorted v N)
  rw [getD_at hk] at h3
  rw [getD_at h6] at h5
  rcases Nat.lt_trichotomy (rkS v s) k with h | h | h
  · have := hp _ _ h6 hk h; omega
  · exact h
  · have := hp _ _ hk h6 h; omega
/-- The order of the edges. -/
def lt3 (a b : Nat → Int) : Prop := a 0 < b 0 ∨ a 0 = b 0 ∧ (a 1 < b 1 ∨ a 1 = b 1 ∧ a 2 < b 2)
theorem cmp3_neg {a b : Nat → Int} : cmp3 a b < 0 ↔ lt3 a b := by
  unfold cmp3 lt3 cpL edL
  simp only [firstFrom, cpAt, List.length_cons, List.length_nil, List.getD_cons_zero, List.getD_cons_succ]
  by_cases h0 : a 0 < b 0
  · simp [h0]
  by_cases h1 : b 0 < a 0
  · simp [h0, h1] <;> omega
  by_cases h2 : a 1 < b 1
  · simp [h0, h1, h2] <;> omega
  by_cases h3 : b 1 < a 1
  · simp [h0, h1, h2, h3] <;> omega
  by_cases h4 : a 2 < b 2
  · simp [h0, h1, h2, h3, h4] <;> omega
  by_cases h5 : b 2 < a 2
  · simp [h0, h1, h2, h3, h4, h5] <;> omega
  · simp [h0, h1, h2, h3, h4, h5]
theorem lt3_trans {a b c : Nat → Int} (h : lt3 a b) (k : lt3 b c) : lt3 a c := by unfold lt3 at *; omega
theorem lt3_all {n : Nat} {E : Nat → Nat → Int} (h : ∀ i, i < n → 0 < i → lt3 (E (i - 1)) (E i)) : ∀ k i, i < k → k < n → lt3 (E i) (E k) := by
  intro k
  induction k with
  | zero => intro i h1; omega
  | succ k ih =>
    intro i h1 h2
    have h3 := h (k + 1) h2 (by omega)
    rw [Nat.add_sub_cancel] at h3
    by_cases e : i = k
    · rw [e]; exact h3
    · exact lt3_trans (ih i (by omega) (by omega)) h3
/-- An edge of the part: the places of its ends in the list of states. -/
def kepT (zs : List Int) (E : Nat → Nat → Int) (i : Nat) : Int × Int × Int :=
  ((zs.countP (fun y => decide (y < E i 0)) : Nat), E i 1, (zs.countP (fun y => decide (y < E i 2)) : Nat))
/-- The edges of the part. -/
def kepL (zs : List Int) (E : Nat → Nat → Int) : Nat → List (Int × Int × Int)
  | 0 => []
  | i + 1 => kepL zs E i ++ if zs.contains (E i 0) && zs.contains (E i 2) then [kepT zs E i] else []
theorem kepL_succ (zs : List Int) (E : Nat → Nat → Int) (i : Nat) : kepL zs E (i + 1) = kepL zs E i ++ if zs.contains (E i 0) && zs.contains (E i 2) then [kepT zs E i] else [] := rfl
theorem kepL_len (zs : List Int) (E : Nat → Nat → Int) (i : Nat) : (kepL zs E i).length ≤ i := by
  induction i with
  | zero => exact Nat.le_refl _
  | succ i ih => rw [kepL_succ, List.length_append]; split <;> simp <;> omega
def tr3 (x : Int × Int × Int) (j : Nat) : Int := if j = 0 then x.1 else if j = 1 then x.2.1 else x.2.2
def edOf (L : List (Int × Int × Int)) (i j : Nat) : Int := tr3 (L.getD i (0, 0, 0)) j
section
variable {LL : Int} {N n m : Nat} {E : Nat → Nat → Int} {v : Nat → Int}
theorem kepT_sup (hok : EdOk N n E) {i : Nat} (hi : i < n) : kepT (supL v N) E i = ((rkS v (frE E i) : Int), E i 1, (rkS v (toE E i) : Int)) := by
  obtain ⟨h1, h2, h3, h4⟩ := edOk_nat hok i hi
  unfold kepT
  rw [h1, h2, supL_count (by omega), supL_count (by omega)]
theorem kepC_sup (hok : EdOk N n E) {i : Nat} (hi : i < n) : ((supL v N).contains (E i 0) && (supL v N).contains (E i 2)) = decide (0 < v (frE E i) ∧ 0 < v (toE E i)) := by
  obtain ⟨h1, h2, h3, h4⟩ := edOk_nat hok i hi
  rw [h1, h2, supL_contains h3, supL_contains h4, Bool.decide_and]
theorem kepL_mem (hok : EdOk N n E) {i : Nat} (hi : i ≤ n) {x : Int × Int × Int} (h : x ∈ kepL (supL v N) E i) : ∃ e, e < i ∧ 0 < v (frE E e) ∧ 0 < v (toE E e) ∧ x = ((rkS v (frE E e) : Int), E e 1, (rkS v (toE E e) : Int)) := by
  induction i with
  | zero => cases h
  | succ i ih =>
    rw [kepL_succ, List.mem_append] at h
    cases h with
    | inl h => obtain ⟨e, a, b⟩ := ih (by omega) h; exact ⟨e, by omega, b⟩
    | inr h =>
      rw [kepC_sup hok (by omega)] at h
      split at h
      · rename_i hp
        have hp := of_decide_eq_true hp
        refine ⟨i, by omega, hp.1, hp.2, ?_⟩
        rw [List.mem_singleton.1 h, kepT_sup hok (by omega)]
      · cases h
theorem kepL_sorted (hok : EdOk N n E) (hs : ∀ i, i < n → 0 < i → lt3 (E (i - 1)) (E i)) {i : Nat} (hi : i ≤ n) : (kepL (supL v N) E i).Pairwise (fun a b => lt3 (tr3 a) (tr3 b)) := by
  induction i with
  | zero => exact List.Pairwise.nil
  | succ i ih =>
    rw [kepL_succ, List.pairwise_append]
    refine ⟨ih (by omega), by split <;> simp, fun a ha b hb => ?_⟩
    obtain ⟨e, h1, h2, h3, rfl⟩ := kepL_mem hok (by omega) ha
    rw [kepC_sup hok (by omega)] at hb
    split at hb
    · rename_i hp
      have hp := of_decide_eq_true hp
      rw [List.mem_singleton.1 hb, kepT_sup hok (by omega)]
      have h4 := lt3_all hs i e h1 (by omega)
      obtain ⟨a1, a2, a3, a4⟩ := edOk_nat hok e (by omega)
      obtain ⟨b1, b2, b3, b4⟩ := edOk_nat hok i (by omega)
      unfold lt3 at h4 ⊢
      rw [a1, a2, b1, b2] at h4
      simp [tr3]
      rcases h4 with h4 | ⟨h4, h5⟩
      · have := rkS_lt (v := v) (show frE E e < frE E i by omega) h2; omega
      · have e1 : frE E e = frE E i := by omega
        rw [e1]
        rcases h5 with h5 | ⟨h5, h6⟩
        · omega
        · have := rkS_lt (v := v) (show toE E e < toE E i by omega) h3; omega
    · cases hb
theorem edOf_lt (hok : EdOk N n E) (hs : ∀ i, i < n → 0 < i → lt3 (E (i - 1)) (E i)) {i : Nat} (hi : i < (kepL (supL v N) E n).length) (h0 : 0 < i) : lt3 (edOf (kepL (supL v N) E n) (i - 1)) (edOf (kepL (supL v N) E n) i) := by
  have hp := List.pairwise_iff_getElem.1 (kepL_sorted (v := v) hok hs (Nat.le_refl n)) (i - 1) i (by omega) hi (by omega)
  unfold edOf
  rw [getD_at hi, getD_at (show i - 1 < _ by omega)]
  exact hp
theorem edOf_at (hok : EdOk N n E) {i : Nat} (hi : i < (kepL (supL v N) E n).length) : ∃ e, e < n ∧ 0 < v (frE E e) ∧ 0 < v (toE E e) ∧ edOf (kepL (supL v N) E n) i 0 = (rkS v (frE E e) : Int) ∧ edOf (kepL (supL v N) E n) i 1 = E e 1 ∧ edOf (kepL (supL v N) E n) i 2 = (rkS v (toE E e) : Int) := by
  obtain ⟨e, h1, h2, h3, h4⟩ := kepL_mem hok (Nat.le_refl n) (getD_mem _ _ (0, 0, 0) hi)
  refine ⟨e, h1, h2, h3, ?_⟩
  unfold edOf
  rw [h4]
  exact ⟨rfl, rfl, rfl⟩
/-- The part is a graph. -/
theorem kep_chk (hg : gChk LL N n E = 0) : gChk LL ((supL v N).length : Nat) (kepL (supL v N) E n).length (edOf (kepL (supL v N) E n)) = 0 := by
  obtain ⟨h1, h2, h3, h4, h5, h6⟩ := gChk_zero hg
  have hok : EdOk N n E := gChk_ok hg
  have hs : ∀ i, i < n → 0 < i → lt3 (E (i - 1)) (E i) := fun i hi h0 => cmp3_neg.1 ((h6 i hi).2 h0)
  have h7 := supL_len v N
  have h8 := kepL_len (supL v N) E n
  unfold gChk
  rw [if_neg (by omega), if_neg (by omega), if_neg (by omega)]
  have key : ∀ i, i < (kepL (supL v N) E n).length → gStep LL ((supL v N).length : Nat) (edOf (kepL (supL v N) E n)) i = none := fun i hi => by
    obtain ⟨e, a1, a2, a3, a4, a5, a6⟩ := edOf_at (v := v) hok hi
    obtain ⟨b1, b2, b3, b4⟩ := edOk_nat hok e a1
    have c1 := (h6 e a1).1
    unfold edBad at c1
    have c2 : rkS v (frE E e) < rkS v N := rkS_lt b3 a2
    have c3 : rkS v (toE E e) < rkS v N := rkS_lt b4 a3
    unfold rkS at c2 c3
    unfold gStep
    rw [if_neg (by unfold edBad; rw [a4, a5, a6]; unfold rkS; omega), if_neg]
    rintro ⟨d1, d2⟩
    have := cmp3_neg.2 (edOf_lt (v := v) hok hs hi d1)
    omega
  have : ∀ k m, k + m = (kepL (supL v N) E n).length → firstFrom (gStep LL ((supL v N).length : Nat) (edOf (kepL (supL v N) E n))) 0 m k = 0 := by
    intro k m
    induction m generalizing k with
    | zero => intro _; rfl
    | succ m ih =>
      intro h
      unfold firstFrom
      rw [key k (by omega)]
      exact ih (k + 1) (by omega)
  exact this 0 _ (by omega)
/-- The vector on the support. -/
def parV (v : Nat → Int) (N k : Nat) : Int := v ((supL v N).getD k 0).toNat
theorem parV_at {k : Nat} (hk : k < (supL v N).length) : 0 < parV v N k := by
  obtain ⟨s, h1, h2, h3, h4⟩ := supL_at hk
  unfold parV
  rw [h4, Int.toNat_natCast]; exact h2
theorem parV_rk {s : Nat} (hs : s < N) (hv : 0 < v s) : parV v N (rkS v s) = v s := by
  unfold parV
  rw [supL_get hs hv, Int.toNat_natCast]
theorem dot_snoc (F : Int × Int × Int → Int) (L : List (Int × Int × Int)) (x d : Int × Int × Int) : dotN (fun e => F ((L ++ [x]).getD e d)) (L ++ [x]).length = dotN (fun e => F (L.getD e d)) L.length + F x := by
  rw [List.length_append, show ([x] : List (Int × Int × Int)).length = 1 from rfl, dotN]
  rw [dotN_congr (g := fun e => F (L.getD e d)) fun e he => by
    rw [List.getD_eq_getElem?_getD, List.getElem?_append_left he, List.getD_eq_getElem?_getD]]
  rw [List.getD_eq_getElem?_getD, List.getElem?_append_right (Nat.le_refl _), Nat.sub_self]
  rfl
/-- The sums are the same. -/
theorem kep_sum (hok : EdOk N n E) (h0 : ∀ s, s < N → 0 ≤ v s) {s : Nat} (hs : s < N) (hv : 0 < v s) (i : Nat) (hi : i ≤ n) :
    smE (frE (edOf (kepL (supL v N) E i))) (toE (edOf (kepL (supL v N) E i))) (parV v N) (kepL (supL v N) E i).length (rkS v s) = smE (frE E) (toE E) v i s := by
  obtain ⟨F, hFF⟩ : ∃ F : Int × Int × Int → Int, F = fun x : Int × Int × Int => if x.1.toNat = rkS v s then parV v N x.2.2.toNat else 0 := ⟨_, rfl⟩
  have hF : ∀ L : List (Int × Int × Int), smE (frE (edOf L)) (toE (edOf L)) (parV v N) L.length (rkS v s) = dotN (fun e => F (L.getD e (0, 0, 0))) L.length := fun L => by rw [hFF]; rfl
  rw [hF]
  induction i with
  | zero => rfl
  | succ i ih =>
    have ih := ih (by omega)
    obtain ⟨b1, b2, b3, b4⟩ := edOk_nat hok i (by omega)
    rw [smE_succ, kepL_succ, kepC_sup hok (by omega)]
    by_cases hp : 0 < v (frE E i) ∧ 0 < v (toE E i)
    · rw [decide_eq_true hp, if_pos rfl, dot_snoc, ih, kepT_sup hok (by omega)]
      congr 1
      rw [hFF]
      dsimp only
      rw [Int.toNat_natCast, Int.toNat_natCast]
      by_cases e : frE E i = s
      · rw [if_pos e, e, if_pos rfl, parV_rk b4 hp.2]
      · rw [if_neg e, if_neg]
        intro h
        rcases Nat.lt_or_gt_of_ne e with h1 | h1
        · have := rkS_lt h1 hp.1; omega
        · have := rkS_lt h1 hv; omega
    · rw [decide_eq_false hp, if_neg (by decide), List.append_nil, ih]
      by_cases e : frE E i = s
      · have : v (toE E i) = 0 := by
          have h1 := h0 _ b4
          rw [e] at hp
          omega
        rw [if_pos e, this]; omega
      · rw [if_neg e]; omega
/-- The vector on the support has the property. -/
theorem kep_hld (hok : EdOk N n E) (h : Hld (frE E) (toE E) n N m v) : Hld (frE (edOf (kepL (supL v N) E n))) (toE (edOf (kepL (supL v N) E n))) (kepL (supL v N) E n).length (supL v N).length m (parV v N) := fun k hk => by
  have h0 : ∀ s, s < N → 0 ≤ v s := fun s hs => (h s hs).1
  obtain ⟨s, h1, h2, h3, h4⟩ := supL_at hk
  refine ⟨Int.le_of_lt (parV_at hk), ?_⟩
  rw [← h3, parV_rk h1 h2, kep_sum hok h0 h1 h2 n (Nat.le_refl _)]
  exact (h s h1).2
theorem sup_ne (h0 : ∀ s, s < N → 0 ≤ v s) (h : anyN (fun k => v k != 0) N = true) : 0 < (supL v N).length := by
  refine Nat.pos_of_ne_zero fun h1 => ?_
  have : anyN (fun k => v k != 0) N = false := anyN_false.2 fun s hs => by
    have h2 := h0 s hs
    by_cases hv : 0 < v s
    · have := supL_has hs hv
      rw [List.length_eq_zero_iff.1 h1] at this
      cases this
    · rw [show v s = 0 from by omega]; rfl
  rw [this] at h; cases h
theorem sup_none (h : anyN (fun k => v k != 0) N = false) : supL v N = [] := by
  refine List.eq_nil_iff_forall_not_mem.2 fun x hx => ?_
  obtain ⟨s, h1, _, h2⟩ := supL_mem hx
  have := anyN_false.1 h s h1
  rw [bne_eq_false_iff_eq] at this
  omega
theorem par_any (h : 0 < (supL v N).length) : anyN (fun k => parV v N k != 0) (supL v N).length = true := by
  cases hb : anyN (fun k => parV v N k != 0) (supL v N).length with
  | true => rfl
  | false =>
    have h1 := anyN_false.1 hb 0 h
    have h2 := parV_at (v := v) h
    rw [bne_eq_false_iff_eq] at h1
    omega
theorem sup_all {u : Nat → Int} {k : Nat} (h : ∀ s, s < k → 0 < u s) : (supL u k).length = k := by
  induction k with
  | zero => rfl
  | succ k ih => rw [supL_succ, List.length_append, if_pos (h k (by omega)), ih fun s hs => h s (by omega)]; rfl
end
end Go.Proofs.Ytlaoijfphkhchaa
