/- Determinants by expansion, for any number of rows: a matrix times its adjugate; the theorem of Cayley and Hamilton. -/
import Derived.Test.YtlaoijfphkhchaaB13
namespace Go.Proofs.Ytlaoijfphkhchaa
/-- The sign of a place. -/
def sg (n : Nat) : Int := if n % 2 = 1 then -1 else 1
theorem sgF_eq (n : Nat) (x : Int) : sgF n x = sg n * x := by
  unfold sgF sg
  split
  · omega
  · omega
theorem sg_succ (n : Nat) : sg (n + 1) = -sg n := by
  unfold sg
  split <;> split <;> omega
theorem sg_sq (n : Nat) : sg n * sg n = 1 := by
  unfold sg
  split <;> rfl
theorem sg_add (a b : Nat) : sg (a + b) = sg a * sg b := by
  induction b with
  | zero => simp [sg]
  | succ b ih => rw [← Nat.add_assoc, sg_succ, sg_succ, ih, Int.mul_neg]
theorem dotN_neg (f : Nat → Int) (n : Nat) : dotN (fun j => -f j) n = -dotN f n := by
  induction n with
  | zero => rfl
  | succ n ih => rw [dotN, dotN, ih]; omega
theorem detL_succ (n : Nat) (F : Nat → Nat → Int) : detL (n + 1) F = dotN (fun k => sg k * (F 0 k * detL n (woF F 0 k))) (n + 1) := by
  rw [detL]
  exact dotN_congr fun k _ => sgF_eq _ _
theorem detL_congr (n : Nat) : ∀ {F G : Nat → Nat → Int}, (∀ i k, i < n → k < n → F i k = G i k) → detL n F = detL n G := by
  induction n with
  | zero => intros; rfl
  | succ n ih =>
    intro F G h
    rw [detL_succ, detL_succ]
    refine dotN_congr fun k hk => ?_
    rw [h 0 k (by omega) hk, ih (G := woF G 0 k) fun i j hi hj => ?_]
    unfold woF
    split <;> split <;> exact h _ _ (by omega) (by omega)
/-- The places but one. -/
def skp (k l : Nat) : Nat := if l < k then l else l + 1
theorem dotN_skip (h : Nat → Int) (n k : Nat) (hk : k ≤ n) : dotN h (n + 1) = dotN (fun l => h (skp k l)) n + h k := by
  induction n with
  | zero =>
    have : k = 0 := by omega
    subst this
    rfl
  | succ n ih =>
    by_cases e : k = n + 1
    · subst e
      rw [dotN]
      congr 1
      exact dotN_congr fun l hl => by rw [skp, if_pos hl]
    · rw [dotN, ih (by omega), dotN, skp, if_neg (by omega)]
      omega
/-- The places but two. -/
def twp (i j b : Nat) : Nat := if b < i then b else if b + 1 < j then b + 1 else b + 2
def epS (k m : Nat) : Int := sg k * sg (if m < k then m else m - 1)
theorem epS_swap {k m : Nat} (h : m ≠ k) : epS m k = -epS k m := by
  unfold epS
  by_cases h1 : m < k
  · rw [if_pos h1, if_neg (by omega)]
    obtain ⟨j, rfl⟩ : ∃ j, k = j + 1 := ⟨k - 1, by omega⟩
    rw [sg_succ, Nat.add_sub_cancel, Int.neg_mul, Int.neg_neg, Int.mul_comm]
  · rw [if_neg h1, if_pos (by omega)]
    obtain ⟨j, rfl⟩ : ∃ j, m = j + 1 := ⟨m - 1, by omega⟩
    rw [sg_succ, Nat.add_sub_cancel, Int.neg_mul, Int.mul_comm]
def dt2 (n : Nat) (F : Nat → Nat → Int) (k m : Nat) : Int := detL n (fun a b => F (a + 2) (twp (min k m) (max k m) b))
def tt2 (n : Nat) (F : Nat → Nat → Int) (k m : Nat) : Int := if m = k then 0 else epS k m * (F 0 k * F 1 m * dt2 n F k m)
theorem detL_two (n : Nat) (F : Nat → Nat → Int) : detL (n + 2) F = dotN (fun k => dotN (fun m => tt2 n F k m) (n + 2)) (n + 2) := by
  rw [detL_succ]
  refine dotN_congr fun k hk => ?_
  rw [dotN_skip (fun m => tt2 n F k m) (n + 1) k (by omega), show tt2 n F k k = 0 from if_pos rfl, Int.add_zero, detL_succ, ← dotN_mul, ← dotN_mul]
  refine dotN_congr fun l hl => ?_
  unfold tt2 epS dt2 skp
  by_cases h : l < k
  · simp only [if_pos h]
    rw [if_neg (by omega), show woF F 0 k 0 l = F 1 l from by simp [woF, h], show min k l = l from by omega, show max k l = k from by omega]
    rw [show (fun a b => F (a + 2) (twp l k b)) = woF (woF F 0 k) 0 l from by
      funext a b
      simp only [woF, twp]
      congr 1
      repeat' split
      all_goals omega]
    grind
  · simp only [if_neg h]
    rw [if_neg (by omega), show woF F 0 k 0 l = F 1 (l + 1) from by simp [woF, h], show min k (l + 1) = k from by omega, show max k (l + 1) = l + 1 from by omega, if_neg (by omega), Nat.add_sub_cancel]
    rw [show (fun a b => F (a + 2) (twp k (l + 1) b)) = woF (woF F 0 k) 0 l from by
      funext a b
      simp only [woF, twp]
      congr 1
      repeat' split
      all_goals omega]
    grind
/-- Two rows that follow each other exchanged. -/
def swR (i : Nat) (F : Nat → Nat → Int) : Nat → Nat → Int := fun a b => F (if a = i then i + 1 else if a = i + 1 then i else a) b
theorem detL_sw0 (n : Nat) (F : Nat → Nat → Int) : detL (n + 2) (swR 0 F) = -detL (n + 2) F := by
  rw [detL_two, detL_two, dotN_swap, ← dotN_neg]
  refine dotN_congr fun k _ => ?_
  rw [← dotN_neg]
  refine dotN_congr fun m _ => ?_
  unfold tt2
  by_cases h : m = k
  · subst h
    simp
  · rw [if_neg (fun e => h e.symm), if_neg h, epS_swap h]
    have h1 : dt2 n (swR 0 F) m k = dt2 n F k m := by
      unfold dt2
      rw [Nat.min_comm, Nat.max_comm]
      congr 1
    rw [h1]
    have h2 : swR 0 F 0 m = F 1 m := by simp [swR]
    have h3 : swR 0 F 1 k = F 0 k := by simp [swR]
    rw [h2, h3]
    grind
theorem detL_sw (i : Nat) : ∀ (n : Nat) (F : Nat → Nat → Int), i + 1 < n → detL n (swR i F) = -detL n F := by
  induction i with
  | zero =>
    intro n F h
    obtain ⟨m, rfl⟩ : ∃ m, n = m + 2 := ⟨n - 2, by omega⟩
    exact detL_sw0 m F
  | succ i ih =>
    intro n F h
    obtain ⟨m, rfl⟩ : ∃ m, n = m + 1 := ⟨n - 1, by omega⟩
    rw [detL_succ, detL_succ, ← dotN_neg]
    refine dotN_congr fun k _ => ?_
    have h1 : swR (i + 1) F 0 k = F 0 k := by simp [swR]
    have h2 : woF (swR (i + 1) F) 0 k = swR i (woF F 0 k) := by
      funext a b
      simp only [woF, swR]
      congr 1
      repeat' split
      all_goals omega
    rw [h1, h2, ih m _ (by omega)]
    grind
/-- A row moved to the top. -/
def mvR (i : Nat) (F : Nat → Nat → Int) : Nat → Nat → Int := fun a b => F (if a = 0 then i else if a ≤ i then a - 1 else a) b
theorem detL_mv (n : Nat) (i : Nat) : ∀ (F : Nat → Nat → Int), i < n → detL n (mvR i F) = sg i * detL n F := by
  induction i with
  | zero =>
    intro F _
    rw [show mvR 0 F = F from ?_]
    · simp [sg]
    · funext a b
      unfold mvR
      congr 1
      repeat' split
      all_goals omega
  | succ i ih =>
    intro F h
    rw [show mvR (i + 1) F = mvR i (swR i F) from ?_, ih _ (by omega), detL_sw i n F h, sg_succ]
    · grind
    · funext a b
      simp only [mvR, swR]
      congr 1
      repeat' split
      all_goals omega
/-- The determinant, expanded along any row. -/
theorem detL_row (n i : Nat) (F : Nat → Nat → Int) (h : i < n) : detL n F = dotN (fun k => F i k * adjL n F k i) n := by
  obtain ⟨m, rfl⟩ : ∃ m, n = m + 1 := ⟨n - 1, by omega⟩
  have h1 := detL_mv (m + 1) i F h
  have h2 : detL (m + 1) F = sg i * detL (m + 1) (mvR i F) := by
    rw [h1, ← Int.mul_assoc, sg_sq, Int.one_mul]
  rw [h2, detL_succ, ← dotN_mul]
  refine dotN_congr fun k _ => ?_
  have h3 : woF (mvR i F) 0 k = woF F i k := by
    funext a b
    simp only [woF, mvR]
    congr 1
    repeat' split
    all_goals omega
  have h4 : mvR i F 0 k = F i k := by simp [mvR]
  rw [h3, h4, adjL, sgF_eq, sg_add, Nat.add_sub_cancel]
  grind
theorem detL_eqR (n d : Nat) : ∀ (i : Nat) (F : Nat → Nat → Int), i + d + 1 < n → (∀ k, k < n → F i k = F (i + d + 1) k) → detL n F = 0 := by
  induction d with
  | zero =>
    intro i F h e
    have h1 := detL_sw i n F h
    have h2 : detL n (swR i F) = detL n F := detL_congr n fun a b ha hb => by
      unfold swR
      split
      · rename_i h; subst h; exact (e b hb).symm
      · split
        · rename_i h1 h2; subst h2; exact e b hb
        · rfl
    omega
  | succ d ih =>
    intro i F h e
    have h1 := detL_sw (i + d + 1) n F (by omega)
    have h2 := ih i (swR (i + d + 1) F) (by omega) fun k hk => by
      unfold swR
      rw [if_neg (by omega), if_neg (by omega), if_pos rfl]
      exact e k hk
    omega
/-- A matrix with another row. -/
def upR (F : Nat → Nat → Int) (l : Nat) (r : Nat → Int) : Nat → Nat → Int := fun a b => if a = l then r b else F a b
theorem adjL_up (n : Nat) (F : Nat → Nat → Int) (l : Nat) (r : Nat → Int) (k : Nat) : adjL n (upR F l r) k l = adjL n F k l := by
  unfold adjL
  congr 2
  funext a b
  unfold woF upR
  rw [if_neg]
  split <;> omega
theorem detL_up (n l : Nat) (F : Nat → Nat → Int) (r : Nat → Int) (h : l < n) : detL n (upR F l r) = dotN (fun k => r k * adjL n F k l) n := by
  rw [detL_row n l _ h]
  refine dotN_congr fun k _ => ?_
  rw [adjL_up]
  simp [upR]
/-- A matrix times its adjugate. -/
theorem mulF_adj (n : Nat) (F : Nat → Nat → Int) (i k : Nat) (hi : i < n) (hk : k < n) : mulF n F (adjL n F) i k = if i = k then detL n F else 0 := by
  unfold mulF
  rw [← detL_up n k F (F i) hk]
  by_cases h : i = k
  · subst h
    rw [if_pos rfl]
    congr 1
    funext a b
    unfold upR
    split
    · rename_i e; rw [e]
    · rfl
  · rw [if_neg h]
    by_cases h1 : i < k
    · exact detL_eqR n (k - i - 1) i _ (by omega) fun b _ => by
        unfold upR
        rw [if_neg h, if_pos (by omega)]
    · exact detL_eqR n (i - k - 1) k _ (by omega) fun b _ => by
        unfold upR
        rw [if_pos rfl, if_neg (by omega)]
        congr 1
        omega
theorem detL_one (n : Nat) : detL n oneF = 1 := by
  induction n with
  | zero => rfl
  | succ n ih =>
    rw [detL_succ, dotN_congr (g := fun k => if 0 = k then detL n (woF oneF 0 k) else 0) fun k _ => ?_, dotN_pick _ _ 0 (by omega)]
    · rw [← ih]
      congr 1
      funext a b
      simp [woF, oneF]
    · unfold oneF
      by_cases h : 0 = k
      · subst h
        simp [sg]
      · simp [h]
/-- A polynomial with m coefficients. -/
def pol (c : Nat → Int) (m : Nat) (x : Int) : Int := dotN (fun j => c j * x ^ j) m
theorem pol_succ (c : Nat → Int) (m : Nat) (x : Int) : pol c (m + 1) x = c 0 + x * pol (fun j => c (j + 1)) m x := by
  unfold pol
  induction m with
  | zero => simp [dotN]
  | succ m ih =>
    rw [dotN, ih, dotN, Int.pow_succ]
    grind
theorem pol_add (c d : Nat → Int) (m : Nat) (x : Int) : pol (fun j => c j + d j) m x = pol c m x + pol d m x := by
  unfold pol
  rw [← dotN_add]
  exact dotN_congr fun j _ => Int.add_mul ..
theorem pol_smul (a : Int) (c : Nat → Int) (m : Nat) (x : Int) : pol (fun j => a * c j) m x = a * pol c m x := by
  unfold pol
  rw [← dotN_mul]
  exact dotN_congr fun j _ => Int.mul_assoc ..
theorem pol_congr {c d : Nat → Int} {m : Nat} (x : Int) (h : ∀ j, j < m → c j = d j) : pol c m x = pol d m x := dotN_congr fun j hj => by rw [h j hj]
theorem pol_more {c : Nat → Int} {m : Nat} (h : c m = 0) (x : Int) : pol c (m + 1) x = pol c m x := by
  unfold pol
  rw [dotN, h, Int.zero_mul, Int.add_zero]
theorem pol_zero {m : Nat} : ∀ {c : Nat → Int}, (∀ x : Int, 1 ≤ x → pol c m x = 0) → ∀ j, j < m → c j = 0 := by
  induction m with
  | zero => intro c _ j hj; omega
  | succ m ih =>
    intro c h
    have h0 : c 0 = 0 := by
      have h1 := h ((c 0).natAbs + 1) (by omega)
      rw [pol_succ] at h1
      refine Int.eq_zero_of_dvd_of_natAbs_lt_natAbs (d := (((c 0).natAbs : Int) + 1)) ?_ (by omega)
      refine ⟨-pol (fun j => c (j + 1)) m (((c 0).natAbs : Int) + 1), ?_⟩
      rw [Int.mul_neg]
      omega
    have h2 := ih (c := fun j => c (j + 1)) fun x hx => by
      have := h x hx
      rw [pol_succ, h0, Int.zero_add] at this
      rcases Int.mul_eq_zero.1 this with h | h
      · omega
      · exact h
    intro j hj
    cases j with
    | zero => exact h0
    | succ j => exact h2 j (by omega)
theorem pol_inj {m : Nat} {c d : Nat → Int} (h : ∀ x : Int, 1 ≤ x → pol c m x = pol d m x) (j : Nat) (hj : j < m) : c j = d j := by
  have h1 := pol_zero (c := fun j => c j + -1 * d j) (m := m) (fun x hx => by
    rw [pol_add c (fun j => -1 * d j), pol_smul, h x hx]
    omega) j hj
  omega
/-- The determinant of a matrix whose entries are linear. -/
theorem detL_pol (n : Nat) : ∀ (P Q : Nat → Nat → Int), ∃ c : Nat → Int, (∀ x : Int, detL n (fun i k => P i k + Q i k * x) = pol c (n + 1) x) ∧ c n = detL n Q ∧ ∀ j, n < j → c j = 0 := by
  induction n with
  | zero => intro P Q; exact ⟨fun j => if j = 0 then 1 else 0, fun x => by simp [pol, dotN, detL], by simp [detL], fun j hj => if_neg (by omega)⟩
  | succ n ih =>
    intro P Q
    have hc : ∀ k : Nat, ∃ c : Nat → Int, (∀ x : Int, detL n (woF (fun i k => P i k + Q i k * x) 0 k) = pol c (n + 1) x) ∧ c n = detL n (woF Q 0 k) ∧ ∀ j, n < j → c j = 0 := fun k => ih (woF P 0 k) (woF Q 0 k)
    have hs : ∀ N : Nat, ∃ c : Nat → Int, (∀ x : Int, dotN (fun k => sg k * ((P 0 k + Q 0 k * x) * detL n (woF (fun i k => P i k + Q i k * x) 0 k))) N = pol c (n + 2) x) ∧ c (n + 1) = dotN (fun k => sg k * (Q 0 k * detL n (woF Q 0 k))) N ∧ ∀ j, n + 1 < j → c j = 0 := by
      intro N
      induction N with
      | zero => exact ⟨fun _ => 0, fun x => by simp [dotN, pol, dotN_zero], rfl, fun _ _ => rfl⟩
      | succ N ihN =>
        obtain ⟨c, h1, h2, h3⟩ := ihN
        obtain ⟨d, g1, g2, g3⟩ := hc N
        refine ⟨fun j => c j + sg N * (P 0 N * d j + Q 0 N * (if j = 0 then 0 else d (j - 1))), fun x => ?_, ?_, fun j hj => ?_⟩
        · rw [dotN, h1, pol_add c (fun j => sg N * (P 0 N * d j + Q 0 N * (if j = 0 then 0 else d (j - 1)))), pol_smul, pol_add (fun j => P 0 N * d j), pol_smul, pol_smul, g1]
          have e1 : pol d (n + 2) x = pol d (n + 1) x := pol_more (g3 _ (by omega)) x
          have e2 : pol (fun j => if j = 0 then 0 else d (j - 1)) (n + 2) x = x * pol d (n + 1) x := by
            rw [pol_succ, if_pos rfl, Int.zero_add]
            rfl
          rw [e1, e2]
          grind
        · have e3 := g3 (n + 1) (by omega)
          simp [dotN, ← h2, e3, ← g2]
        · have e3 := g3 j (by omega)
          have e4 := g3 (j - 1) (by omega)
          simp [h3 j (by omega), e3, e4]
    obtain ⟨c, h1, h2, h3⟩ := hs (n + 1)
    refine ⟨c, fun x => ?_, ?_, h3⟩
    · rw [detL_succ, ← h1]
    · rw [detL_succ, h2]
/-- x times the identity, less a matrix. -/
def chX (A : Nat → Nat → Int) (x : Int) : Nat → Nat → Int := fun i k => -A i k + oneF i k * x
theorem detL_dvd (h : Int) (n : Nat) : ∀ {F G : Nat → Nat → Int}, (∀ i k, i < n → k < n → h ∣ F i k - G i k) → h ∣ detL n F - detL n G := by
  induction n with
  | zero => intro F G _; simp [detL]
  | succ n ih =>
    intro F G e
    rw [detL_succ, detL_succ]
    have hk : ∀ k, k < n + 1 → h ∣ sg k * (F 0 k * detL n (woF F 0 k)) - sg k * (G 0 k * detL n (woF G 0 k)) := fun k hk => by
      obtain ⟨a, ha⟩ := e 0 k (by omega) hk
      obtain ⟨b, hb⟩ := ih (F := woF F 0 k) (G := woF G 0 k) fun i j hi hj => by
        unfold woF
        split <;> split <;> exact e _ _ (by omega) (by omega)
      refine ⟨sg k * (a * detL n (woF F 0 k) + G 0 k * b), ?_⟩
      grind
    have : ∀ N, N ≤ n + 1 → h ∣ dotN (fun k => sg k * (F 0 k * detL n (woF F 0 k))) N - dotN (fun k => sg k * (G 0 k * detL n (woF G 0 k))) N := by
      intro N
      induction N with
      | zero => intro _; simp [dotN]
      | succ N ihN =>
        intro hN
        obtain ⟨a, ha⟩ := ihN (by omega)
        obtain ⟨b, hb⟩ := hk N (by omega)
        refine ⟨a + b, ?_⟩
        rw [dotN, dotN, Int.mul_add]
        omega
    exact this _ (Nat.le_refl _)
theorem dotN_dvd {h : Int} {f g : Nat → Int} {n : Nat} (e : ∀ j, j < n → h ∣ f j - g j) : h ∣ dotN f n - dotN g n := by
  induction n with
  | zero => simp [dotN]
  | succ n ih =>
    obtain ⟨a, ha⟩ := ih fun j hj => e j (by omega)
    obtain ⟨b, hb⟩ := e n (by omega)
    refine ⟨a + b, ?_⟩
    rw [dotN, dotN, Int.mul_add]
    omega
/-- The matrix at x + h in the first rows, at x in the others. -/
def hyb (A : Nat → Nat → Int) (x h : Int) (m : Nat) : Nat → Nat → Int := fun i k => if i < m then chX A (x + h) i k else chX A x i k
theorem det_hyb (n : Nat) (A : Nat → Nat → Int) (x h : Int) (m : Nat) (hm : m ≤ n) :
    detL n (hyb A x h m) = detL n (chX A x) + h * dotN (fun i => adjL n (hyb A x h i) i i) m := by
  induction m with
  | zero =>
    rw [dotN, Int.mul_zero, Int.add_zero]
    exact detL_congr n fun i k _ _ => if_neg (by omega)
  | succ m ih =>
    have e1 : detL n (hyb A x h (m + 1)) = detL n (upR (hyb A x h m) m (fun k => hyb A x h m m k + h * oneF m k)) := detL_congr n fun i k _ _ => by
      unfold upR hyb
      by_cases e : i = m
      · subst e
        rw [if_pos (by omega), if_pos rfl]
        dsimp only
        rw [if_neg (by omega)]
        unfold chX
        grind
      · rw [if_neg e]
        by_cases e2 : i < m
        · rw [if_pos (by omega), if_pos e2]
        · rw [if_neg (by omega), if_neg e2]
    rw [e1, detL_up n m _ _ (by omega), dotN, dotN_congr (g := fun k => hyb A x h m m k * adjL n (hyb A x h m) k m + h * (if m = k then adjL n (hyb A x h m) k m else 0)) fun k _ => ?_, dotN_add, dotN_mul, dotN_pick (fun k => adjL n (hyb A x h m) k m) n m (by omega), ← detL_row n m _ (by omega), ih (by omega)]
    · grind
    · unfold oneF
      by_cases e : m = k
      · rw [if_pos e, if_pos e]; grind
      · rw [if_neg e, if_neg e]; grind
theorem adjL_dvd {h : Int} {n i k : Nat} {F G : Nat → Nat → Int} (hi : i < n) (hk : k < n) (e : ∀ i k, i < n → k < n → h ∣ F i k - G i k) : h ∣ adjL n F i k - adjL n G i k := by
  unfold adjL
  obtain ⟨b, hb⟩ := detL_dvd h (n - 1) (F := woF F k i) (G := woF G k i) fun a c ha hc => by
    unfold woF
    split <;> split <;> exact e _ _ (by omega) (by omega)
  rw [sgF_eq, sgF_eq]
  refine ⟨sg (i + k) * b, ?_⟩
  grind
theorem pow_step (x h : Int) (t : Nat) : h * h ∣ (x + h) ^ (t + 1) - x ^ (t + 1) - ((t + 1 : Nat) : Int) * x ^ t * h := by
  induction t with
  | zero => refine ⟨0, ?_⟩; rw [Int.pow_succ, Int.pow_succ, Int.pow_zero]; simp; omega
  | succ t ih =>
    obtain ⟨b, hb⟩ := ih
    refine ⟨(x + h) * b + ((t + 1 : Nat) : Int) * x ^ t, ?_⟩
    rw [Int.pow_succ, Int.pow_succ x (t + 1)]
    have h1 : (x + h) ^ (t + 1) = x ^ (t + 1) + ((t + 1 : Nat) : Int) * x ^ t * h + h * h * b := by omega
    rw [h1, Int.pow_succ x t]
    push_cast
    grind
theorem pol_step (c : Nat → Int) (m : Nat) (x h : Int) : h * h ∣ pol c (m + 1) (x + h) - pol c (m + 1) x - h * pol (fun j => ((j + 1 : Nat) : Int) * c (j + 1)) m x := by
  induction m with
  | zero => refine ⟨0, ?_⟩; simp [pol, dotN]
  | succ m ih =>
    obtain ⟨a, ha⟩ := ih
    obtain ⟨b, hb⟩ := pow_step x h m
    refine ⟨a + c (m + 1) * b, ?_⟩
    have e1 : ∀ y, pol c (m + 1 + 1) y = pol c (m + 1) y + c (m + 1) * y ^ (m + 1) := fun y => rfl
    have e2 : pol (fun j => ((j + 1 : Nat) : Int) * c (j + 1)) (m + 1) x = pol (fun j => ((j + 1 : Nat) : Int) * c (j + 1)) m x + ((m + 1 : Nat) : Int) * c (m + 1) * x ^ m := rfl
    rw [e1, e1, e2]
    have h1 : (x + h) ^ (m + 1) = x ^ (m + 1) + ((m + 1 : Nat) : Int) * x ^ m * h + h * h * b := by omega
    rw [h1]
    grind
/-- The derivative of the determinant is the trace of the adjugate. -/
theorem det_deriv (n : Nat) (A : Nat → Nat → Int) (c : Nat → Int) (hc : ∀ x : Int, detL n (chX A x) = pol c (n + 1) x) (x : Int) :
    pol (fun j => ((j + 1 : Nat) : Int) * c (j + 1)) n x = dotN (fun i => adjL n (chX A x) i i) n := by
  obtain ⟨D, hD⟩ : ∃ D, D = pol (fun j => ((j + 1 : Nat) : Int) * c (j + 1)) n x - dotN (fun i => adjL n (chX A x) i i) n := ⟨_, rfl⟩
  have key : ∀ h : Int, 1 ≤ h → h ∣ D := by
    intro h hh
    have h1 := det_hyb n A x h n (Nat.le_refl _)
    have h2 : detL n (hyb A x h n) = detL n (chX A (x + h)) := detL_congr n fun i k hi _ => if_pos hi
    rw [h2, hc, hc] at h1
    obtain ⟨a, ha⟩ := pol_step c n x h
    obtain ⟨b, hb⟩ := dotN_dvd (h := h) (f := fun i => adjL n (hyb A x h i) i i) (g := fun i => adjL n (chX A x) i i) (n := n) fun j hj => adjL_dvd hj hj fun i k _ _ => by
      unfold hyb
      split
      · unfold chX
        exact ⟨oneF i k, by grind⟩
      · simp
    refine ⟨b - a, ?_⟩
    have h3 : h * (D - h * (b - a)) = 0 := by
      rw [hD]
      grind
    rcases Int.mul_eq_zero.1 h3 with h | h <;> omega
  have h0 : D = 0 := Int.eq_zero_of_dvd_of_natAbs_lt_natAbs (key (D.natAbs + 1) (by omega)) (by omega)
  omega
theorem pol_dot (y : Nat → Nat → Int) (m n : Nat) (x : Int) : pol (fun t => dotN (fun i => y i t) m) n x = dotN (fun i => pol (y i) n x) m := by
  unfold pol
  rw [dotN_congr (g := fun t => dotN (fun i => y i t * x ^ t) m) fun t _ => (dotN_mul_right (x ^ t) (fun i => y i t) m).symm, dotN_swap]
theorem dotN_one (c : Int) (n : Nat) : dotN (fun _ => c) n = (n : Int) * c := by
  induction n with
  | zero => simp [dotN]
  | succ n ih => rw [dotN, ih]; push_cast; grind
/-- The rounds of Faddeev and LeVerrier, for any number of rows. -/
theorem lev (n : Nat) (hn : 0 < n) (A : Nat → Nat → Int) : ∃ (p : Nat → Int) (X : Nat → Nat → Nat → Int), (∀ x : Int, detL n (chX A x) = pol p (n + 1) x) ∧ p n = 1 ∧
    (∀ i k, i < n → k < n → X 0 i k = if i = k then 1 else 0) ∧ (∀ j, j < n → ((j + 1 : Nat) : Int) * p (n - 1 - j) = -dotN (fun i => mulF n A (X j) i i) n) ∧
    (∀ j, j < n → ∀ i k, i < n → k < n → X (j + 1) i k = mulF n A (X j) i k + if i = k then p (n - 1 - j) else 0) ∧
    (∀ i k, i < n → k < n → X n i k = 0) ∧ ∀ i k, i < n → k < n → ∀ x : Int, adjL n (chX A x) i k = pol (fun t => X (n - 1 - t) i k) n x := by
  obtain ⟨p, hp, hpn, _⟩ := detL_pol n (fun i k => -A i k) oneF
  rw [detL_one] at hpn
  have hY : ∀ i k : Nat, ∃ y : Nat → Int, (∀ x : Int, adjL n (chX A x) i k = pol y n x) ∧ ∀ j, n ≤ j → y j = 0 := fun i k => by
    obtain ⟨c, h1, _, h3⟩ := detL_pol (n - 1) (woF (fun i k => -A i k) k i) (woF oneF k i)
    refine ⟨fun j => sg (i + k) * c j, fun x => ?_, fun j hj => by have e3 := h3 j (by omega); simp [e3]⟩
    rw [pol_smul, adjL, sgF_eq]
    congr 1
    have := h1 x
    rw [show n - 1 + 1 = n from by omega] at this
    exact this
  obtain ⟨Y, hY⟩ : ∃ Y : Nat → Nat → Nat → Int, ∀ i k, (∀ x : Int, adjL n (chX A x) i k = pol (Y i k) n x) ∧ ∀ j, n ≤ j → Y i k j = 0 :=
    ⟨fun i k => Classical.choose (hY i k), fun i k => Classical.choose_spec (hY i k)⟩
  have hp' : ∀ x : Int, detL n (chX A x) = pol p (n + 1) x := hp
  have key : ∀ i k, i < n → k < n → ∀ t, t < n + 1 → (if t = 0 then 0 else Y i k (t - 1)) + -1 * mulF n A (fun a b => Y a b t) i k = if i = k then p t else 0 := by
    intro i k hi hk t ht
    refine pol_inj (m := n + 1) (c := fun t => (if t = 0 then 0 else Y i k (t - 1)) + -1 * mulF n A (fun a b => Y a b t) i k) (d := fun t => if i = k then p t else 0) (fun x _ => ?_) t ht
    have h1 := mulF_adj n (chX A x) i k hi hk
    rw [hp'] at h1
    have h2 : pol (fun t => if i = k then p t else 0) (n + 1) x = if i = k then pol p (n + 1) x else 0 := by
      split
      · rfl
      · simp [pol, dotN_zero]
    rw [h2, ← h1, pol_add (fun t => if t = 0 then 0 else Y i k (t - 1)), pol_smul]
    have h3 : pol (fun t => if t = 0 then 0 else Y i k (t - 1)) (n + 1) x = x * pol (Y i k) n x := by
      rw [pol_succ, if_pos rfl, Int.zero_add]
      rfl
    have h4 : pol (fun t => mulF n A (fun a b => Y a b t) i k) (n + 1) x = dotN (fun j => A i j * pol (Y j k) n x) n := by
      unfold mulF
      rw [pol_dot (fun j t => A i j * Y j k t)]
      refine dotN_congr fun j _ => ?_
      rw [pol_smul, pol_more ((hY j k).2 n (Nat.le_refl _))]
    rw [h3, h4]
    have h5 : mulF n (chX A x) (adjL n (chX A x)) i k = x * pol (Y i k) n x + -1 * dotN (fun j => A i j * pol (Y j k) n x) n := by
      unfold mulF
      rw [dotN_congr (g := fun j => (if i = j then x * pol (Y j k) n x else 0) + -1 * (A i j * pol (Y j k) n x)) fun j _ => ?_, dotN_add, dotN_pick (fun j => x * pol (Y j k) n x) n i hi, dotN_mul]
      rw [(hY j k).1 x]
      unfold chX oneF
      split <;> grind
    rw [h5]
  have htr : ∀ t, t < n → ((t + 1 : Nat) : Int) * p (t + 1) = dotN (fun i => Y i i t) n := by
    intro t ht
    refine pol_inj (m := n) (c := fun t => ((t + 1 : Nat) : Int) * p (t + 1)) (d := fun t => dotN (fun i => Y i i t) n) (fun x _ => ?_) t ht
    rw [det_deriv n A p hp' x, pol_dot (fun i t => Y i i t)]
    exact dotN_congr fun i _ => (hY i i).1 x
  obtain ⟨X, hX⟩ : ∃ X : Nat → Nat → Nat → Int, X = fun j i k => if j < n then Y i k (n - 1 - j) else 0 := ⟨_, rfl⟩
  have h3 : ∀ j, j < n → ∀ i k, i < n → k < n → X (j + 1) i k = mulF n A (X j) i k + if i = k then p (n - 1 - j) else 0 := by
    intro j hj i k hi hk
    have h1 := key i k hi hk (n - 1 - j) (by omega)
    have h2 : mulF n A (X j) i k = mulF n A (fun a b => Y a b (n - 1 - j)) i k := by
      rw [hX]
      unfold mulF
      exact dotN_congr fun l _ => by simp only [if_pos hj]
    rw [h2, ← h1, hX]
    dsimp only
    by_cases e : j + 1 < n
    · rw [if_pos e, if_neg (by omega), show n - 1 - (j + 1) = n - 1 - j - 1 from by omega]
      omega
    · rw [if_neg e, if_pos (by omega)]
      omega
  refine ⟨p, X, hp', hpn, fun i k hi hk => ?_, fun j hj => ?_, h3, fun i k hi hk => ?_, fun i k hi hk x => ?_⟩
  · have h1 := key i k hi hk n (by omega)
    rw [if_neg (by omega), hpn] at h1
    have h2 : mulF n A (fun a b => Y a b n) i k = 0 := by
      unfold mulF
      rw [dotN_congr (g := fun _ => 0) fun j _ => by have e3 := (hY j k).2 n (Nat.le_refl _); simp [e3], dotN_zero]
    rw [h2] at h1
    rw [hX]
    dsimp only
    rw [if_pos hn, Nat.sub_zero]
    omega
  · have h1 : dotN (fun i => X (j + 1) i i) n = dotN (fun i => mulF n A (X j) i i) n + dotN (fun _ => p (n - 1 - j)) n := by
      rw [← dotN_add]
      exact dotN_congr fun i hi => by rw [h3 j hj i i hi hi, if_pos rfl]
    rw [dotN_one] at h1
    have h2 : dotN (fun i => X (j + 1) i i) n = ((n - 1 - j : Nat) : Int) * p (n - 1 - j) := by
      rw [hX]
      dsimp only
      by_cases e : j + 1 < n
      · have h4 := htr (n - 1 - (j + 1)) (by omega)
        rw [show n - 1 - (j + 1) + 1 = n - 1 - j from by omega] at h4
        rw [h4]
        exact dotN_congr fun i _ => if_pos e
      · rw [dotN_congr (g := fun _ => 0) fun i _ => if_neg e, dotN_zero, show n - 1 - j = 0 from by omega]
        simp
    have h5 : ((n - 1 - j : Nat) : Int) = (n : Int) - 1 - (j : Int) := by omega
    rw [h2, h5] at h1
    push_cast
    grind
  · rw [hX]
    exact if_neg (by omega)
  · rw [(hY i k).1 x]
    refine pol_congr x fun t ht => ?_
    rw [hX]
    dsimp only
    rw [if_pos (by omega), show n - 1 - (n - 1 - t) = t from by omega]
theorem detL_neg (n : Nat) : ∀ F : Nat → Nat → Int, detL n (fun i k => -F i k) = sg n * detL n F := by
  induction n with
  | zero => intro F; simp [detL, sg]
  | succ n ih =>
    intro F
    rw [detL_succ, detL_succ, ← dotN_mul]
    refine dotN_congr fun k _ => ?_
    have h1 : woF (fun i k => -F i k) 0 k = fun i j => -woF F 0 k i j := rfl
    rw [h1, ih, sg_succ]
    grind
theorem adjL_neg (n : Nat) (_hn : 0 < n) (F : Nat → Nat → Int) (i k : Nat) : adjL n (fun i k => -F i k) i k = sg (n - 1) * adjL n F i k := by
  unfold adjL
  have h1 : woF (fun i k => -F i k) k i = fun a b => -woF F k i a b := rfl
  rw [h1, detL_neg, sgF_eq, sgF_eq]
  grind
theorem pol_nil (c : Nat → Int) (m : Nat) (hm : 0 < m) : pol c m 0 = c 0 := by
  obtain ⟨k, rfl⟩ : ∃ k, m = k + 1 := ⟨m - 1, by omega⟩
  rw [pol_succ]
  omega
theorem chX_zero (A : Nat → Nat → Int) : chX A 0 = fun i k => -A i k := by
  funext i k
  unfold chX
  omega
/-- What Faddeev and LeVerrier's rounds give, for any number of rows. -/
theorem chr_gen (n : Nat) (hn : 0 < n) (A : Nat → Nat → Int) : (∀ i k, i < n → k < n → chrM n A n i k = 0) ∧ (∀ x : Int, detL n (chX A x) = pol (chrP n A n) (n + 1) x) ∧
    (∀ i k, i < n → k < n → chrM n A (n - 1) i k = sgF (n - 1) (adjL n A i k)) ∧ chrC n A (n - 1) = sgF n (detL n A) ∧
    ∀ j, j < n → ∀ i k, i < n → k < n → chrM n A (j + 1) i k = mulF n A (chrM n A j) i k + if i = k then chrP n A n (n - 1 - j) else 0 := by
  obtain ⟨p, X, h1, h2, h3, h4, h5, h6, h7⟩ := lev n hn A
  obtain ⟨g1, g2⟩ := chr_of X (fun j => p (n - 1 - j)) h3 h4 h5
  have hP : ∀ m, m < n + 1 → chrP n A n m = p m := fun m hm => by
    unfold chrP
    by_cases e : m = n
    · rw [if_pos e, e, h2]
    · rw [if_neg e, if_pos (by omega), g2 _ (by omega), show n - 1 - (n - 1 - m) = m from by omega]
  refine ⟨fun i k hi hk => by rw [g1 n (Nat.le_refl _) i k hi hk, h6 i k hi hk], fun x => by rw [h1]; exact pol_congr x fun j hj => (hP j hj).symm, fun i k hi hk => ?_, ?_, fun j hj i k hi hk => ?_⟩
  · rw [g1 (n - 1) (by omega) i k hi hk, sgF_eq, ← adjL_neg n hn, ← chX_zero, h7 i k hi hk 0, pol_nil _ _ hn, Nat.sub_zero]
  · rw [g2 (n - 1) (by omega), sgF_eq, ← detL_neg, ← chX_zero, h1, pol_nil _ _ (by omega), Nat.sub_self]
  · rw [g1 (j + 1) (by omega) i k hi hk, h5 j hj i k hi hk, hP _ (by omega)]
    congr 1
    unfold mulF
    exact dotN_congr fun l hl => by rw [g1 j (by omega) l k hl hk]
theorem dotN_first (f : Nat → Int) (m : Nat) : dotN f (m + 1) = f 0 + dotN (fun j => f (j + 1)) m := by
  induction m with
  | zero => simp [dotN]
  | succ m ih => rw [dotN, ih, dotN]; omega
/-- The theorem of Cayley and Hamilton, for what a matrix makes of a column. -/
theorem ch_vec (n : Nat) (hn : 0 < n) (A : Nat → Nat → Int) (u : Nat → Nat → Int) (hu : ∀ e i, i < n → u (e + 1) i = dotN (fun j => A i j * u e j) n) (k i : Nat) (hi : i < n) :
    dotN (fun d => chrP n A n d * u (k + d) i) (n + 1) = 0 := by
  obtain ⟨g0, _, _, _, g5⟩ := chr_gen n hn A
  have hT : ∀ j, j ≤ n → ∀ i, i < n → dotN (fun l => chrM n A j i l * u k l) n = dotN (fun d => chrP n A n (n - j + d) * u (k + d) i) (j + 1) := by
    intro j
    induction j with
    | zero =>
      intro _ i hi
      have h1 : chrP n A n n = 1 := if_pos rfl
      rw [dotN_congr (g := fun l => if i = l then u k l else 0) fun l _ => ?_, dotN_pick (fun l => u k l) n i hi]
      · simp [dotN, h1]
      · show (if i = l then (1 : Int) else 0) * _ = _
        split <;> omega
    | succ j ih =>
      intro hj i hi
      rw [dotN_congr (g := fun l => mulF n A (chrM n A j) i l * u k l + (if i = l then chrP n A n (n - 1 - j) * u k l else 0)) fun l hl => ?_, dotN_add, dotN_pick (fun l => chrP n A n (n - 1 - j) * u k l) n i hi, dotN_first]
      · have h1 : dotN (fun l => mulF n A (chrM n A j) i l * u k l) n = dotN (fun m => A i m * dotN (fun l => chrM n A j m l * u k l) n) n := by
          unfold mulF
          rw [dotN_congr (g := fun l => dotN (fun m => A i m * chrM n A j m l * u k l) n) fun l _ => (dotN_mul_right (u k l) (fun m => A i m * chrM n A j m l) n).symm, dotN_swap]
          refine dotN_congr fun m _ => ?_
          rw [← dotN_mul]
          exact dotN_congr fun l _ => Int.mul_assoc ..
        rw [h1, dotN_congr (g := fun m => A i m * dotN (fun d => chrP n A n (n - j + d) * u (k + d) m) (j + 1)) fun m hm => by rw [ih (by omega) m hm]]
        have h2 : dotN (fun m => A i m * dotN (fun d => chrP n A n (n - j + d) * u (k + d) m) (j + 1)) n = dotN (fun d => chrP n A n (n - j + d) * u (k + d + 1) i) (j + 1) := by
          rw [dotN_congr (g := fun m => dotN (fun d => A i m * (chrP n A n (n - j + d) * u (k + d) m)) (j + 1)) fun m _ => (dotN_mul _ _ _).symm, dotN_swap]
          refine dotN_congr fun d _ => ?_
          rw [hu (k + d) i hi, ← dotN_mul]
          exact dotN_congr fun m _ => by grind
        rw [h2, Int.add_comm, show n - (j + 1) + 0 = n - 1 - j from by omega]
        have h3 : dotN (fun d => chrP n A n (n - j + d) * u (k + d + 1) i) (j + 1) = dotN (fun d => chrP n A n (n - (j + 1) + (d + 1)) * u (k + (d + 1)) i) (j + 1) := dotN_congr fun d _ => by
          rw [show n - (j + 1) + (d + 1) = n - j + d from by omega]
          rfl
        rw [h3]
        rfl
      · rw [g5 j (by omega) i l hi hl]
        split <;> grind
  have h1 := hT n (Nat.le_refl _) i hi
  rw [dotN_congr (g := fun _ => 0) fun l hl => by rw [g0 i l hi hl, Int.zero_mul], dotN_zero] at h1
  rw [h1]
  exact dotN_congr fun d _ => by rw [Nat.sub_self, Nat.zero_add]
end Go.Proofs.Ytlaoijfphkhchaa
