/- Faddeev and LeVerrier against Laplace, up to 4 rows. Sums and products of matrices, as functions. -/
import Derived.Test.YtlaoijfphkhchaaB12
import Derived.Test.YtlaoijfphkhchaaB11
namespace Go.Proofs.Ytlaoijfphkhchaa
/-- A matrix without a row and a column. -/
def woF (F : Nat → Nat → Int) (i k : Nat) : Nat → Nat → Int := fun a b => F (if a < i then a else a + 1) (if b < k then b else b + 1)
def sgF (n : Nat) (x : Int) : Int := if n % 2 = 1 then -x else x
/-- The determinant, by expanding the first row. -/
def detL : Nat → (Nat → Nat → Int) → Int
  | 0, _ => 1
  | n + 1, F => dotN (fun k => sgF k (F 0 k * detL n (woF F 0 k))) (n + 1)
def adjL (n : Nat) (F : Nat → Nat → Int) (i k : Nat) : Int := sgF (i + k) (detL (n - 1) (woF F k i))
/-- What the rounds of Faddeev and LeVerrier give. -/
theorem chr_of {n : Nat} {A : Nat → Nat → Int} (X : Nat → Nat → Nat → Int) (c : Nat → Int) (h0 : ∀ i k, i < n → k < n → X 0 i k = if i = k then 1 else 0)
    (h2 : ∀ j, j < n → ((j + 1 : Nat) : Int) * c j = -dotN (fun i => mulF n A (X j) i i) n)
    (h3 : ∀ j, j < n → ∀ i k, i < n → k < n → X (j + 1) i k = mulF n A (X j) i k + if i = k then c j else 0) :
    (∀ j, j ≤ n → ∀ i k, i < n → k < n → chrM n A j i k = X j i k) ∧ ∀ j, j < n → chrC n A j = c j := by
  have dc : ∀ (f g : Nat → Int) (m : Nat), (∀ j, j < m → f j = g j) → dotN f m = dotN g m := by
    intro f g m
    induction m with
    | zero => intro _; rfl
    | succ m ih => intro h; rw [dotN, dotN, ih fun j hj => h j (by omega), h m (by omega)]
  have mc : ∀ j, (∀ i k, i < n → k < n → chrM n A j i k = X j i k) → ∀ i k, k < n → mulF n A (chrM n A j) i k = mulF n A (X j) i k := by
    intro j h i k hk
    exact dc _ _ _ fun l hl => by rw [h l k hl hk]
  have cc : ∀ j, j < n → (∀ i k, i < n → k < n → chrM n A j i k = X j i k) → chrC n A j = c j := by
    intro j hj h
    unfold chrC
    rw [dc _ (fun i => mulF n A (X j) i i) n fun i hi => mc j h i i hi, ← h2 j hj]
    exact Int.mul_ediv_cancel_left _ (by omega)
  have hM : ∀ j, j ≤ n → ∀ i k, i < n → k < n → chrM n A j i k = X j i k := by
    intro j
    induction j with
    | zero => intro _ i k hi hk; exact (h0 i k hi hk).symm
    | succ j ih =>
      intro hj i k hi hk
      show mulF n A (chrM n A j) i k + (if i = k then chrC n A j else 0) = _
      rw [mc j (ih (by omega)) i k hk, cc j (by omega) (ih (by omega)), h3 j (by omega) i k hi hk]
  exact ⟨hM, fun j hj => cc j hj (hM j (by omega))⟩
theorem all1 {P : Nat → Prop} (h0 : P 0) : ∀ i, i < 1 → P i := by intro i hi; have : i = 0 := by omega
                                                                  subst this; exact h0
theorem all2 {P : Nat → Prop} (h0 : P 0) (h1 : P 1) : ∀ i, i < 2 → P i := by
  intro i hi
  match i, hi with
  | 0, _ => exact h0
  | 1, _ => exact h1
theorem all3 {P : Nat → Prop} (h0 : P 0) (h1 : P 1) (h2 : P 2) : ∀ i, i < 3 → P i := by
  intro i hi
  match i, hi with
  | 0, _ => exact h0
  | 1, _ => exact h1
  | 2, _ => exact h2
theorem all4 {P : Nat → Prop} (h0 : P 0) (h1 : P 1) (h2 : P 2) (h3 : P 3) : ∀ i, i < 4 → P i := by
  intro i hi
  match i, hi with
  | 0, _ => exact h0
  | 1, _ => exact h1
  | 2, _ => exact h2
  | 3, _ => exact h3
/-- Sums of principal minors. -/
def e2F (F : Nat → Nat → Int) (i k : Nat) : Int := F i i * F k k - F i k * F k i
def d3F (F : Nat → Nat → Int) (i j k : Nat) : Int := F i i * (F j j * F k k - F j k * F k j) - F i j * (F j i * F k k - F j k * F k i) + F i k * (F j i * F k j - F j j * F k i)
def X4 (A : Nat → Nat → Int) : Nat → Nat → Nat → Int
  | 0 => fun i k => if i = k then 1 else 0
  | 1 => fun i k => A i k - if i = k then A 0 0 + A 1 1 + A 2 2 + A 3 3 else 0
  | 2 => fun i k => mulF 4 A (X4 A 1) i k + if i = k then e2F A 0 1 + e2F A 0 2 + e2F A 0 3 + e2F A 1 2 + e2F A 1 3 + e2F A 2 3 else 0
  | 3 => fun i k => -adjL 4 A i k
  | _ => fun _ _ => 0
def c4 (A : Nat → Nat → Int) : Nat → Int
  | 0 => -(A 0 0 + A 1 1 + A 2 2 + A 3 3)
  | 1 => e2F A 0 1 + e2F A 0 2 + e2F A 0 3 + e2F A 1 2 + e2F A 1 3 + e2F A 2 3
  | 2 => -(d3F A 0 1 2 + d3F A 0 1 3 + d3F A 0 2 3 + d3F A 1 2 3)
  | _ => detL 4 A
set_option maxRecDepth 100000 in
set_option maxHeartbeats 4000000 in
theorem chr4_two (A : Nat → Nat → Int) : ∀ j, j < 4 → ((j + 1 : Nat) : Int) * c4 A j = -dotN (fun i => mulF 4 A (X4 A j) i i) 4 := by
  refine all4 ?_ ?_ ?_ ?_
  · simp [c4, X4, mulF, dotN]
  · simp [c4, X4, mulF, dotN, e2F]; grind
  · simp [c4, X4, mulF, dotN, e2F, d3F]; grind
  · simp [c4, X4, mulF, dotN, adjL, detL, woF, sgF]; grind
set_option maxRecDepth 100000 in
set_option maxHeartbeats 4000000 in
theorem chr4_three (A : Nat → Nat → Int) : ∀ j, j < 4 → ∀ i, i < 4 → ∀ k, k < 4 → X4 A (j + 1) i k = mulF 4 A (X4 A j) i k + if i = k then c4 A j else 0 := by
  refine all4 ?_ ?_ ?_ ?_
  · refine all4 (all4 ?_ ?_ ?_ ?_) (all4 ?_ ?_ ?_ ?_) (all4 ?_ ?_ ?_ ?_) (all4 ?_ ?_ ?_ ?_) <;> simp [c4, X4, mulF, dotN] <;> grind
  · intro i _ k _; simp [c4, X4]
  · refine all4 (all4 ?_ ?_ ?_ ?_) (all4 ?_ ?_ ?_ ?_) (all4 ?_ ?_ ?_ ?_) (all4 ?_ ?_ ?_ ?_) <;> simp [c4, X4, mulF, dotN, adjL, detL, woF, sgF, e2F, d3F] <;> grind
  · refine all4 (all4 ?_ ?_ ?_ ?_) (all4 ?_ ?_ ?_ ?_) (all4 ?_ ?_ ?_ ?_) (all4 ?_ ?_ ?_ ?_) <;> simp [c4, X4, mulF, dotN, adjL, detL, woF, sgF] <;> grind
def X1 (A : Nat → Nat → Int) : Nat → Nat → Nat → Int
  | 0 => fun i k => if i = k then 1 else 0
  | _ => fun _ _ => 0
def c1 (A : Nat → Nat → Int) : Nat → Int
  | _ => -(A 0 0)
set_option maxRecDepth 100000 in
set_option maxHeartbeats 4000000 in
theorem chr1_two (A : Nat → Nat → Int) : ∀ j, j < 1 → ((j + 1 : Nat) : Int) * c1 A j = -dotN (fun i => mulF 1 A (X1 A j) i i) 1 := by
  refine all1 ?_ <;> simp [c1, X1, mulF, dotN, adjL, detL, woF, sgF, e2F] <;> grind
set_option maxRecDepth 100000 in
set_option maxHeartbeats 4000000 in
theorem chr1_three (A : Nat → Nat → Int) : ∀ j, j < 1 → ∀ i, i < 1 → ∀ k, k < 1 → X1 A (j + 1) i k = mulF 1 A (X1 A j) i k + if i = k then c1 A j else 0 := by
  refine all1 ?_
  · refine all1 (all1 ?_) <;> simp [c1, X1, mulF, dotN, adjL, detL, woF, sgF, e2F] <;> grind
def X2 (A : Nat → Nat → Int) : Nat → Nat → Nat → Int
  | 0 => fun i k => if i = k then 1 else 0
  | 1 => fun i k => -adjL 2 A i k
  | _ => fun _ _ => 0
def c2 (A : Nat → Nat → Int) : Nat → Int
  | 0 => -(A 0 0 + A 1 1)
  | _ => detL 2 A
set_option maxRecDepth 100000 in
set_option maxHeartbeats 4000000 in
theorem chr2_two (A : Nat → Nat → Int) : ∀ j, j < 2 → ((j + 1 : Nat) : Int) * c2 A j = -dotN (fun i => mulF 2 A (X2 A j) i i) 2 := by
  refine all2 ?_ ?_ <;> simp [c2, X2, mulF, dotN, adjL, detL, woF, sgF, e2F] <;> grind
set_option maxRecDepth 100000 in
set_option maxHeartbeats 4000000 in
theorem chr2_three (A : Nat → Nat → Int) : ∀ j, j < 2 → ∀ i, i < 2 → ∀ k, k < 2 → X2 A (j + 1) i k = mulF 2 A (X2 A j) i k + if i = k then c2 A j else 0 := by
  refine all2 ?_ ?_
  · refine all2 (all2 ?_ ?_) (all2 ?_ ?_) <;> simp [c2, X2, mulF, dotN, adjL, detL, woF, sgF, e2F] <;> grind
  · refine all2 (all2 ?_ ?_) (all2 ?_ ?_) <;> simp [c2, X2, mulF, dotN, adjL, detL, woF, sgF, e2F] <;> grind
def X3 (A : Nat → Nat → Int) : Nat → Nat → Nat → Int
  | 0 => fun i k => if i = k then 1 else 0
  | 1 => fun i k => A i k - if i = k then A 0 0 + A 1 1 + A 2 2 else 0
  | 2 => fun i k => adjL 3 A i k
  | _ => fun _ _ => 0
def c3 (A : Nat → Nat → Int) : Nat → Int
  | 0 => -(A 0 0 + A 1 1 + A 2 2)
  | 1 => e2F A 0 1 + e2F A 0 2 + e2F A 1 2
  | _ => -detL 3 A
set_option maxRecDepth 100000 in
set_option maxHeartbeats 4000000 in
theorem chr3_two (A : Nat → Nat → Int) : ∀ j, j < 3 → ((j + 1 : Nat) : Int) * c3 A j = -dotN (fun i => mulF 3 A (X3 A j) i i) 3 := by
  refine all3 ?_ ?_ ?_ <;> simp [c3, X3, mulF, dotN, adjL, detL, woF, sgF, e2F] <;> grind
set_option maxRecDepth 100000 in
set_option maxHeartbeats 4000000 in
theorem chr3_three (A : Nat → Nat → Int) : ∀ j, j < 3 → ∀ i, i < 3 → ∀ k, k < 3 → X3 A (j + 1) i k = mulF 3 A (X3 A j) i k + if i = k then c3 A j else 0 := by
  refine all3 ?_ ?_ ?_
  · refine all3 (all3 ?_ ?_ ?_) (all3 ?_ ?_ ?_) (all3 ?_ ?_ ?_) <;> simp [c3, X3, mulF, dotN, adjL, detL, woF, sgF, e2F] <;> grind
  · refine all3 (all3 ?_ ?_ ?_) (all3 ?_ ?_ ?_) (all3 ?_ ?_ ?_) <;> simp [c3, X3, mulF, dotN, adjL, detL, woF, sgF, e2F] <;> grind
  · refine all3 (all3 ?_ ?_ ?_) (all3 ?_ ?_ ?_) (all3 ?_ ?_ ?_) <;> simp [c3, X3, mulF, dotN, adjL, detL, woF, sgF, e2F] <;> grind
theorem chr1_all (A : Nat → Nat → Int) : (∀ j, j ≤ 1 → ∀ i k, i < 1 → k < 1 → chrM 1 A j i k = X1 A j i k) ∧ ∀ j, j < 1 → chrC 1 A j = c1 A j :=
  chr_of (X1 A) (c1 A) (fun _ _ _ _ => rfl) (chr1_two A) fun j hj i k hi hk => chr1_three A j hj i hi k hk
theorem chr2_all (A : Nat → Nat → Int) : (∀ j, j ≤ 2 → ∀ i k, i < 2 → k < 2 → chrM 2 A j i k = X2 A j i k) ∧ ∀ j, j < 2 → chrC 2 A j = c2 A j :=
  chr_of (X2 A) (c2 A) (fun _ _ _ _ => rfl) (chr2_two A) fun j hj i k hi hk => chr2_three A j hj i hi k hk
theorem chr3_all (A : Nat → Nat → Int) : (∀ j, j ≤ 3 → ∀ i k, i < 3 → k < 3 → chrM 3 A j i k = X3 A j i k) ∧ ∀ j, j < 3 → chrC 3 A j = c3 A j :=
  chr_of (X3 A) (c3 A) (fun _ _ _ _ => rfl) (chr3_two A) fun j hj i k hi hk => chr3_three A j hj i hi k hk
theorem chr4_all (A : Nat → Nat → Int) : (∀ j, j ≤ 4 → ∀ i k, i < 4 → k < 4 → chrM 4 A j i k = X4 A j i k) ∧ ∀ j, j < 4 → chrC 4 A j = c4 A j :=
  chr_of (X4 A) (c4 A) (fun _ _ _ _ => by rw [X4]) (chr4_two A) fun j hj i k hi hk => chr4_three A j hj i hi k hk
/-- Cayley and Hamilton. -/
theorem chr_last (n : Nat) (h1 : 0 < n) (h4 : n ≤ 4) (A : Nat → Nat → Int) (i k : Nat) (hi : i < n) (hk : k < n) : chrM n A n i k = 0 := by
  have : n = 1 ∨ n = 2 ∨ n = 3 ∨ n = 4 := by omega
  rcases this with rfl | rfl | rfl | rfl
  · exact (chr1_all A).1 1 (by omega) i k hi hk
  · exact (chr2_all A).1 2 (by omega) i k hi hk
  · exact (chr3_all A).1 3 (by omega) i k hi hk
  · rw [(chr4_all A).1 4 (by omega) i k hi hk, X4]; all_goals (intros; contradiction)
theorem chr_det (n : Nat) (h1 : 0 < n) (h4 : n ≤ 4) (A : Nat → Nat → Int) : chrC n A (n - 1) = sgF n (detL n A) := by
  have : n = 1 ∨ n = 2 ∨ n = 3 ∨ n = 4 := by omega
  rcases this with rfl | rfl | rfl | rfl
  · rw [(chr1_all A).2 0 (by omega)]; simp [c1, sgF, detL, dotN]
  · rw [(chr2_all A).2 1 (by omega)]; rfl
  · rw [(chr3_all A).2 2 (by omega)]; rfl
  · rw [(chr4_all A).2 3 (by omega)]; rfl
theorem chr_adj (n : Nat) (h1 : 0 < n) (h4 : n ≤ 4) (A : Nat → Nat → Int) (i k : Nat) (hi : i < n) (hk : k < n) : chrM n A (n - 1) i k = sgF (n - 1) (adjL n A i k) := by
  have : n = 1 ∨ n = 2 ∨ n = 3 ∨ n = 4 := by omega
  rcases this with rfl | rfl | rfl | rfl
  · rw [(chr1_all A).1 0 (by omega) i k hi hk]
    have e1 : i = 0 := by omega
    have e2 : k = 0 := by omega
    subst e1; subst e2; rfl
  · rw [(chr2_all A).1 1 (by omega) i k hi hk]; rfl
  · rw [(chr3_all A).1 2 (by omega) i k hi hk]; rfl
  · rw [(chr4_all A).1 3 (by omega) i k hi hk, X4]; rfl
end Go.Proofs.Ytlaoijfphkhchaa
namespace Go.Proofs.Ytlaoijfphkhchaa
theorem dotN_congr {f g : Nat → Int} {n : Nat} (h : ∀ j, j < n → f j = g j) : dotN f n = dotN g n := by
  induction n with
  | zero => rfl
  | succ n ih => rw [dotN, dotN, ih fun j hj => h j (by omega), h n (by omega)]
theorem dotN_zero (n : Nat) : dotN (fun _ => 0) n = 0 := by
  induction n with
  | zero => rfl
  | succ n ih => rw [dotN, ih]; rfl
theorem dotN_add (f g : Nat → Int) (n : Nat) : dotN (fun j => f j + g j) n = dotN f n + dotN g n := by
  induction n with
  | zero => rfl
  | succ n ih => rw [dotN, dotN, dotN, ih]; omega
theorem dotN_mul (c : Int) (f : Nat → Int) (n : Nat) : dotN (fun j => c * f j) n = c * dotN f n := by
  induction n with
  | zero => exact (Int.mul_zero c).symm
  | succ n ih => rw [dotN, dotN, ih, Int.mul_add]
theorem dotN_mul_right (c : Int) (f : Nat → Int) (n : Nat) : dotN (fun j => f j * c) n = dotN f n * c := by
  induction n with
  | zero => exact (Int.zero_mul c).symm
  | succ n ih => rw [dotN, dotN, ih, Int.add_mul]
theorem dotN_swap (f : Nat → Nat → Int) (m n : Nat) : dotN (fun i => dotN (fun j => f i j) n) m = dotN (fun j => dotN (fun i => f i j) m) n := by
  induction m with
  | zero => exact (dotN_zero n).symm
  | succ m ih =>
    rw [dotN, ih, ← dotN_add]
    rfl
theorem dotN_pick (f : Nat → Int) (n i : Nat) (hi : i < n) : dotN (fun j => if i = j then f j else 0) n = f i := by
  induction n with
  | zero => omega
  | succ n ih =>
    rw [dotN]
    by_cases e : i = n
    · subst e
      rw [if_pos rfl, dotN_congr (g := fun _ => 0) fun j hj => if_neg (by omega), dotN_zero, Int.zero_add]
    · rw [ih (by omega), if_neg e, Int.add_zero]
theorem mulF_congr {n : Nat} {F G F' G' : Nat → Nat → Int} {i k : Nat} (h : ∀ j, j < n → F i j = F' i j) (g : ∀ j, j < n → G j k = G' j k) : mulF n F G i k = mulF n F' G' i k :=
  dotN_congr fun j hj => by rw [h j hj, g j hj]
theorem mulF_assoc (m n : Nat) (F G H : Nat → Nat → Int) (i k : Nat) : mulF n (mulF m F G) H i k = mulF m F (mulF n G H) i k := by
  show dotN (fun j => dotN (fun l => F i l * G l j) m * H j k) n = dotN (fun l => F i l * dotN (fun j => G l j * H j k) n) m
  rw [dotN_congr fun j _ => (dotN_mul_right (H j k) (fun l => F i l * G l j) m).symm, dotN_swap]
  refine dotN_congr fun l _ => ?_
  rw [← dotN_mul]
  exact dotN_congr fun j _ => Int.mul_assoc ..
def oneF (i k : Nat) : Int := if i = k then 1 else 0
theorem mulF_one_left (n : Nat) (F : Nat → Nat → Int) (i k : Nat) (hi : i < n) : mulF n oneF F i k = F i k := by
  show dotN (fun j => (if i = j then 1 else 0) * F j k) n = _
  rw [dotN_congr (g := fun j => if i = j then F j k else 0) fun j _ => ?_, dotN_pick _ n i hi]
  split
  · exact Int.one_mul _
  · exact Int.zero_mul _
theorem mulF_one_right (n : Nat) (F : Nat → Nat → Int) (i k : Nat) (hk : k < n) : mulF n F oneF i k = F i k := by
  show dotN (fun j => F i j * (if j = k then 1 else 0)) n = _
  rw [dotN_congr (g := fun j => if k = j then F i j else 0) fun j _ => ?_, dotN_pick (fun j => F i j) n k hk]
  by_cases e : j = k
  · rw [if_pos e, if_pos e.symm]; exact Int.mul_one _
  · rw [if_neg e, if_neg (fun h => e h.symm)]; exact Int.mul_zero _
theorem mulF_add_left (n : Nat) (F G H : Nat → Nat → Int) (i k : Nat) : mulF n (fun i k => F i k + G i k) H i k = mulF n F H i k + mulF n G H i k := by
  show dotN _ n = dotN _ n + dotN _ n
  rw [← dotN_add]
  exact dotN_congr fun j _ => Int.add_mul ..
theorem mulF_tr (n : Nat) (F G : Nat → Nat → Int) (i k : Nat) : mulF n (fun i k => G k i) (fun i k => F k i) i k = mulF n F G k i :=
  dotN_congr fun j _ => Int.mul_comm ..
/-- Powers, one factor at a time. -/
def powF (n : Nat) (A : Nat → Nat → Int) : Nat → Nat → Nat → Int
  | 0 => oneF
  | k + 1 => mulF n (powF n A k) A
theorem powF_add (n : Nat) (A : Nat → Nat → Int) (a b : Nat) (i k : Nat) (hk : k < n) : mulF n (powF n A a) (powF n A b) i k = powF n A (a + b) i k := by
  induction b generalizing i k with
  | zero => exact mulF_one_right n _ i k hk
  | succ b ih =>
    show mulF n (powF n A a) (mulF n (powF n A b) A) i k = mulF n (powF n A (a + b)) A i k
    rw [← mulF_assoc]
    exact mulF_congr (fun j hj => ih i j hj) fun _ _ => rfl
theorem powF_one (n : Nat) (A : Nat → Nat → Int) (i k : Nat) (hi : i < n) : powF n A 1 i k = A i k := mulF_one_left n A i k hi
theorem powF_comm (n : Nat) (A : Nat → Nat → Int) (k i j : Nat) (hi : i < n) (hj : j < n) : mulF n A (powF n A k) i j = powF n A (k + 1) i j := by
  rw [Nat.add_comm, ← powF_add n A 1 k i j hj]
  exact (mulF_congr (fun l _ => powF_one n A i l hi) fun _ _ => rfl).symm
end Go.Proofs.Ytlaoijfphkhchaa
