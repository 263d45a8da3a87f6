/- Closed walks of a graph as words of edges: how many no smaller turn keeps; where there are long walks. -/
import Derived.Test.YtlaoijfphkhchaaTrl
namespace Go.Proofs.Ytlaoijfphkhchaa
/-- A sum over all words of d letters. -/
def sumW (m : Nat) : Nat → (List Nat → Int) → Int
  | 0, f => f []
  | d + 1, f => dotN (fun x => sumW m d (fun w => f (x :: w))) m
theorem sumW_congr (m d : Nat) : ∀ {f g : List Nat → Int}, (∀ w : List Nat, w.length = d → (∀ x ∈ w, x < m) → f w = g w) → sumW m d f = sumW m d g := by
  induction d with
  | zero => intro f g h; exact h [] rfl (fun x hx => by cases hx)
  | succ d ih =>
    intro f g h
    refine dotN_congr fun x hx => ih fun w hw hm => h (x :: w) (by rw [List.length_cons, hw]) fun y hy => ?_
    rcases List.mem_cons.1 hy with rfl | hy
    · exact hx
    · exact hm y hy
theorem sumW_zero (m d : Nat) : sumW m d (fun _ => 0) = 0 := by
  induction d with
  | zero => rfl
  | succ d ih =>
    rw [sumW, dotN_congr (g := fun _ => 0) fun x _ => ih, dotN_zero]
theorem sumW_add (m d : Nat) : ∀ f g : List Nat → Int, sumW m d (fun w => f w + g w) = sumW m d f + sumW m d g := by
  induction d with
  | zero => intro f g; rfl
  | succ d ih =>
    intro f g
    rw [sumW, sumW, sumW, ← dotN_add]
    exact dotN_congr fun x _ => ih _ _
theorem sumW_mul (m d : Nat) (c : Int) : ∀ f : List Nat → Int, sumW m d (fun w => c * f w) = c * sumW m d f := by
  induction d with
  | zero => intro f; rfl
  | succ d ih =>
    intro f
    rw [sumW, sumW, ← dotN_mul]
    exact dotN_congr fun x _ => ih _
theorem sumW_dot (m d n : Nat) (f : Nat → List Nat → Int) : sumW m d (fun w => dotN (fun i => f i w) n) = dotN (fun i => sumW m d (f i)) n := by
  induction n with
  | zero => exact sumW_zero m d
  | succ n ih =>
    rw [dotN, ← ih, ← sumW_add]
    rfl
theorem sumW_nonneg (m d : Nat) : ∀ {f : List Nat → Int}, (∀ w, 0 ≤ f w) → 0 ≤ sumW m d f := by
  have hd : ∀ (n : Nat) (g : Nat → Int), (∀ i, 0 ≤ g i) → 0 ≤ dotN g n := by
    intro n g h
    induction n with
    | zero => exact Int.le_refl _
    | succ n ih => rw [dotN]; have := h n; omega
  induction d with
  | zero => intro f h; exact h []
  | succ d ih => intro f h; exact hd m _ fun x => ih fun w => h (x :: w)
theorem sumW_append (m a b : Nat) : ∀ f : List Nat → Int, sumW m (a + b) f = sumW m a (fun u => sumW m b (fun v => f (u ++ v))) := by
  induction a with
  | zero => intro f; rw [Nat.zero_add]; rfl
  | succ a ih =>
    intro f
    rw [Nat.add_right_comm, sumW, sumW]
    exact dotN_congr fun x _ => ih _
theorem sumW_pick (m : Nat) : ∀ (b : Nat) (v0 : List Nat) (g : List Nat → Int), v0.length = b → (∀ x ∈ v0, x < m) → sumW m b (fun v => if v = v0 then g v else 0) = g v0 := by
  intro b
  induction b with
  | zero =>
    intro v0 g hl _
    have : v0 = [] := List.length_eq_zero_iff.1 hl
    subst this
    rfl
  | succ b ih =>
    intro v0 g hl hm
    match v0, hl, hm with
    | y :: v, hl, hm =>
      rw [sumW, dotN_congr (g := fun x => if y = x then g (x :: v) else 0) fun x _ => ?_, dotN_pick (fun x => g (x :: v)) m y (hm y (by simp))]
      by_cases e : y = x
      · subst e
        rw [if_pos rfl, ← ih v (fun w => g (y :: w)) (by simpa using hl) fun x hx => hm x (by simp [hx])]
        exact sumW_congr m b fun w _ _ => by simp
      · rw [if_neg e]
        refine (sumW_congr m b fun w _ _ => ?_).trans (sumW_zero m b)
        rw [if_neg]
        intro h
        injection h with h1 _
        exact e h1.symm
/-- A word turned by one letter, and by some. -/
def rot : List Nat → List Nat
  | [] => []
  | x :: w => w ++ [x]
def rotN : Nat → List Nat → List Nat
  | 0, w => w
  | j + 1, w => rotN j (rot w)
theorem rot_len (w : List Nat) : (rot w).length = w.length := by cases w <;> simp [rot]
theorem rotN_len (j : Nat) : ∀ w : List Nat, (rotN j w).length = w.length := by
  induction j with
  | zero => intro w; rfl
  | succ j ih => intro w; rw [rotN, ih, rot_len]
theorem rotN_add (i j : Nat) : ∀ w : List Nat, rotN (i + j) w = rotN i (rotN j w) := by
  induction j with
  | zero => intro w; rfl
  | succ j ih => intro w; rw [← Nat.add_assoc, rotN, ih]; rfl
theorem rotN_comm (i j : Nat) (w : List Nat) : rotN i (rotN j w) = rotN j (rotN i w) := by rw [← rotN_add, Nat.add_comm, rotN_add]
theorem rotN_app (u : List Nat) : ∀ v : List Nat, rotN u.length (u ++ v) = v ++ u := by
  induction u with
  | nil => intro v; simp [rotN]
  | cons x u ih =>
    intro v
    show rotN u.length (rot (x :: (u ++ v))) = _
    show rotN u.length ((u ++ v) ++ [x]) = _
    rw [List.append_assoc, ih]
    simp
theorem rotN_full (w : List Nat) : rotN w.length w = w := by
  have := rotN_app w []
  simpa using this
theorem rotN_mul (e q : Nat) (w : List Nat) (h : rotN e w = w) : rotN (e * q) w = w := by
  induction q with
  | zero => rfl
  | succ q ih => rw [Nat.mul_succ, rotN_add, h, ih]
theorem rotN_mod {d : Nat} {w : List Nat} (hw : w.length = d) (j : Nat) : rotN (j % d) w = rotN j w := by
  have h1 : rotN (d * (j / d)) w = w := rotN_mul d (j / d) w (by rw [← hw]; exact rotN_full w)
  conv => rhs; rw [← Nat.mod_add_div j d, rotN_add, h1]
theorem rotN_inj {j : Nat} {u v : List Nat} (h : rotN j u = rotN j v) : u = v := by
  have hl : u.length = v.length := by rw [← rotN_len j u, h, rotN_len]
  by_cases h0 : u.length = 0
  · rw [List.length_eq_zero_iff.1 h0, List.length_eq_zero_iff.1 (by omega : v.length = 0)]
  · have h1 : rotN (u.length - j % u.length) (rotN (j % u.length) u) = u := by
      have h2 := Nat.mod_lt j (by omega : u.length > 0)
      rw [← rotN_add, Nat.sub_add_cancel (by omega), rotN_full]
    have h3 : rotN (u.length - j % u.length) (rotN (j % u.length) v) = v := by
      have h2 := Nat.mod_lt j (by omega : u.length > 0)
      rw [← rotN_add, Nat.sub_add_cancel (by omega), hl, rotN_full]
    rw [← h1, ← h3, rotN_mod rfl, rotN_mod hl.symm, h]
theorem sumW_snoc (m d : Nat) : ∀ f : List Nat → Int, sumW m (d + 1) f = sumW m d (fun w => dotN (fun x => f (w ++ [x])) m) := by
  intro f
  rw [sumW_append m d 1 f]
  rfl
theorem sumW_rot (m d : Nat) (f : List Nat → Int) : sumW m d (fun w => f (rot w)) = sumW m d f := by
  cases d with
  | zero => rfl
  | succ d =>
    rw [sumW_snoc m d f, sumW_dot]
    rfl
theorem sumW_rotN (m d j : Nat) (f : List Nat → Int) : sumW m d (fun w => f (rotN j w)) = sumW m d f := by
  induction j generalizing f with
  | zero => rfl
  | succ j ih =>
    show sumW m d (fun w => f (rotN j (rot w))) = _
    rw [sumW_rot m d (fun w => f (rotN j w)), ih]
/-- A number for each word. -/
def codeW : List Nat → Nat
  | [] => 0
  | x :: w => 2 ^ x * (2 * codeW w + 1)
theorem pow_odd {x y a b : Nat} (h : 2 ^ x * (2 * a + 1) = 2 ^ y * (2 * b + 1)) : x = y ∧ a = b := by
  induction x generalizing y with
  | zero =>
    cases y with
    | zero => omega
    | succ y => rw [Nat.pow_succ, Nat.mul_comm (2 ^ y) 2, Nat.mul_assoc] at h; omega
  | succ x ih =>
    cases y with
    | zero => rw [Nat.pow_succ, Nat.mul_comm (2 ^ x) 2, Nat.mul_assoc] at h; omega
    | succ y =>
      rw [Nat.pow_succ, Nat.pow_succ, Nat.mul_comm (2 ^ x) 2, Nat.mul_comm (2 ^ y) 2, Nat.mul_assoc, Nat.mul_assoc] at h
      have := ih (y := y) (by omega)
      omega
theorem codeW_inj : ∀ {u v : List Nat}, codeW u = codeW v → u = v
  | [], [], _ => rfl
  | [], y :: v, h => by
    have : 0 < 2 ^ y * (2 * codeW v + 1) := Nat.mul_pos (Nat.pos_of_ne_zero (by simp)) (by omega)
    simp only [codeW] at h; omega
  | x :: u, [], h => by
    have : 0 < 2 ^ x * (2 * codeW u + 1) := Nat.mul_pos (Nat.pos_of_ne_zero (by simp)) (by omega)
    simp only [codeW] at h; omega
  | x :: u, y :: v, h => by
    obtain ⟨h1, h2⟩ := pow_odd h
    rw [h1, codeW_inj h2]
/-- One place of several has the least number. -/
def leastP (c : Nat → Nat) (d j : Nat) : Prop := ∀ i, i < d → i ≠ j → c j < c i
theorem least_one (c : Nat → Nat) (d : Nat) (hd : 0 < d) (hc : ∀ i j, i < d → j < d → i ≠ j → c i ≠ c j) : ∃ j, j < d ∧ leastP c d j := by
  induction d with
  | zero => omega
  | succ d ih =>
    by_cases h0 : d = 0
    · subst h0
      exact ⟨0, by omega, fun i hi hne => by omega⟩
    · obtain ⟨j, hj, hl⟩ := ih (by omega) fun i j hi hj => hc i j (by omega) (by omega)
      by_cases h : c d < c j
      · refine ⟨d, by omega, fun i hi hne => ?_⟩
        by_cases e : i = j
        · rw [e]; exact h
        · exact Nat.lt_trans h (hl i (by omega) e)
      · have h2 := hc d j (by omega) (by omega) (by omega)
        refine ⟨j, by omega, fun i hi hne => ?_⟩
        by_cases e : i = d
        · rw [e]; omega
        · exact hl i (by omega) hne
open Classical in
theorem least_sum (c : Nat → Nat) (d : Nat) (hd : 0 < d) (hc : ∀ i j, i < d → j < d → i ≠ j → c i ≠ c j) : dotN (fun j => if leastP c d j then 1 else 0) d = 1 := by
  obtain ⟨j, hj, hl⟩ := least_one c d hd hc
  rw [dotN_congr (g := fun i => if j = i then 1 else 0) fun i hi => ?_, dotN_pick (fun _ => 1) d j hj]
  by_cases e : j = i
  · subst e
    rw [if_pos hl, if_pos rfl]
  · rw [if_neg e, if_neg]
    intro h
    have h1 := h j hj e
    have h2 := hl i hi (fun h => e h.symm)
    omega
/-- No smaller turn keeps the word. -/
def aper (w : List Nat) : Prop := ∀ j, 0 < j → j < w.length → rotN j w ≠ w
theorem aper_codes {w : List Nat} (h : aper w) {i j : Nat} (hi : i < w.length) (hj : j < w.length) (hne : i ≠ j) : codeW (rotN i w) ≠ codeW (rotN j w) := by
  intro he
  have h1 := codeW_inj he
  by_cases hlt : i < j
  · have h2 : rotN i w = rotN i (rotN (j - i) w) := by
      rw [← rotN_add, show i + (j - i) = j from by omega]; exact h1
    exact h (j - i) (by omega) (by omega) (rotN_inj h2).symm
  · have h2 : rotN j w = rotN j (rotN (i - j) w) := by
      rw [← rotN_add, show j + (i - j) = i from by omega]; exact h1.symm
    exact h (i - j) (by omega) (by omega) (rotN_inj h2).symm
theorem aper_rot {w : List Nat} (j : Nat) (h : aper w) : aper (rotN j w) := fun i h0 hi he => by
  rw [rotN_len] at hi
  rw [rotN_comm] at he
  exact h i h0 hi (rotN_inj he)
open Classical in
/-- The words that no smaller turn keeps come in classes of d words. -/
theorem aper_dvd (m d : Nat) (hd : 0 < d) (Q : List Nat → Prop) (hQ : ∀ w : List Nat, w.length = d → (Q (rot w) ↔ Q w)) :
    ∃ q : Int, 0 ≤ q ∧ sumW m d (fun w => if Q w ∧ aper w then 1 else 0) = (d : Int) * q := by
  have hQN : ∀ j (w : List Nat), w.length = d → (Q (rotN j w) ↔ Q w) := by
    intro j
    induction j with
    | zero => intro w _; exact Iff.rfl
    | succ j ih => intro w hw; exact (ih (rot w) (by rw [rot_len, hw])).trans (hQ w hw)
  have hap : ∀ j (w : List Nat), w.length = d → (aper (rotN j w) ↔ aper w) := fun j w hw => by
    constructor
    · intro h
      have h1 := aper_rot (d - j % d) h
      have h2 : rotN (d - j % d) (rotN j w) = w := by
        have h3 := Nat.mod_lt j hd
        rw [← rotN_mod hw j, ← rotN_add, Nat.sub_add_cancel (by omega), ← hw, rotN_full]
      rwa [h2] at h1
    · exact aper_rot j
  refine ⟨sumW m d (fun w => if (Q w ∧ aper w) ∧ leastP (fun i => codeW (rotN i w)) d 0 then 1 else 0), sumW_nonneg m d fun w => by split <;> decide, ?_⟩
  have h1 : sumW m d (fun w => if Q w ∧ aper w then 1 else 0) = sumW m d (fun w => dotN (fun j => if (Q w ∧ aper w) ∧ leastP (fun i => codeW (rotN i w)) d j then 1 else 0) d) := sumW_congr m d fun w hw _ => by
    by_cases h : Q w ∧ aper w
    · rw [if_pos h]
      refine (least_sum (fun i => codeW (rotN i w)) d hd fun i j hi hj hne => aper_codes h.2 (by omega) (by omega) hne).symm.trans (dotN_congr fun j _ => ?_)
      simp [h]
    · rw [if_neg h, dotN_congr (g := fun _ => 0) fun j _ => if_neg fun hh => h hh.1, dotN_zero]
  rw [h1, sumW_dot, dotN_congr (g := fun _ => sumW m d (fun w => if (Q w ∧ aper w) ∧ leastP (fun i => codeW (rotN i w)) d 0 then 1 else 0)) fun j hj => ?_]
  · clear h1
    generalize sumW m d (fun w => if (Q w ∧ aper w) ∧ leastP (fun i => codeW (rotN i w)) d 0 then 1 else 0) = c
    generalize d = n
    induction n with
    | zero => simp [dotN]
    | succ n ih => rw [dotN, ih]; push_cast; rw [Int.add_mul, Int.one_mul]
  · rw [← sumW_rotN m d j (fun w => if (Q w ∧ aper w) ∧ leastP (fun i => codeW (rotN i w)) d 0 then 1 else 0)]
    refine sumW_congr m d fun w hw _ => ?_
    have h2 : leastP (fun i => codeW (rotN i w)) d j ↔ leastP (fun i => codeW (rotN i (rotN j w))) d 0 := by
      constructor
      · intro h i hi hne
        show codeW (rotN 0 (rotN j w)) < codeW (rotN i (rotN j w))
        have h3 := h ((i + j) % d) (Nat.mod_lt _ hd) (by
          intro he
          have : (i + j) % d = j % d := by rw [he, Nat.mod_eq_of_lt hj]
          by_cases h4 : i + j < d
          · rw [Nat.mod_eq_of_lt h4] at he; omega
          · rw [Nat.mod_eq_sub_mod (by omega), Nat.mod_eq_of_lt (by omega)] at he; omega)
        dsimp only at h3
        rw [rotN_mod hw, rotN_add] at h3
        exact h3
      · intro h i hi hne
        show codeW (rotN j w) < codeW (rotN i w)
        have h3 := h ((i + (d - j)) % d) (Nat.mod_lt _ hd) (by
          intro he
          by_cases h4 : i + (d - j) < d
          · rw [Nat.mod_eq_of_lt h4] at he; omega
          · rw [Nat.mod_eq_sub_mod (by omega), Nat.mod_eq_of_lt (by omega)] at he; omega)
        have h5 : rotN ((i + (d - j)) % d) (rotN j w) = rotN i w := by
          rw [rotN_mod (by rw [rotN_len, hw]), ← rotN_add, Nat.add_assoc, Nat.sub_add_cancel (by omega), rotN_add, ← hw, rotN_full]
        dsimp only at h3
        rw [h5] at h3
        exact h3
    by_cases h : Q w ∧ aper w
    · have h' : Q (rotN j w) ∧ aper (rotN j w) := ⟨(hQN j w hw).2 h.1, (hap j w hw).2 h.2⟩
      simp only [h, h', h2, true_and]
    · have h' : ¬ (Q (rotN j w) ∧ aper (rotN j w)) := fun hh => h ⟨(hQN j w hw).1 hh.1, (hap j w hw).1 hh.2⟩
      rw [if_neg fun hh => h hh.1, if_neg fun hh => h' hh.1]
/-- A word some times in a row. -/
def pwW (u : List Nat) : Nat → List Nat
  | 0 => []
  | k + 1 => u ++ pwW u k
theorem pwW_len (u : List Nat) (k : Nat) : (pwW u k).length = u.length * k := by
  induction k with
  | zero => rfl
  | succ k ih => rw [pwW, List.length_append, ih, Nat.mul_succ]; omega
theorem pwW_comm (u : List Nat) (k : Nat) : u ++ pwW u k = pwW u k ++ u := by
  induction k with
  | zero => simp [pwW]
  | succ k ih => rw [pwW, List.append_assoc, ← ih]
theorem pwW_mem {u : List Nat} {k x : Nat} (h : x ∈ pwW u k) : x ∈ u := by
  induction k with
  | zero => cases h
  | succ k ih =>
    rcases List.mem_append.1 h with h | h
    · exact h
    · exact ih h
theorem pw_of_comm {u : List Nat} : ∀ (k : Nat) (v : List Nat), v.length = u.length * k → v ++ u = u ++ v → v = pwW u k := by
  intro k
  induction k with
  | zero => intro v hl _; exact List.length_eq_zero_iff.1 (by simpa using hl)
  | succ k ih =>
    intro v hl h
    obtain ⟨v', rfl⟩ : ∃ v', v = u ++ v' := by
      have h1 : (v ++ u).take u.length = (u ++ v).take u.length := by rw [h]
      rw [List.take_append_of_le_length (by rw [hl, Nat.mul_succ]; omega), List.take_left] at h1
      exact ⟨v.drop u.length, by conv => lhs; rw [← List.take_append_drop u.length v, h1]⟩
    rw [pwW]
    congr 1
    refine ih v' (by rw [List.length_append, Nat.mul_succ] at hl; omega) ?_
    rw [List.append_assoc] at h
    exact List.append_cancel_left h
open Classical in
/-- The words that a turn by e keeps are the powers of words of e letters. -/
theorem sum_period (m e k : Nat) (F : List Nat → Int) : sumW m (e * (k + 1)) (fun w => if rotN e w = w then F w else 0) = sumW m e (fun u => F (pwW u (k + 1))) := by
  rw [Nat.mul_succ, Nat.add_comm, sumW_append]
  refine sumW_congr m e fun u hu hm => ?_
  have hl : (pwW u k).length = e * k := by rw [pwW_len, hu]
  refine (sumW_congr m (e * k) fun v hv _ => ?_).trans (sumW_pick m (e * k) (pwW u k) (fun v => F (u ++ v)) hl fun x hx => hm x (pwW_mem hx))
  have h1 : rotN e (u ++ v) = u ++ v ↔ v = pwW u k := by
    rw [← hu, rotN_app]
    constructor
    · intro h
      exact pw_of_comm k v (by rw [hv, hu]) h
    · rintro rfl
      exact (pwW_comm u k).symm
  by_cases h : v = pwW u k
  · rw [if_pos (h1.2 h), if_pos h]
  · rw [if_neg (fun hh => h (h1.1 hh)), if_neg h]
theorem rot_pw (x : Nat) (v : List Nat) (k : Nat) : rot (pwW (x :: v) (k + 1)) = pwW (v ++ [x]) (k + 1) := by
  have h : ∀ k, pwW (x :: v) k ++ [x] = [x] ++ pwW (v ++ [x]) k := by
    intro k
    induction k with
    | zero => rfl
    | succ k ih => rw [pwW, pwW, List.append_assoc, ih]; simp
  show (v ++ pwW (x :: v) k) ++ [x] = _
  rw [List.append_assoc, h, pwW, List.append_assoc]
theorem rotN_pw {u : List Nat} (hu : 0 < u.length) (j k : Nat) : rotN j (pwW u (k + 1)) = pwW (rotN j u) (k + 1) := by
  induction j generalizing u with
  | zero => rfl
  | succ j ih =>
    match u, hu with
    | x :: v, _ =>
      show rotN j (rot (pwW (x :: v) (k + 1))) = pwW (rotN j (rot (x :: v))) (k + 1)
      rw [rot_pw]
      exact ih (by simp)
theorem pwW_inj {u v : List Nat} {k : Nat} (hl : u.length = v.length) (h : pwW u (k + 1) = pwW v (k + 1)) : u = v := by
  rw [pwW, pwW] at h
  exact (List.append_inj h hl).1
/-- The least turn that keeps a word. -/
def lper (e : Nat) (w : List Nat) : Prop := rotN e w = w ∧ ∀ j, 0 < j → j < e → rotN j w ≠ w
theorem lper_pw {u : List Nat} (hu : 0 < u.length) (k : Nat) : lper u.length (pwW u (k + 1)) ↔ aper u := by
  constructor
  · intro h j h0 hj he
    exact h.2 j h0 hj (by rw [rotN_pw hu, he])
  · intro h
    refine ⟨by rw [rotN_pw hu, rotN_full], fun j h0 hj he => ?_⟩
    rw [rotN_pw hu] at he
    exact h j h0 hj (pwW_inj (rotN_len j u) he)
theorem lper_dvd {w : List Nat} {e : Nat} (he : 0 < e) (h : lper e w) : e ∣ w.length := by
  have h1 : rotN (w.length % e) w = w := by
    have h2 : rotN (e * (w.length / e)) w = w := rotN_mul e _ w h.1
    have h3 : rotN (w.length % e + e * (w.length / e)) w = w := by rw [Nat.mod_add_div]; exact rotN_full w
    rwa [rotN_add, h2] at h3
  by_cases h0 : w.length % e = 0
  · exact Nat.dvd_of_mod_eq_zero h0
  · exact absurd h1 (h.2 _ (by omega) (Nat.mod_lt _ he))
theorem lper_ex {w : List Nat} (hw : 0 < w.length) : ∃ e, 0 < e ∧ e ≤ w.length ∧ lper e w := by
  have : ∀ n, 0 < n → rotN n w = w → ∃ e, 0 < e ∧ e ≤ n ∧ lper e w := by
    intro n
    induction n using Nat.strongRecOn with
    | _ n ih =>
      intro h0 hn
      by_cases h : ∃ j, 0 < j ∧ j < n ∧ rotN j w = w
      · obtain ⟨j, h1, h2, h3⟩ := h
        obtain ⟨e, a, b, c⟩ := ih j h2 h1 h3
        exact ⟨e, a, by omega, c⟩
      · exact ⟨n, h0, Nat.le_refl _, hn, fun j h1 h2 h3 => h ⟨j, h1, h2, h3⟩⟩
  exact this w.length hw (rotN_full w)
theorem lper_uniq {w : List Nat} {e f : Nat} (he : 0 < e) (hf : 0 < f) (h : lper e w) (g : lper f w) : e = f := by
  by_cases h1 : e < f
  · exact absurd h.1 (g.2 e he h1)
  · by_cases h2 : f < e
    · exact absurd g.1 (h.2 f hf h2)
    · omega
open Classical in
theorem lper_sum {w : List Nat} {d : Nat} (hw : w.length = d) (hd : 0 < d) : dotN (fun i => if lper (i + 1) w then 1 else 0) d = 1 := by
  obtain ⟨e, h0, h1, h2⟩ := lper_ex (w := w) (by omega)
  rw [dotN_congr (g := fun i => if e - 1 = i then 1 else 0) fun i hi => ?_, dotN_pick (fun _ => 1) d (e - 1) (by omega)]
  by_cases h : e - 1 = i
  · rw [if_pos h, if_pos]
    rwa [show i + 1 = e from by omega]
  · rw [if_neg h, if_neg]
    intro hl
    exact h (by have := lper_uniq h0 (by omega) h2 hl; omega)
open Classical in
/-- The sum over all words of d letters, by their least turns. -/
theorem sum_classes (m d : Nat) (hd : 0 < d) (Q : List Nat → Prop) (hQ : ∀ (u : List Nat) (k : Nat), 0 < u.length → (Q (pwW u (k + 1)) ↔ Q u)) :
    sumW m d (fun w => if Q w then 1 else 0) = dotN (fun i => if d % (i + 1) = 0 then sumW m (i + 1) (fun u => if Q u ∧ aper u then 1 else 0) else 0) d := by
  have h1 : sumW m d (fun w => if Q w then 1 else 0) = sumW m d (fun w => dotN (fun i => if Q w ∧ lper (i + 1) w then 1 else 0) d) := sumW_congr m d fun w hw _ => by
    by_cases h : Q w
    · rw [if_pos h]
      refine (lper_sum hw hd).symm.trans (dotN_congr fun i _ => ?_)
      simp [h]
    · rw [if_neg h, dotN_congr (g := fun _ => 0) fun i _ => if_neg fun hh => h hh.1, dotN_zero]
  rw [h1, sumW_dot]
  refine dotN_congr fun i hi => ?_
  by_cases hdv : d % (i + 1) = 0
  · rw [if_pos hdv]
    obtain ⟨k, hk⟩ : ∃ k, d = (i + 1) * (k + 1) := by
      obtain ⟨c, hc⟩ := Nat.dvd_of_mod_eq_zero hdv
      cases c with
      | zero => omega
      | succ k => exact ⟨k, hc⟩
    rw [hk]
    have h2 := sum_period m (i + 1) k (fun w => if Q w ∧ lper (i + 1) w then 1 else 0)
    rw [show sumW m ((i + 1) * (k + 1)) (fun w => if Q w ∧ lper (i + 1) w then (1 : Int) else 0) = sumW m ((i + 1) * (k + 1)) (fun w => if rotN (i + 1) w = w then (if Q w ∧ lper (i + 1) w then 1 else 0) else 0) from sumW_congr m _ fun w _ _ => ?_, h2]
    · refine sumW_congr m (i + 1) fun u hu _ => ?_
      have h3 := lper_pw (u := u) (by omega) k
      rw [hu] at h3
      have h4 := hQ u k (by omega)
      simp only [h3, h4]
    · by_cases h5 : rotN (i + 1) w = w
      · rw [if_pos h5]
      · rw [if_neg h5, if_neg fun hh => h5 hh.2.1]
  · rw [if_neg hdv]
    refine (sumW_congr m d fun w hw _ => ?_).trans (sumW_zero m d)
    rw [if_neg]
    intro hh
    have := lper_dvd (by omega) hh.2
    rw [hw] at this
    exact hdv (Nat.mod_eq_zero_of_dvd this)
/-- A walk from s along the edges of a word; where it ends. -/
def wkW (fr te : Nat → Nat) : Nat → List Nat → Prop
  | _, [] => True
  | s, e :: w => fr e = s ∧ wkW fr te (te e) w
def enW (te : Nat → Nat) : Nat → List Nat → Nat
  | s, [] => s
  | _, e :: w => enW te (te e) w
theorem wk_append (fr te : Nat → Nat) : ∀ (u : List Nat) (s : Nat) (v : List Nat), wkW fr te s (u ++ v) ↔ wkW fr te s u ∧ wkW fr te (enW te s u) v
  | [], s, v => by simp [wkW, enW]
  | e :: u, s, v => by
    show fr e = s ∧ wkW fr te (te e) (u ++ v) ↔ (fr e = s ∧ wkW fr te (te e) u) ∧ _
    rw [wk_append fr te u (te e) v, and_assoc]
    rfl
theorem en_append (te : Nat → Nat) : ∀ (u : List Nat) (s : Nat) (v : List Nat), enW te s (u ++ v) = enW te (enW te s u) v
  | [], _, _ => rfl
  | e :: u, _, v => en_append te u (te e) v
/-- A closed walk. -/
def clW (fr te : Nat → Nat) : List Nat → Prop
  | [] => False
  | e :: w => wkW fr te (te e) w ∧ enW te (te e) w = fr e
theorem cl_rot (fr te : Nat → Nat) (w : List Nat) : clW fr te (rot w) ↔ clW fr te w := by
  match w with
  | [] => exact Iff.rfl
  | [x] => exact Iff.rfl
  | x :: y :: v =>
    show wkW fr te (te y) (v ++ [x]) ∧ enW te (te y) (v ++ [x]) = fr y ↔ (fr y = te x ∧ wkW fr te (te y) v) ∧ enW te (te y) v = fr x
    rw [wk_append, en_append]
    show (_ ∧ fr x = _ ∧ True) ∧ te x = fr y ↔ _
    constructor
    · rintro ⟨⟨h1, h2, _⟩, h3⟩
      exact ⟨⟨h3.symm, h1⟩, h2.symm⟩
    · rintro ⟨⟨h1, h2⟩, h3⟩
      exact ⟨⟨h2, h3.symm, trivial⟩, h1.symm⟩
theorem cl_head {fr te : Nat → Nat} {x : Nat} {v : List Nat} : clW fr te (x :: v) ↔ wkW fr te (fr x) (x :: v) ∧ enW te (fr x) (x :: v) = fr x := by
  show _ ∧ _ ↔ (fr x = fr x ∧ _) ∧ _
  constructor
  · rintro ⟨h1, h2⟩; exact ⟨⟨rfl, h1⟩, h2⟩
  · rintro ⟨⟨_, h1⟩, h2⟩; exact ⟨h1, h2⟩
theorem cl_pows {fr te : Nat → Nat} {x : Nat} {v : List Nat} (h : clW fr te (x :: v)) (k : Nat) : wkW fr te (fr x) (pwW (x :: v) k) ∧ enW te (fr x) (pwW (x :: v) k) = fr x := by
  induction k with
  | zero => exact ⟨trivial, rfl⟩
  | succ k ih =>
    obtain ⟨h1, h2⟩ := cl_head.1 h
    rw [pwW, wk_append, en_append, h2]
    exact ⟨⟨h1, ih.1⟩, ih.2⟩
theorem cl_pw (fr te : Nat → Nat) (u : List Nat) (k : Nat) (hu : 0 < u.length) : clW fr te (pwW u (k + 1)) ↔ clW fr te u := by
  match u, hu with
  | x :: v, _ =>
    constructor
    · intro h
      rw [cl_head (x := x) (v := v)]
      have h1 : wkW fr te (fr x) (pwW (x :: v) (k + 1)) ∧ enW te (fr x) (pwW (x :: v) (k + 1)) = fr x := (cl_head (x := x) (v := v ++ pwW (x :: v) k)).1 h
      rw [pwW, wk_append, en_append] at h1
      obtain ⟨⟨h2, h3⟩, h4⟩ := h1
      refine ⟨h2, ?_⟩
      cases k with
      | zero => exact h4
      | succ k => exact h3.1.symm
    · intro h
      exact (cl_head (x := x) (v := v ++ pwW (x :: v) k)).2 (cl_pows h (k + 1))
open Classical in
theorem pow_words {N n : Nat} {A : Nat → Nat → Int} {fr te : Nat → Nat} (hA : ∀ s t, A s t = dotN (fun e => if fr e = s ∧ te e = t then 1 else 0) n) (hto : ∀ e, e < n → te e < N) :
    ∀ d s t, s < N → t < N → powF N A d s t = sumW n d (fun w => if wkW fr te s w ∧ enW te s w = t then 1 else 0) := by
  intro d
  induction d with
  | zero =>
    intro s t _ _
    simp only [powF, oneF, sumW, wkW, enW, true_and]
  | succ d ih =>
    intro s t hs ht
    rw [← powF_comm N A d s t hs ht]
    unfold mulF
    rw [dotN_congr (g := fun j => dotN (fun e => if fr e = s ∧ te e = j then powF N A d j t else 0) n) fun j _ => ?_, dotN_swap, sumW]
    · refine dotN_congr fun e he => ?_
      by_cases h : fr e = s
      · rw [dotN_congr (g := fun j => if te e = j then powF N A d j t else 0) fun j _ => by simp [h], dotN_pick (fun j => powF N A d j t) N (te e) (hto e he), ih _ _ (hto e he) ht]
        exact sumW_congr n d fun w _ _ => by simp [wkW, enW, h]
      · rw [dotN_congr (g := fun _ => 0) fun j _ => if_neg fun hh => h hh.1, dotN_zero]
        exact ((sumW_congr n d fun w _ _ => by simp [wkW, h]).trans (sumW_zero n d)).symm
    · rw [hA, ← dotN_mul_right]
      exact dotN_congr fun e _ => by
        by_cases h : fr e = s ∧ te e = j
        · rw [if_pos h, if_pos h, Int.one_mul]
        · rw [if_neg h, if_neg h, Int.zero_mul]
open Classical in
/-- The closed walks of d edges, and those that no smaller turn keeps. -/
noncomputable def closedN (fr te : Nat → Nat) (n d : Nat) : Int := sumW n d (fun w => if clW fr te w then 1 else 0)
open Classical in
noncomputable def primN (fr te : Nat → Nat) (n d : Nat) : Int := sumW n d (fun w => if clW fr te w ∧ aper w then 1 else 0)
open Classical in
theorem tr_words {N n : Nat} {A : Nat → Nat → Int} {fr te : Nat → Nat} (hA : ∀ s t, A s t = dotN (fun e => if fr e = s ∧ te e = t then 1 else 0) n) (hto : ∀ e, e < n → te e < N) (hfr : ∀ e, e < n → fr e < N) (d : Nat) (hd : 0 < d) :
    trF N (powF N A d) = closedN fr te n d := by
  unfold trF closedN
  rw [dotN_congr (g := fun s => sumW n d (fun w => if wkW fr te s w ∧ enW te s w = s then 1 else 0)) fun s hs => pow_words hA hto d s s hs hs, ← sumW_dot]
  refine sumW_congr n d fun w hw hm => ?_
  match w, hw with
  | [], h => simp at h; omega
  | x :: v, _ =>
    have hx := hfr x (hm x (by simp))
    rw [dotN_congr (g := fun s => if fr x = s then (if clW fr te (x :: v) then 1 else 0) else 0) fun s _ => ?_, dotN_pick (fun _ => if clW fr te (x :: v) then 1 else 0) N (fr x) hx]
    by_cases h : fr x = s
    · rw [if_pos h]
      have : (wkW fr te s (x :: v) ∧ enW te s (x :: v) = s) ↔ clW fr te (x :: v) := by rw [cl_head, h]
      simp only [this]
    · rw [if_neg h, if_neg fun hh => h hh.1.1]
theorem closed_classes (fr te : Nat → Nat) (n d : Nat) (hd : 0 < d) : closedN fr te n d = dotN (fun i => if d % (i + 1) = 0 then primN fr te n (i + 1) else 0) d :=
  sum_classes n d hd (clW fr te) (cl_pw fr te)
theorem prim_dvd (fr te : Nat → Nat) (n d : Nat) (hd : 0 < d) : ∃ q : Int, 0 ≤ q ∧ primN fr te n d = (d : Int) * q := aper_dvd n d hd (clW fr te) fun w _ => cl_rot fr te w
theorem stp_dot (P Q : Nat → Nat) (f : Nat → Int) (n j : Nat) : stpE P Q f n j = dotN (fun e => if Q e = j then f (P e) else 0) n := by
  induction n with
  | zero => rfl
  | succ n ih => rw [stpE, ih]; rfl
open Classical in
theorem from_words (fr te : Nat → Nat) (n : Nat) : ∀ k s, cntI te fr n (fun _ => 1) k s = sumW n k (fun w => if wkW fr te s w then 1 else 0) := by
  intro k
  induction k with
  | zero => intro s; simp [cntI, sumW, wkW]
  | succ k ih =>
    intro s
    rw [cntI, stp_dot, sumW]
    refine dotN_congr fun e _ => ?_
    by_cases h : fr e = s
    · rw [if_pos h, ih]
      exact sumW_congr n k fun w _ _ => by simp [wkW, h]
    · rw [if_neg h]
      exact ((sumW_congr n k fun w _ _ => by simp [wkW, h]).trans (sumW_zero n k)).symm
theorem dotN_ne {f : Nat → Int} {n : Nat} (h : dotN f n ≠ 0) : ∃ i, i < n ∧ f i ≠ 0 := by
  induction n with
  | zero => exact absurd rfl h
  | succ n ih =>
    by_cases h1 : f n = 0
    · obtain ⟨i, hi, h2⟩ := ih (by intro h2; exact h (by rw [dotN, h2, h1]; rfl))
      exact ⟨i, by omega, h2⟩
    · exact ⟨n, by omega, h1⟩
theorem dotN_nn {f : Nat → Int} {n : Nat} (h : ∀ i, i < n → 0 ≤ f i) : 0 ≤ dotN f n := by
  induction n with
  | zero => exact Int.le_refl _
  | succ n ih => rw [dotN]; have := h n (by omega); have := ih fun i hi => h i (by omega); omega
theorem dotN_ge {f : Nat → Int} {n : Nat} (h : ∀ i, i < n → 0 ≤ f i) {j : Nat} (hj : j < n) : f j ≤ dotN f n := by
  induction n with
  | zero => omega
  | succ n ih =>
    rw [dotN]
    have h0 := h n (by omega)
    have hp := dotN_nn (f := f) (n := n) fun i hi => h i (by omega)
    by_cases e : j = n
    · subst e; omega
    · have := ih (fun i hi => h i (by omega)) (by omega)
      omega
theorem sumW_ne {m d : Nat} : ∀ {f : List Nat → Int}, sumW m d f ≠ 0 → ∃ w : List Nat, w.length = d ∧ (∀ x ∈ w, x < m) ∧ f w ≠ 0 := by
  induction d with
  | zero => intro f h; exact ⟨[], rfl, (fun x hx => by cases hx), h⟩
  | succ d ih =>
    intro f h
    obtain ⟨x, hx, h1⟩ := dotN_ne h
    obtain ⟨w, h2, h3, h4⟩ := ih h1
    refine ⟨x :: w, by rw [List.length_cons, h2], fun y hy => ?_, h4⟩
    rcases List.mem_cons.1 hy with rfl | hy
    · exact hx
    · exact h3 y hy
theorem sumW_ge {m d : Nat} : ∀ {f : List Nat → Int}, (∀ w, 0 ≤ f w) → ∀ w : List Nat, w.length = d → (∀ x ∈ w, x < m) → f w ≤ sumW m d f := by
  induction d with
  | zero => intro f _ w hw _; rw [List.length_eq_zero_iff.1 hw]; exact Int.le_refl _
  | succ d ih =>
    intro f h w hw hm
    match w, hw with
    | x :: v, hw =>
      have h1 := ih (f := fun u => f (x :: u)) (fun u => h _) v (by simpa using hw) fun y hy => hm y (by simp [hy])
      have h2 := (dotN_ge (f := fun y => sumW m d fun u => f (y :: u)) (n := m) (fun i _ => sumW_nonneg m d fun u => h _) (hm x (by simp)))
      exact Int.le_trans h1 h2
theorem wk_lt {fr te : Nat → Nat} {N n : Nat} (hto : ∀ e, e < n → te e < N) : ∀ {w : List Nat} {s : Nat}, s < N → (∀ x ∈ w, x < n) → enW te s w < N
  | [], _, hs, _ => hs
  | e :: w, _, _, hm => wk_lt (fr := fr) hto (w := w) (hto e (hm e (by simp))) fun x hx => hm x (by simp [hx])
theorem pigeon : ∀ (N : Nat) (f : Nat → Nat), (∀ i, i ≤ N → f i < N) → ∃ i j, i < j ∧ j ≤ N ∧ f i = f j := by
  intro N
  induction N with
  | zero => intro f h; exact absurd (h 0 (Nat.le_refl _)) (by omega)
  | succ N ih =>
    intro f h
    by_cases hd : ∃ i, i ≤ N ∧ f i = f (N + 1)
    · obtain ⟨i, hi, he⟩ := hd
      exact ⟨i, N + 1, by omega, Nat.le_refl _, he⟩
    · -- the value of the last place is taken away
      obtain ⟨i, j, h1, h2, h3⟩ := ih (fun i => if f i < f (N + 1) then f i else f i - 1) fun i hi => by
        have h4 := h i (by omega)
        have h5 := h (N + 1) (Nat.le_refl _)
        have h6 : f i ≠ f (N + 1) := fun he => hd ⟨i, hi, he⟩
        split <;> omega
      refine ⟨i, j, h1, by omega, ?_⟩
      have h6 : f i ≠ f (N + 1) := fun he => hd ⟨i, by omega, he⟩
      have h7 : f j ≠ f (N + 1) := fun he => hd ⟨j, by omega, he⟩
      split at h3 <;> split at h3 <;> omega
open Classical in
/-- There are walks with as many edges as states exactly if there is a class of closed ones with at most as many. -/
theorem orbit_exists {fr te : Nat → Nat} {N n : Nat} (hto : ∀ e, e < n → te e < N) (hfr : ∀ e, e < n → fr e < N) :
    (∀ d, 0 < d → d ≤ N → primN fr te n d = 0) ↔ dotN (fun s => cntI te fr n (fun _ => 1) N s) N = 0 := by
  constructor
  · intro h
    apply Classical.byContradiction
    intro hne
    obtain ⟨s, hs, h1⟩ := dotN_ne hne
    rw [from_words] at h1
    obtain ⟨w, hw, hm, h2⟩ := sumW_ne h1
    have hwk : wkW fr te s w := by
      apply Classical.byContradiction
      intro hh
      exact h2 (if_neg hh)
    obtain ⟨i, j, hij, hj, he⟩ := pigeon N (fun i => enW te s (w.take i)) fun i _ => wk_lt (fr := fr) hto hs fun x hx => hm x (List.mem_of_mem_take hx)
    have hb : w.take j = w.take i ++ (w.take j).drop i := by
      have := List.take_append_drop i (w.take j)
      rw [List.take_take, Nat.min_eq_left (by omega)] at this
      exact this.symm
    obtain ⟨b, hbe⟩ : ∃ b, (w.take j).drop i = b := ⟨_, rfl⟩
    have hbl : b.length = j - i := by rw [← hbe, List.length_drop, List.length_take, hw]; omega
    rw [hbe] at hb
    have hwj : wkW fr te s (w.take j) := by
      have := (wk_append fr te (w.take j) s (w.drop j)).1 (by rw [List.take_append_drop]; exact hwk)
      exact this.1
    rw [hb, wk_append] at hwj
    rw [hb, en_append] at he
    have hmb : ∀ x ∈ b, x < n := fun x hx => hm x (by
      rw [← hbe] at hx
      exact List.mem_of_mem_take (List.mem_of_mem_drop hx))
    have hcl : clW fr te b := by
      match b, hbl with
      | [], hh => simp at hh; omega
      | x :: v, _ =>
        rw [cl_head]
        have h5 : fr x = enW te s (w.take i) := hwj.2.1
        rw [h5]
        exact ⟨hwj.2, he.symm⟩
    have h6 : 1 ≤ closedN fr te n (j - i) := by
      have h7 := sumW_ge (m := n) (d := j - i) (f := fun w => if clW fr te w then (1 : Int) else 0) (fun w => by split <;> decide) b hbl hmb
      rw [if_pos hcl] at h7
      exact h7
    rw [closed_classes fr te n (j - i) (by omega), dotN_congr (g := fun _ => 0) fun k hk => ?_, dotN_zero] at h6
    · exact absurd h6 (by decide)
    · split
      · exact h (k + 1) (by omega) (by omega)
      · rfl
  · intro h d hd hdN
    apply Classical.byContradiction
    intro hne
    obtain ⟨u, hu, hm, h1⟩ := sumW_ne hne
    have hcl : clW fr te u := by
      apply Classical.byContradiction
      intro hh
      exact h1 (if_neg fun k => hh k.1)
    match u, hu, hm, hcl with
    | [], hu, _, _ => simp at hu; omega
    | x :: v, hu, hm, hcl =>
      have h2 := (cl_pows hcl N).1
      obtain ⟨t, ht⟩ : ∃ t, (pwW (x :: v) N).take N = t := ⟨_, rfl⟩
      have htl : t.length = N := by
        rw [← ht, List.length_take, pwW_len, hu]
        have : 1 * N ≤ d * N := Nat.mul_le_mul_right _ hd
        omega
      have htw : wkW fr te (fr x) t := by
        have := (wk_append fr te ((pwW (x :: v) N).take N) (fr x) ((pwW (x :: v) N).drop N)).1 (by rw [List.take_append_drop]; exact h2)
        rw [← ht]
        exact this.1
      have htm : ∀ y ∈ t, y < n := fun y hy => hm y (pwW_mem (by rw [← ht] at hy; exact List.mem_of_mem_take hy))
      have hx : fr x < N := hfr x (hm x (by simp))
      have h3 : 1 ≤ cntI te fr n (fun _ => 1) N (fr x) := by
        rw [from_words]
        have h7 := sumW_ge (m := n) (d := N) (f := fun w => if wkW fr te (fr x) w then (1 : Int) else 0) (fun w => by split <;> decide) t htl htm
        rw [if_pos htw] at h7
        exact h7
      have h4 := (dotN_ge (f := fun s => cntI te fr n (fun _ => 1) N s) (n := N) (fun i _ => by
        rw [from_words]
        exact sumW_nonneg n N fun w => by split <;> decide) hx)
      omega
/-- The sign of a number of parts, as Moebius' function has it. -/
def muN (n : Nat) : Int := [0, 1, -1, -1, 0, -1, 1, -1, 0, 0, 1, -1, 0].getD n 0
/-- What the sum with signs gives, up to 12. -/
theorem moebius12 (t P : Nat → Int) (h : ∀ d, 0 < d → d ≤ 12 → t d = dotN (fun i => if d % (i + 1) = 0 then P (i + 1) else 0) d) (d : Nat) (h0 : 0 < d) (h12 : d ≤ 12) :
    dotN (fun i => if d % (i + 1) = 0 then muN (d / (i + 1)) * t (i + 1) else 0) d = P d := by
  have h1 := h 1 (by omega) (by omega)
  have h2 := h 2 (by omega) (by omega)
  have h3 := h 3 (by omega) (by omega)
  have h4 := h 4 (by omega) (by omega)
  have h5 := h 5 (by omega) (by omega)
  have h6 := h 6 (by omega) (by omega)
  have h7 := h 7 (by omega) (by omega)
  have h8 := h 8 (by omega) (by omega)
  have h9 := h 9 (by omega) (by omega)
  have h10 := h 10 (by omega) (by omega)
  have h11 := h 11 (by omega) (by omega)
  have h12 := h 12 (by omega) (by omega)
  simp [dotN] at h1 h2 h3 h4 h5 h6 h7 h8 h9 h10 h11 h12
  have hd : d = 1 ∨ d = 2 ∨ d = 3 ∨ d = 4 ∨ d = 5 ∨ d = 6 ∨ d = 7 ∨ d = 8 ∨ d = 9 ∨ d = 10 ∨ d = 11 ∨ d = 12 := by omega
  rcases hd with rfl | rfl | rfl | rfl | rfl | rfl | rfl | rfl | rfl | rfl | rfl | rfl <;> simp [dotN, muN] <;> omega
end Go.Proofs.Ytlaoijfphkhchaa
