/- Long division: the plain law. -/
import Derived.Test.YtcafeffgaokiaaaJ13
namespace Go.Proofs.Ytcafeffgaokiaaa
/-- The value of k digits from the place a on. -/
def sV (F : Nat → Nat) (a k : Nat) : Nat := val (digList (fun i => F (a + i)) k)
theorem sV_zero (F : Nat → Nat) (a : Nat) : sV F a 0 = 0 := rfl
theorem sV_succ (F : Nat → Nat) (a k : Nat) : sV F a (k + 1) = sV F a k + 4294967296 ^ k * F (a + k) := val_digList_succ _ k
theorem sV_congr {F G : Nat → Nat} {a k : Nat} (h : ∀ i, i < k → F (a + i) = G (a + i)) : sV F a k = sV G a k := by
  unfold sV
  rw [digList_congr h]
theorem sV_lt {F : Nat → Nat} {a : Nat} (k : Nat) (h : ∀ i, i < k → F (a + i) < 4294967296) : sV F a k < 4294967296 ^ k := by
  induction k with
  | zero => exact Nat.one_pos
  | succ k ih =>
    have h1 := ih fun i hi => h i (by omega)
    have h2 := h k (by omega)
    rw [sV_succ, Nat.pow_succ]
    have h3 : 4294967296 ^ k * F (a + k) ≤ 4294967296 ^ k * 4294967295 := Nat.mul_le_mul_left _ (by omega)
    omega
theorem sV_add (F : Nat → Nat) (a k l : Nat) : sV F a (k + l) = sV F a k + 4294967296 ^ k * sV F (a + k) l := by
  induction l with
  | zero => rw [sV_zero]; simp
  | succ l ih => rw [← Nat.add_assoc, sV_succ, ih, sV_succ, Nat.mul_add, Nat.pow_add, Nat.mul_assoc, Nat.add_assoc, Nat.add_assoc]
theorem sV_one (F : Nat → Nat) (a : Nat) : sV F a 1 = F a := by rw [sV_succ, sV_zero]; simp
theorem sV_head (F : Nat → Nat) (a k : Nat) : sV F a (k + 1) = F a + 4294967296 * sV F (a + 1) k := by
  rw [Nat.add_comm k 1, sV_add, sV_one, Nat.pow_one]
theorem sV_top {F : Nat → Nat} {a k : Nat} : 4294967296 ^ k * F (a + k) ≤ sV F a (k + 1) := by rw [sV_succ]; exact Nat.le_add_left _ _
theorem sV_list (xs : List Nat) : sV (fun i => xs.getD i 0) 0 xs.length = val xs := by
  unfold sV
  congr 1
  refine List.ext_getElem (by rw [digList_len]) fun i h1 h2 => ?_
  have h3 := digList_getD (fun i => xs.getD (0 + i) 0) (n := xs.length) (j := i) h2
  rw [List.getD_eq_getElem?_getD, List.getElem?_eq_getElem h1] at h3
  rw [Nat.zero_add, List.getD_eq_getElem?_getD, List.getElem?_eq_getElem h2] at h3
  exact h3
/-! A product with the top digits. U has the digits (.., u2, and above them the value t), V the digits (.., v2, v1). -/
section
variable {B W lowU lowV t u2 v1 v2 U V g r : Nat}
/-- The test says that the guess is too great. -/
theorem k_over (hU : U = lowU + W * (t * B + u2)) (hl : lowU < W) (hV : V = lowV + W * (v1 * B + v2)) (ht : g * v1 + r = t) (hc : r * B + u2 < g * v2) : U < g * V := by
  have h1 : t * B + u2 + 1 ≤ g * (v1 * B + v2) := by
    rw [← ht, Nat.add_mul, Nat.mul_add, Nat.mul_assoc]; omega
  have h2 : W * (t * B + u2 + 1) ≤ W * (g * (v1 * B + v2)) := Nat.mul_le_mul_left _ h1
  have h3 : W * (g * (v1 * B + v2)) ≤ g * V := by
    rw [hV, Nat.mul_add g lowV, Nat.mul_left_comm g W]; exact Nat.le_add_left _ _
  rw [Nat.mul_add, Nat.mul_one] at h2
  omega
/-- Behind the tests the guess is too great by 1 at most. -/
theorem k_end (hU : U = lowU + W * (t * B + u2)) (hV : V = lowV + W * (v1 * B + v2)) (hl : lowV < W) (hv : 1 ≤ v1) (ht : g * v1 + r = t) (hg : g < B) (hc : g * v2 ≤ r * B + u2) : g * V ≤ U + V := by
  have h1 : g * (v1 * B + v2) ≤ t * B + u2 := by
    rw [← ht, Nat.add_mul, Nat.mul_add, Nat.mul_assoc]; omega
  have h2 : W * (g * (v1 * B + v2)) ≤ W * (t * B + u2) := Nat.mul_le_mul_left _ h1
  have h3 : g * lowV ≤ B * W := Nat.mul_le_mul (Nat.le_of_lt hg) (Nat.le_of_lt hl)
  have h4 : B * W ≤ V := by
    rw [hV, Nat.mul_add]
    have : W * (1 * B) ≤ W * (v1 * B) := Nat.mul_le_mul_left _ (Nat.mul_le_mul_right _ hv)
    rw [Nat.one_mul, Nat.mul_comm W B] at this
    omega
  have h5 : g * V = g * lowV + W * (g * (v1 * B + v2)) := by rw [hV, Nat.mul_add, Nat.mul_left_comm]
  omega
/-- The first guess is not too small. -/
theorem k_start (hU : U = lowU + W * (t * B + u2)) (hl : lowU < W) (hV : V = lowV + W * (v1 * B + v2)) (hu : u2 < B) (hv : 0 < v1) : U < (t / v1 + 1) * V := by
  have h1 : t + 1 ≤ (t / v1 + 1) * v1 := by
    have := Nat.div_add_mod t v1
    have h2 := Nat.mod_lt t hv
    rw [Nat.add_mul, Nat.one_mul, Nat.mul_comm]
    omega
  have h2 : (t + 1) * B ≤ (t / v1 + 1) * v1 * B := Nat.mul_le_mul_right _ h1
  have h3 : (t / v1 + 1) * v1 * B ≤ (t / v1 + 1) * (v1 * B + v2) := by rw [Nat.mul_assoc]; exact Nat.mul_le_mul_left _ (Nat.le_add_right _ _)
  have h4 : W * (t * B + u2 + 1) ≤ W * ((t / v1 + 1) * (v1 * B + v2)) := by
    refine Nat.mul_le_mul_left _ (Nat.le_trans ?_ h3)
    rw [Nat.add_mul, Nat.one_mul] at h2
    omega
  have h5 : W * ((t / v1 + 1) * (v1 * B + v2)) ≤ (t / v1 + 1) * V := by
    rw [hV, Nat.mul_add (t / v1 + 1) lowV, Nat.mul_left_comm (t / v1 + 1) W]; exact Nat.le_add_left _ _
  rw [Nat.mul_add W, Nat.mul_one] at h4
  omega
end
/-- What stands when a digit of the quotient is sought: U the m + 1 digits from j on, V the divisor. -/
structure KSt (F G : Nat → Nat) (j m : Nat) : Prop where
  m2 : 2 ≤ m
  hF : ∀ k, F k < 4294967296
  hG : ∀ k, G k < 4294967296
  hv : 2147483648 ≤ G (m - 1)
  hR : sV F (j + 1) m < sV G 0 m
theorem KSt.U {F G : Nat → Nat} {j m : Nat} (h : KSt F G j m) : sV F j (m + 1) = sV F j (m - 2) + 4294967296 ^ (m - 2) * ((F (j + m) * 4294967296 + F (j + m - 1)) * 4294967296 + F (j + m - 2)) := by
  have h2 := h.m2
  obtain ⟨k, rfl⟩ : ∃ k, m = k + 2 := ⟨m - 2, by omega⟩
  rw [Nat.add_sub_cancel, show j + (k + 2) - 1 = j + k + 1 from by omega, show j + (k + 2) - 2 = j + k from by omega, show k + 2 + 1 = k + 3 from rfl, sV_add, sV_succ, sV_succ, sV_one, show j + (k + 2) = j + k + 2 from by omega]
  congr 2
  omega
theorem KSt.V {F G : Nat → Nat} {j m : Nat} (h : KSt F G j m) : sV G 0 m = sV G 0 (m - 2) + 4294967296 ^ (m - 2) * (G (m - 1) * 4294967296 + G (m - 2)) := by
  have h2 := h.m2
  obtain ⟨k, rfl⟩ : ∃ k, m = k + 2 := ⟨m - 2, by omega⟩
  rw [Nat.add_sub_cancel, show k + 2 - 1 = k + 1 from by omega, sV_add, sV_succ, sV_one, Nat.zero_add]
  congr 2
  omega
theorem KSt.top {F G : Nat → Nat} {j m : Nat} (h : KSt F G j m) : F (j + m) ≤ G (m - 1) := by
  refine Classical.byContradiction fun hn => ?_
  have h2 := h.m2
  obtain ⟨k, rfl⟩ : ∃ k, m = k + 1 := ⟨m - 1, by omega⟩
  have hR := h.hR
  rw [Nat.add_sub_cancel] at hn
  have h3 := sV_top (F := F) (a := j + 1) (k := k)
  rw [show j + 1 + k = j + (k + 1) from by omega] at h3
  have h4 := sV_lt (F := G) (a := 0) k fun i _ => h.hG _
  have h5 : sV G 0 (k + 1) = sV G 0 k + 4294967296 ^ k * G k := by rw [sV_succ, Nat.zero_add]
  have h6 : 4294967296 ^ k * (G k + 1) ≤ 4294967296 ^ k * F (j + (k + 1)) := Nat.mul_le_mul_left _ (by omega)
  rw [Nat.mul_add, Nat.mul_one] at h6
  omega
theorem KSt.below {F G : Nat → Nat} {j m : Nat} (h : KSt F G j m) : sV F j (m + 1) < 4294967296 * sV G 0 m := by
  rw [sV_head]
  have h1 := h.hF j
  have h2 := h.hR
  omega
/-- A guess g with the rest r of the top digits. -/
def KGs (F G : Nat → Nat) (j m g r : Nat) : Prop := sV F j (m + 1) < (g + 1) * sV G 0 m ∧ g * G (m - 1) + r = F (j + m) * 4294967296 + F (j + m - 1) ∧ g < 17179869184
/-- The guess behind the tests. -/
def KGe (F G : Nat → Nat) (j m g : Nat) : Prop := sV F j (m + 1) < (g + 1) * sV G 0 m ∧ g * sV G 0 m ≤ sV F j (m + 1) + sV G 0 m ∧ g < 4294967296
theorem KSt.start {F G : Nat → Nat} {j m : Nat} (h : KSt F G j m) : KGs F G j m ((F (j + m) * 4294967296 + F (j + m - 1)) / G (m - 1)) ((F (j + m) * 4294967296 + F (j + m - 1)) % G (m - 1)) := by
  have hv := h.hv
  refine ⟨?_, ?_, ?_⟩
  · exact k_start h.U (sV_lt _ fun i _ => h.hF _) h.V (h.hF _) (by omega)
  · have := Nat.div_add_mod (F (j + m) * 4294967296 + F (j + m - 1)) (G (m - 1))
    rw [Nat.mul_comm]; exact this
  · refine Nat.div_lt_of_lt_mul ?_
    have h1 := h.top
    have h2 := h.hF (j + m - 1)
    omega
theorem KGs.dec {F G : Nat → Nat} {j m g r : Nat} (h : KSt F G j m) (hg : KGs F G j m g r) (hc : 4294967296 ≤ g ∨ r * 4294967296 + F (j + m - 2) < g * G (m - 2)) : 0 < g ∧ KGs F G j m (g - 1) (r + G (m - 1)) := by
  have key : sV F j (m + 1) < g * sV G 0 m := by
    rcases hc with hc | hc
    · exact Nat.lt_of_lt_of_le h.below (Nat.mul_le_mul_right _ hc)
    · exact k_over h.U (sV_lt _ fun i _ => h.hF _) h.V hg.2.1 hc
  have h0 : 0 < g := by
    refine Nat.pos_of_ne_zero fun h0 => ?_
    rw [h0, Nat.zero_mul] at key
    omega
  obtain ⟨k, rfl⟩ : ∃ k, g = k + 1 := ⟨g - 1, by omega⟩
  have h2 := hg.2.1
  have h3 := hg.2.2
  rw [Nat.add_mul, Nat.one_mul] at h2
  rw [Nat.add_sub_cancel]
  exact ⟨h0, key, by omega, by omega⟩
theorem KGs.done {F G : Nat → Nat} {j m g r : Nat} (h : KSt F G j m) (hg : KGs F G j m g r) (hc : 4294967296 ≤ r ∨ (g < 4294967296 ∧ g * G (m - 2) ≤ r * 4294967296 + F (j + m - 2))) : KGe F G j m g := by
  have hv := h.hv
  have h1 : g < 4294967296 := by
    rcases hc with hc | hc
    · refine Classical.byContradiction fun hn => ?_
      have h2 := hg.2.1
      have h3 := h.top
      have h4 := h.hF (j + m - 1)
      have h5 : 4294967296 * G (m - 1) ≤ g * G (m - 1) := Nat.mul_le_mul_right _ (by omega)
      omega
    · exact hc.1
  have h2 : g * G (m - 2) ≤ r * 4294967296 + F (j + m - 2) := by
    rcases hc with hc | hc
    · have h3 : g * G (m - 2) ≤ 4294967296 * 4294967296 := Nat.mul_le_mul (Nat.le_of_lt h1) (Nat.le_of_lt (h.hG _))
      omega
    · exact hc.2
  exact ⟨hg.1, k_end h.U h.V (sV_lt _ fun i _ => h.hG _) (by omega) hg.2.1 h1 h2, h1⟩
/-- What stands when i digits of the guess's product are taken away: H the digits now, b what is borrowed, c what is carried. -/
def KSub (F G : Nat → Nat) (j m g : Nat) (H : Nat → Nat) (i b c : Nat) : Prop :=
  (∀ k, H k < 4294967296) ∧ (∀ k, k < j ∨ j + i ≤ k → H k = F k) ∧ b ≤ 1 ∧ c < 4294967296 ∧ sV H j i + g * sV G 0 i = sV F j i + (c + b) * 4294967296 ^ i
theorem KSub.start {F G : Nat → Nat} {j m g : Nat} (hF : ∀ k, F k < 4294967296) : KSub F G j m g F 0 0 0 := ⟨hF, fun _ _ => rfl, by omega, by omega, by simp [sV_zero]⟩
theorem KSub.p {G : Nat → Nat} {i g c : Nat} (hG : ∀ k, G k < 4294967296) (hg : g < 4294967296) (hc : c < 4294967296) : g * G i + c < 18446744073709551616 ∧ (g * G i + c) / 4294967296 < 4294967296 := by
  have h1 : g * G i ≤ 4294967295 * 4294967295 := Nat.mul_le_mul (by omega) (by have := hG i; omega)
  omega
theorem KSub.step {F G : Nat → Nat} {j m g : Nat} {H : Nat → Nat} {i b c d b' : Nat} (hG : ∀ k, G k < 4294967296) (hg : g < 4294967296) (h : KSub F G j m g H i b c) (hb : b' ≤ 1) (hd : d < 4294967296)
    (he : d + b + (g * G i + c) % 4294967296 = F (j + i) + b' * 4294967296) : KSub F G j m g (fun k => if k = j + i then d else H k) (i + 1) b' ((g * G i + c) / 4294967296) := by
  obtain ⟨h1, h2, h3, h4, h5⟩ := h
  refine ⟨fun k => by dsimp only; split <;> first | exact hd | exact h1 k, fun k hk => by dsimp only; rw [if_neg (by omega)]; exact h2 k (by omega), hb, (KSub.p hG hg h4).2, ?_⟩
  rw [sV_succ, sV_succ, sV_succ, if_pos rfl, sV_congr (G := H) fun k hk => if_neg (by omega), Nat.zero_add]
  have h6 := Nat.div_add_mod (g * G i + c) 4294967296
  obtain ⟨P, hP⟩ : ∃ P, 4294967296 ^ i = P := ⟨_, rfl⟩
  rw [hP] at h5 ⊢
  rw [Nat.pow_succ, hP]
  obtain ⟨q, hq⟩ : ∃ q, (g * G i + c) / 4294967296 = q := ⟨_, rfl⟩
  obtain ⟨s, hs⟩ : ∃ q, (g * G i + c) % 4294967296 = q := ⟨_, rfl⟩
  rw [hq, hs] at h6
  rw [hs] at he
  rw [hq]
  have e1 : g * (sV G 0 i + P * G i) = g * sV G 0 i + P * (g * G i) := by rw [Nat.mul_add, Nat.mul_left_comm]
  have e2 : P * (g * G i) + P * c = P * (4294967296 * q) + P * s := by rw [← Nat.mul_add, ← Nat.mul_add, h6]
  have e3 : P * d + P * b + P * s = P * F (j + i) + P * (b' * 4294967296) := by rw [← Nat.mul_add, ← Nat.mul_add, ← Nat.mul_add, he]
  have e4 : (c + b) * P = P * c + P * b := by rw [Nat.add_mul, Nat.mul_comm c, Nat.mul_comm b]
  have e5 : (q + b') * (P * 4294967296) = P * (4294967296 * q) + P * (b' * 4294967296) := by
    rw [Nat.add_mul, Nat.mul_comm q, Nat.mul_comm b' (P * 4294967296), Nat.mul_assoc, Nat.mul_assoc, Nat.mul_comm b' 4294967296]
  rw [e1, e5]
  rw [e4] at h5
  omega
/-- The digits behind the difference; the top one is d. -/
theorem KSub.over {F G : Nat → Nat} {j m g : Nat} {H : Nat → Nat} {b c d : Nat} (h : KSub F G j m g H m b c) (hd : d + (c + b) = F (j + m) + 4294967296) :
    sV H j m + 4294967296 ^ m * d + g * sV G 0 m = sV F j (m + 1) + 4294967296 ^ m * 4294967296 := by
  obtain ⟨h1, h2, h3, h4, h5⟩ := h
  rw [sV_succ]
  have e1 : 4294967296 ^ m * d + 4294967296 ^ m * (c + b) = 4294967296 ^ m * F (j + m) + 4294967296 ^ m * 4294967296 := by rw [← Nat.mul_add, ← Nat.mul_add, hd]
  rw [Nat.mul_comm (c + b)] at h5
  omega
theorem KSub.pos {F G : Nat → Nat} {j m g : Nat} {H : Nat → Nat} {b c d : Nat} (h : KSub F G j m g H m b c) (hd : d + (c + b) = F (j + m) + 4294967296) (hdl : d < 4294967296) : 0 < g := by
  have h1 := h.over hd
  have h2 := sV_lt (F := H) (a := j) m fun i _ => h.1 _
  refine Nat.pos_of_ne_zero fun h0 => ?_
  rw [h0, Nat.zero_mul] at h1
  have : 4294967296 ^ m * d ≤ 4294967296 ^ m * 4294967295 := Nat.mul_le_mul_left _ (by omega)
  omega
theorem KSub.fits {F G : Nat → Nat} {j m g : Nat} {H : Nat → Nat} {b c d : Nat} (h : KSub F G j m g H m b c) (hd : d + (c + b) = F (j + m)) :
    sV H j m + 4294967296 ^ m * d + g * sV G 0 m = sV F j (m + 1) := by
  obtain ⟨h1, h2, h3, h4, h5⟩ := h
  rw [sV_succ]
  have e1 : 4294967296 ^ m * d + 4294967296 ^ m * (c + b) = 4294967296 ^ m * F (j + m) := by rw [← Nat.mul_add, hd]
  rw [Nat.mul_comm (c + b)] at h5
  omega
/-- What stands when i digits of the divisor are added back. -/
def KAdd (H G : Nat → Nat) (j : Nat) (K : Nat → Nat) (i c : Nat) : Prop :=
  (∀ k, K k < 4294967296) ∧ (∀ k, k < j ∨ j + i ≤ k → K k = H k) ∧ c ≤ 1 ∧ sV K j i + c * 4294967296 ^ i = sV H j i + sV G 0 i
theorem KAdd.start {H G : Nat → Nat} {j : Nat} (hH : ∀ k, H k < 4294967296) : KAdd H G j H 0 0 := ⟨hH, fun _ _ => rfl, by omega, by simp [sV_zero]⟩
theorem KAdd.step {H G : Nat → Nat} {j : Nat} {K : Nat → Nat} {i c : Nat} (hH : ∀ k, H k < 4294967296) (hG : ∀ k, G k < 4294967296) (h : KAdd H G j K i c) :
    KAdd H G j (fun k => if k = j + i then (H (j + i) + G i + c) % 4294967296 else K k) (i + 1) ((H (j + i) + G i + c) / 4294967296) := by
  obtain ⟨h1, h2, h3, h4⟩ := h
  have a := hH (j + i)
  have b := hG i
  refine ⟨fun k => by dsimp only; split <;> first | exact Nat.mod_lt _ (by decide) | exact h1 k, fun k hk => by dsimp only; rw [if_neg (by omega)]; exact h2 k (by omega), by omega, ?_⟩
  rw [sV_succ, sV_succ, sV_succ, if_pos rfl, sV_congr (G := K) fun k hk => if_neg (by omega), Nat.zero_add]
  have h6 := Nat.div_add_mod (H (j + i) + G i + c) 4294967296
  obtain ⟨P, hP⟩ : ∃ P, 4294967296 ^ i = P := ⟨_, rfl⟩
  rw [hP] at h4 ⊢
  rw [Nat.pow_succ, hP]
  obtain ⟨q, hq⟩ : ∃ q, (H (j + i) + G i + c) / 4294967296 = q := ⟨_, rfl⟩
  obtain ⟨s, hs⟩ : ∃ q, (H (j + i) + G i + c) % 4294967296 = q := ⟨_, rfl⟩
  rw [hq, hs] at h6
  rw [hs, hq]
  have e2 : P * (4294967296 * q) + P * s = P * H (j + i) + P * G i + P * c := by rw [← Nat.mul_add, ← Nat.mul_add, ← Nat.mul_add, h6]
  have e5 : q * (P * 4294967296) = P * (4294967296 * q) := by rw [Nat.mul_comm q, Nat.mul_assoc]
  rw [Nat.mul_comm c] at h4
  rw [e5]
  omega
/-- The digit of the quotient, and the digits that are left. -/
def KDig (F G : Nat → Nat) (j m q : Nat) (K : Nat → Nat) : Prop :=
  q < 4294967296 ∧ (∀ k, K k < 4294967296) ∧ (∀ k, k < j ∨ j + m < k → K k = F k) ∧ K (j + m) = 0 ∧ sV K j m < sV G 0 m ∧ sV F j (m + 1) = q * sV G 0 m + sV K j m
theorem KSub.none {F G : Nat → Nat} {j m g : Nat} {H : Nat → Nat} {b c d : Nat} (hG : ∀ k, G k < 4294967296) (hg : KGe F G j m g) (h : KSub F G j m g H m b c) (hd : d + (c + b) = F (j + m)) (hdl : d < 4294967296) :
    KDig F G j m g (fun k => if k = j + m then d else H k) := by
  have h1 := h.fits hd
  obtain ⟨a1, a2, a3, a4, a5⟩ := h
  obtain ⟨b1, b2, b3⟩ := hg
  have h2 := sV_lt (F := G) (a := 0) m fun i _ => hG _
  rw [Nat.add_mul, Nat.one_mul] at b1
  have h3 : 4294967296 ^ m * d < 4294967296 ^ m * 1 := by omega
  have h4 : d = 0 := by
    have := Nat.lt_of_mul_lt_mul_left h3
    omega
  subst h4
  have e : sV (fun k => if k = j + m then 0 else H k) j m = sV H j m := sV_congr fun i hi => if_neg (by omega)
  refine ⟨b3, fun k => by dsimp only; split <;> first | exact hdl | exact a1 k, fun k hk => by dsimp only; rw [if_neg (by omega)]; exact a2 k (by omega), if_pos rfl, ?_, ?_⟩
  · rw [e]; omega
  · rw [e]; omega
theorem KAdd.over {F G : Nat → Nat} {j m g : Nat} {H K : Nat → Nat} {b c d c2 : Nat} (hG : ∀ k, G k < 4294967296) (hg : KGe F G j m g) (h : KSub F G j m g H m b c) (hd : d + (c + b) = F (j + m) + 4294967296) (hdl : d < 4294967296)
    (hk : KAdd (fun k => if k = j + m then d else H k) G j K m c2) : 0 < g ∧ (d + c2) % 4294967296 = 0 ∧ KDig F G j m (g - 1) (fun k => if k = j + m then 0 else K k) := by
  have h1 := h.over hd
  obtain ⟨a1, a2, a3, a4, a5⟩ := h
  obtain ⟨b1, b2, b3⟩ := hg
  obtain ⟨c1, c3, c4, c5⟩ := hk
  have h2 := sV_lt (F := G) (a := 0) m fun i _ => hG _
  have h3 := sV_lt (F := K) (a := j) m fun i _ => c1 _
  have h8 := sV_lt (F := H) (a := j) m fun i _ => a1 _
  have e : sV (fun k => if k = j + m then d else H k) j m = sV H j m := sV_congr fun i hi => if_neg (by omega)
  rw [e] at c5
  have h4 : sV F j (m + 1) < g * sV G 0 m := by
    have : 4294967296 ^ m * d ≤ 4294967296 ^ m * 4294967295 := Nat.mul_le_mul_left _ (by omega)
    omega
  have h0 : 0 < g := by
    refine Nat.pos_of_ne_zero fun h0 => ?_
    rw [h0, Nat.zero_mul] at h4
    omega
  obtain ⟨k, rfl⟩ : ∃ k, g = k + 1 := ⟨g - 1, by omega⟩
  rw [Nat.add_sub_cancel]
  rw [Nat.add_mul, Nat.one_mul] at h1 h4 b2
  -- sV K + B^m (c2 + d) = B^(m+1) + (U - k V)
  have h5 : sV K j m + 4294967296 ^ m * (d + c2) + k * sV G 0 m = sV F j (m + 1) + 4294967296 ^ m * 4294967296 := by
    rw [Nat.mul_add, Nat.mul_comm _ c2]; omega
  have h6 : d + c2 = 4294967296 := by
    have h7 : 4294967296 ^ m * (d + c2) < 4294967296 ^ m * 4294967297 := by omega
    have h9 := Nat.lt_of_mul_lt_mul_left h7
    refine Classical.byContradiction fun hn => ?_
    have h10 : 4294967296 ^ m * (d + c2) ≤ 4294967296 ^ m * 4294967295 := Nat.mul_le_mul_left _ (by omega)
    omega
  rw [h6] at h5
  have e2 : sV (fun k => if k = j + m then 0 else K k) j m = sV K j m := sV_congr fun i hi => if_neg (by omega)
  refine ⟨h0, by rw [h6], by omega, fun k => by dsimp only; split <;> first | decide | exact c1 k, fun k hk => by dsimp only; rw [if_neg (by omega), c3 k (by omega)]; dsimp only; rw [if_neg (by omega)]; exact a2 k (by omega), if_pos rfl, ?_, ?_⟩
  · rw [e2]; omega
  · rw [e2]; omega
/-- What stands when the digits of the quotient from i on are found. -/
def KInv (X : Nat) (G : Nat → Nat) (m l : Nat) (F Q : Nat → Nat) (i : Nat) : Prop :=
  (∀ k, F k < 4294967296) ∧ (∀ k, Q k < 4294967296) ∧ F (i + m) = 0 ∧ sV F i m < sV G 0 m ∧ X = sV F 0 (i + m) + 4294967296 ^ i * (sV G 0 m * sV Q i (l - i))
theorem KInv.step {X m l : Nat} {F G Q K : Nat → Nat} {i q : Nat} (h : KInv X G m l F Q (i + 1)) (hi : i < l) (hd : KDig F G i m q K) : KInv X G m l K (fun k => if k = i then q else Q k) i := by
  obtain ⟨h1, h2, h3, h4, h5⟩ := h
  obtain ⟨d1, d2, d3, d4, d5, d6⟩ := hd
  refine ⟨d2, fun k => by dsimp only; split <;> first | exact d1 | exact h2 k, d4, d5, ?_⟩
  have e : sV (fun k => if k = i then q else Q k) i (l - i) = q + 4294967296 * sV Q (i + 1) (l - (i + 1)) := by
    rw [show l - i = l - (i + 1) + 1 from by omega, sV_head, if_pos rfl, sV_congr (G := Q) fun k hk => if_neg (by omega)]
  have e2 : sV F 0 (i + 1 + m) = sV F 0 i + 4294967296 ^ i * sV F i (m + 1) := by
    rw [show i + 1 + m = i + (m + 1) from by omega, sV_add, Nat.zero_add]
  have e3 : sV K 0 (i + m) = sV F 0 i + 4294967296 ^ i * sV K i m := by
    rw [sV_add, Nat.zero_add, sV_congr (F := K) (G := F) fun k hk => d3 _ (.inl (by omega))]
  rw [h5, e, e2, e3, d6]
  obtain ⟨P, hP⟩ : ∃ P, 4294967296 ^ i = P := ⟨_, rfl⟩
  obtain ⟨V, hV⟩ : ∃ V, sV G 0 m = V := ⟨_, rfl⟩
  obtain ⟨T, hT⟩ : ∃ V, sV Q (i + 1) (l - (i + 1)) = V := ⟨_, rfl⟩
  rw [Nat.pow_succ, hP, hV, hT]
  have a1 : P * (q * V + sV K i m) = P * (V * q) + P * sV K i m := by rw [Nat.mul_add, Nat.mul_comm q]
  have a2 : P * (V * (q + 4294967296 * T)) = P * (V * q) + P * 4294967296 * (V * T) := by
    rw [Nat.mul_add, Nat.mul_add, Nat.mul_left_comm V, Nat.mul_assoc P]
  rw [a1, a2]
  omega
theorem KInv.end {X m l : Nat} {F G Q : Nat → Nat} (h : KInv X G m l F Q 0) : sV Q 0 l = X / sV G 0 m ∧ sV F 0 m = X % sV G 0 m := by
  obtain ⟨h1, h2, h3, h4, h5⟩ := h
  rw [Nat.zero_add, Nat.pow_zero, Nat.one_mul, Nat.sub_zero] at h5
  rw [h5]
  constructor
  · rw [Nat.add_mul_div_left _ _ (by omega), Nat.div_eq_of_lt h4, Nat.zero_add]
  · rw [Nat.add_mul_mod_self_left, Nat.mod_eq_of_lt h4]
/-- The rest, moved back by n bits. -/
def shD (F : Nat → Nat) (n : Nat) (i : Nat) : Nat := F i / 2 ^ n + F (i + 1) % 2 ^ n * 2 ^ (32 - n)
theorem two32 {n : Nat} (hn : n ≤ 32) : 2 ^ (32 - n) * 2 ^ n = 4294967296 := by
  rw [← Nat.pow_add, Nat.sub_add_cancel hn]
theorem shD_lt {F : Nat → Nat} {n : Nat} (hn : n ≤ 32) (hF : ∀ k, F k < 4294967296) (i : Nat) : shD F n i < 4294967296 := by
  unfold shD
  have h1 := two32 hn
  have h2 : F i / 2 ^ n < 2 ^ (32 - n) := Nat.div_lt_of_lt_mul (by rw [Nat.mul_comm, h1]; exact hF i)
  have h3 := Nat.mod_lt (F (i + 1)) (Nat.two_pow_pos n)
  have h4 : (F (i + 1) % 2 ^ n + 1) * 2 ^ (32 - n) ≤ 2 ^ n * 2 ^ (32 - n) := Nat.mul_le_mul_right _ h3
  rw [Nat.add_mul, Nat.one_mul, Nat.mul_comm (2 ^ n), h1] at h4
  omega
theorem shD_val {F : Nat → Nat} {n : Nat} (hn : n ≤ 32) (m : Nat) : sV (shD F n) 0 m * 2 ^ n + F 0 % 2 ^ n = sV F 0 m + 4294967296 ^ m * (F m % 2 ^ n) := by
  induction m with
  | zero => simp [sV_zero]
  | succ m ih =>
    rw [sV_succ, sV_succ, Nat.zero_add, Nat.add_mul, Nat.pow_succ]
    have h1 := Nat.div_add_mod (F m) (2 ^ n)
    have h2 : shD F n m * 2 ^ n + F m % 2 ^ n = F m + 4294967296 * (F (m + 1) % 2 ^ n) := by
      unfold shD
      rw [Nat.add_mul, Nat.mul_assoc, two32 hn, Nat.mul_comm (F m / 2 ^ n), Nat.mul_comm _ 4294967296]
      omega
    have h3 : 4294967296 ^ m * shD F n m * 2 ^ n + 4294967296 ^ m * (F m % 2 ^ n) = 4294967296 ^ m * F m + 4294967296 ^ m * 4294967296 * (F (m + 1) % 2 ^ n) := by
      rw [Nat.mul_assoc, ← Nat.mul_add, h2, Nat.mul_add, Nat.mul_assoc]
    omega
theorem shD_end {F : Nat → Nat} {n m r : Nat} (hn : n ≤ 32) (h0 : F m = 0) (h : sV F 0 m = r * 2 ^ n) : sV (shD F n) 0 m = r := by
  have h1 := shD_val (F := F) hn m
  rw [h0, Nat.zero_mod, Nat.mul_zero, Nat.add_zero, h] at h1
  have h2 := Nat.mod_lt (F 0) (Nat.two_pow_pos n)
  have h3 : (sV (shD F n) 0 m * 2 ^ n + F 0 % 2 ^ n) / 2 ^ n = sV (shD F n) 0 m := by
    rw [Nat.mul_comm, Nat.mul_add_div (Nat.two_pow_pos n), Nat.div_eq_of_lt h2, Nat.add_zero]
  rw [← h3, h1, Nat.mul_div_cancel _ (Nat.two_pow_pos n)]
/-- A list, moved by n bits: its digits, and what is carried. -/
def shC (xs : List Nat) (n : Nat) : Nat → Nat
  | 0 => 0
  | i + 1 => (xs.getD i 0 * 2 ^ n + shC xs n i) / 4294967296
def shU (xs : List Nat) (n i : Nat) : Nat := (xs.getD i 0 * 2 ^ n + shC xs n i) % 4294967296
theorem shC_lt {xs : List Nat} (h : Dg xs) (n : Nat) : ∀ i, shC xs n i < 2 ^ n
  | 0 => Nat.two_pow_pos n
  | i + 1 => by
    rw [shC]
    have h1 := shC_lt h n i
    have h2 := h.getD i
    refine Nat.div_lt_of_lt_mul ?_
    have : xs.getD i 0 * 2 ^ n ≤ 4294967295 * 2 ^ n := Nat.mul_le_mul_right _ (by omega)
    omega
theorem shU_val (xs : List Nat) (n : Nat) : ∀ k, sV (shU xs n) 0 k + 4294967296 ^ k * shC xs n k = sV (fun i => xs.getD i 0) 0 k * 2 ^ n
  | 0 => by simp [sV_zero, shC]
  | k + 1 => by
    have ih := shU_val xs n k
    rw [sV_succ, sV_succ, Nat.zero_add, Nat.add_mul, ← ih, shC, shU, Nat.pow_succ]
    have h := Nat.div_add_mod (xs.getD k 0 * 2 ^ n + shC xs n k) 4294967296
    have h2 : 4294967296 ^ k * ((xs.getD k 0 * 2 ^ n + shC xs n k) % 4294967296) + 4294967296 ^ k * 4294967296 * ((xs.getD k 0 * 2 ^ n + shC xs n k) / 4294967296) = 4294967296 ^ k * xs.getD k 0 * 2 ^ n + 4294967296 ^ k * shC xs n k := by
      rw [Nat.mul_assoc, ← Nat.mul_add, Nat.mul_assoc (4294967296 ^ k) (xs.getD k 0), ← Nat.mul_add]
      congr 1
      omega
    omega
theorem shU_lt (xs : List Nat) (n k : Nat) : shU xs n k < 4294967296 := Nat.mod_lt _ (by decide)
theorem sV_getD (xs : List Nat) (k : Nat) : sV (fun i => xs.getD i 0) 0 (xs.length + k) = val xs := by
  rw [sV_add, sV_list]
  have : sV (fun i => xs.getD i 0) (0 + xs.length) k = 0 := by
    induction k with
    | zero => rfl
    | succ k ih => rw [sV_succ, ih, getD_over xs (by omega)]; simp
  rw [this]; simp
theorem pow31 {n : Nat} (hn : n ≤ 31) : 2 ^ n ≤ 2147483648 := Nat.le_trans (Nat.pow_le_pow_right (by decide) hn) (by decide)
theorem shC_over {xs : List Nat} (h : Dg xs) {n : Nat} (hn : n ≤ 31) (k : Nat) : shC xs n (xs.length + 1 + k) = 0 := by
  induction k with
  | zero =>
    rw [Nat.add_zero, shC, getD_over xs (Nat.le_refl _)]
    have h1 := shC_lt h n xs.length
    have h2 := pow31 hn
    rw [Nat.zero_mul, Nat.zero_add]
    exact Nat.div_eq_of_lt (by omega)
  | succ k ih => rw [← Nat.add_assoc, shC, ih, getD_over xs (by omega)]; simp
theorem shU_over {xs : List Nat} (h : Dg xs) {n : Nat} (hn : n ≤ 31) (k : Nat) : shU xs n (xs.length + 1 + k) = 0 := by
  rw [shU, shC_over h hn, getD_over xs (by omega)]; simp
theorem shU_last {xs : List Nat} (h : Dg xs) {n : Nat} (hn : n ≤ 31) : shU xs n xs.length = shC xs n xs.length := by
  have h1 := shC_lt h n xs.length
  have h2 := pow31 hn
  rw [shU, getD_over xs (Nat.le_refl _), Nat.zero_mul, Nat.zero_add]
  exact Nat.mod_eq_of_lt (by omega)
/-- The divisor, moved so that its first digit is at least 2^31. -/
theorem shV {ys : List Nat} (h : Dg ys) {n m : Nat} (hm : ys.length = m) (h1 : 1 ≤ m) (h2 : 2147483648 ≤ ys.getD (m - 1) 0 * 2 ^ n) (h3 : ys.getD (m - 1) 0 * 2 ^ n < 4294967296) (hn : n ≤ 31) :
    sV (shU ys n) 0 m = val ys * 2 ^ n ∧ 2147483648 ≤ shU ys n (m - 1) ∧ shC ys n m = 0 := by
  obtain ⟨k, rfl⟩ : ∃ k, m = k + 1 := ⟨m - 1, by omega⟩
  rw [Nat.add_sub_cancel] at h2 h3 ⊢
  have a := shU_val ys n (k + 1)
  have b := sV_getD ys 0
  rw [Nat.add_zero, hm] at b
  rw [b] at a
  have c : val ys * 2 ^ n < 4294967296 ^ (k + 1) := by
    have d := sV_succ (fun i => ys.getD i 0) 0 k
    rw [b, Nat.zero_add] at d
    have e := sV_lt (F := fun i => ys.getD i 0) (a := 0) k fun i _ => h.getD _
    have f : (sV (fun i => ys.getD i 0) 0 k + 1) * 2 ^ n ≤ 4294967296 ^ k * 2 ^ n := Nat.mul_le_mul_right _ e
    have g : ys.getD k 0 * 2 ^ n + 2 ^ n ≤ 4294967296 := by
      have hd : 4294967296 = 2 ^ (32 - n) * 2 ^ n := (two32 (by omega)).symm
      have h4 : ys.getD k 0 < 2 ^ (32 - n) := by
        rw [hd] at h3
        exact Nat.lt_of_mul_lt_mul_right h3
      have h5 : (ys.getD k 0 + 1) * 2 ^ n ≤ 2 ^ (32 - n) * 2 ^ n := Nat.mul_le_mul_right _ h4
      rw [Nat.add_mul, Nat.one_mul, ← hd] at h5
      exact h5
    have i : 4294967296 ^ k * (ys.getD k 0 * 2 ^ n + 2 ^ n) ≤ 4294967296 ^ k * 4294967296 := Nat.mul_le_mul_left _ g
    rw [d, Nat.pow_succ, Nat.add_mul, Nat.mul_assoc]
    rw [Nat.mul_add] at i
    rw [Nat.add_mul, Nat.one_mul] at f
    have := Nat.two_pow_pos n
    omega
  have d : shC ys n (k + 1) = 0 := by
    refine Classical.byContradiction fun hc => ?_
    have : 4294967296 ^ (k + 1) * 1 ≤ 4294967296 ^ (k + 1) * shC ys n (k + 1) := Nat.mul_le_mul_left _ (by omega)
    omega
  rw [d, Nat.mul_zero, Nat.add_zero] at a
  refine ⟨a, ?_, d⟩
  have e := sV_succ (fun i => ys.getD i 0) 0 k
  rw [b, Nat.zero_add] at e
  have f : 4294967296 ^ k * 2147483648 ≤ val ys * 2 ^ n := by
    rw [e, Nat.add_mul, Nat.mul_assoc]
    exact Nat.le_trans (Nat.mul_le_mul_left _ h2) (Nat.le_add_left _ _)
  rw [← a, sV_succ, Nat.zero_add] at f
  have g := sV_lt (F := shU ys n) (a := 0) k fun i _ => shU_lt ys n _
  have i : 4294967296 ^ k * 2147483648 < 4294967296 ^ k * (shU ys n k + 1) := by rw [Nat.mul_add, Nat.mul_one]; omega
  have := Nat.lt_of_mul_lt_mul_left i
  omega
/-- The beginning. -/
theorem KInv.start {xs : List Nat} {G : Nat → Nat} (h : Dg xs) {n m l : Nat} (hn : n ≤ 31) (hm : 1 ≤ m) (hv : 2147483648 ≤ G (m - 1)) (hl : l + m = xs.length + 1) : KInv (val xs * 2 ^ n) G m l (shU xs n) (fun _ => 0) l := by
  have a := shU_val xs n (l + m)
  rw [hl, sV_getD xs 1, shC_over h hn 0, Nat.mul_zero, Nat.add_zero] at a
  refine ⟨shU_lt xs n, fun _ => (by decide : 0 < 4294967296), by rw [hl]; exact shU_over h hn 0, ?_, ?_⟩
  · obtain ⟨k, rfl⟩ : ∃ k, m = k + 1 := ⟨m - 1, by omega⟩
    rw [Nat.add_sub_cancel] at hv
    have e : xs.length = l + k := by omega
    have b := sV_add (shU xs n) 0 l (k + 1)
    rw [hl, a, Nat.zero_add] at b
    have c := val_lt h
    rw [e] at c
    have d : (val xs + 1) * 2 ^ n ≤ 4294967296 ^ (l + k) * 2147483648 := Nat.mul_le_mul c (pow31 hn)
    rw [Nat.add_mul, Nat.one_mul, Nat.pow_add, Nat.mul_assoc] at d
    have f : 4294967296 ^ l * sV (shU xs n) l (k + 1) < 4294967296 ^ l * (4294967296 ^ k * 2147483648) := by
      have := Nat.two_pow_pos n
      omega
    have g := Nat.lt_of_mul_lt_mul_left f
    refine Nat.lt_of_lt_of_le g ?_
    rw [sV_succ, Nat.zero_add]
    exact Nat.le_trans (Nat.mul_le_mul_left _ hv) (Nat.le_add_left _ _)
  · rw [Nat.sub_self, sV_zero, Nat.mul_zero, Nat.mul_zero, Nat.add_zero, hl, a]
theorem KInv.kst {X m l : Nat} {F G Q : Nat → Nat} {i : Nat} (h : KInv X G m l F Q (i + 1)) (hm : 2 ≤ m) (hG : ∀ k, G k < 4294967296) (hv : 2147483648 ≤ G (m - 1)) : KSt F G i m := ⟨hm, h.1, hG, hv, h.2.2.2.1⟩
theorem lz_ex {d : Nat} (h0 : 0 < d) (h : d < 4294967296) : ∃ n, n ≤ 31 ∧ 2147483648 ≤ d * 2 ^ n ∧ d * 2 ^ n < 4294967296 ∧ Nat.log2 d + n = 31 := by
  have h1 : Nat.log2 d < 32 := (Nat.log2_lt (by omega)).2 h
  refine ⟨31 - Nat.log2 d, by omega, ?_, ?_, by omega⟩
  · have h2 := Nat.log2_self_le (show d ≠ 0 by omega)
    have h3 : 2 ^ Nat.log2 d * 2 ^ (31 - Nat.log2 d) ≤ d * 2 ^ (31 - Nat.log2 d) := Nat.mul_le_mul_right _ h2
    rw [← Nat.pow_add, show Nat.log2 d + (31 - Nat.log2 d) = 31 from by omega] at h3
    exact h3
  · have h2 : d < 2 ^ (Nat.log2 d + 1) := Nat.lt_log2_self
    have h3 : d * 2 ^ (31 - Nat.log2 d) < 2 ^ (Nat.log2 d + 1) * 2 ^ (31 - Nat.log2 d) := Nat.mul_lt_mul_of_pos_right h2 (Nat.two_pow_pos _)
    rw [← Nat.pow_add, show Nat.log2 d + 1 + (31 - Nat.log2 d) = 32 from by omega] at h3
    exact h3
end Go.Proofs.Ytcafeffgaokiaaa
