/- The determinant of a product, up to 4 rows. -/
import Derived.Test.YtlkoiekdafaapaaDet
namespace Go.Proofs.Ytlkoiekdafaapaa
theorem detL_mul1 (A B : Nat → Nat → Int) : detL 1 (mulF 1 A B) = detL 1 A * detL 1 B := by
  simp [mulF, dotN, detL, sgF]
set_option maxRecDepth 100000 in
theorem detL_mul2 (A B : Nat → Nat → Int) : detL 2 (mulF 2 A B) = detL 2 A * detL 2 B := by
  simp [mulF, dotN, detL, sgF, woF]; grind
set_option maxRecDepth 100000 in
set_option maxHeartbeats 4000000 in
theorem detL_mul3 (A B : Nat → Nat → Int) : detL 3 (mulF 3 A B) = detL 3 A * detL 3 B := by
  simp [mulF, dotN, detL, sgF, woF]; grind
/-- The minor of two rows and two columns. -/
def m2 (F : Nat → Nat → Int) (a b i k : Nat) : Int := F a i * F b k - F a k * F b i
theorem det4_m2 (F : Nat → Nat → Int) : detL 4 F = m2 F 0 1 0 1 * m2 F 2 3 2 3 - m2 F 0 1 0 2 * m2 F 2 3 1 3 + m2 F 0 1 0 3 * m2 F 2 3 1 2 + m2 F 0 1 1 2 * m2 F 2 3 0 3 - m2 F 0 1 1 3 * m2 F 2 3 0 2 + m2 F 0 1 2 3 * m2 F 2 3 0 1 := by
  simp [dotN, detL, sgF, woF, m2]; grind
theorem m2_mul (A B : Nat → Nat → Int) (a b i k : Nat) : m2 (mulF 4 A B) a b i k = m2 A a b 0 1 * m2 B 0 1 i k + m2 A a b 0 2 * m2 B 0 2 i k + m2 A a b 0 3 * m2 B 0 3 i k + m2 A a b 1 2 * m2 B 1 2 i k + m2 A a b 1 3 * m2 B 1 3 i k + m2 A a b 2 3 * m2 B 2 3 i k := by
  simp [dotN, mulF, m2]; grind
/-- The mixed sums: 0 unless the rows are complementary. -/
def mix (B : Nat → Nat → Int) (a b c d : Nat) : Int := m2 B a b 0 1 * m2 B c d 2 3 - m2 B a b 0 2 * m2 B c d 1 3 + m2 B a b 0 3 * m2 B c d 1 2 + m2 B a b 1 2 * m2 B c d 0 3 - m2 B a b 1 3 * m2 B c d 0 2 + m2 B a b 2 3 * m2 B c d 0 1
theorem mix_same (B : Nat → Nat → Int) (a b d : Nat) : mix B a b a d = 0 := by unfold mix m2; grind
theorem mix_same2 (B : Nat → Nat → Int) (a b d : Nat) : mix B a b d a = 0 := by unfold mix m2; grind
theorem mix_same3 (B : Nat → Nat → Int) (a b d : Nat) : mix B b a a d = 0 := by unfold mix m2; grind
theorem mix_same4 (B : Nat → Nat → Int) (a b d : Nat) : mix B b a d a = 0 := by unfold mix m2; grind
theorem mix_a (B : Nat → Nat → Int) : mix B 0 1 2 3 = detL 4 B := by rw [det4_m2]; rfl
theorem mix_swap (B : Nat → Nat → Int) (a b c d : Nat) : mix B a b c d = -mix B a c b d := by unfold mix m2; grind
theorem mix_turn (B : Nat → Nat → Int) (a b c d : Nat) : mix B c d a b = mix B a b c d := by unfold mix m2; grind
theorem mix_neg (B : Nat → Nat → Int) (a b c d : Nat) : mix B a b d c = -mix B a b c d := by unfold mix m2; grind
theorem detL_mul4 (A B : Nat → Nat → Int) : detL 4 (mulF 4 A B) = detL 4 A * detL 4 B := by
  have e : detL 4 (mulF 4 A B) = mix (mulF 4 A B) 0 1 2 3 := (mix_a _).symm
  have h1 := mix_a B
  have h2 : mix B 0 2 1 3 = -detL 4 B := by rw [mix_swap, h1]
  have h3 : mix B 0 3 1 2 = detL 4 B := by rw [mix_neg, mix_swap, mix_neg, h2]; grind
  have h4 : mix B 1 2 0 3 = detL 4 B := by rw [mix_turn, h3]
  have h5 : mix B 1 3 0 2 = -detL 4 B := by rw [mix_turn, h2]
  have h6 : mix B 2 3 0 1 = detL 4 B := by rw [mix_turn, h1]
  rw [e, det4_m2 A]
  have key : mix (mulF 4 A B) 0 1 2 3 = m2 A 0 1 0 1 * (m2 A 2 3 0 1 * mix B 0 1 0 1 + m2 A 2 3 0 2 * mix B 0 1 0 2 + m2 A 2 3 0 3 * mix B 0 1 0 3 + m2 A 2 3 1 2 * mix B 0 1 1 2 + m2 A 2 3 1 3 * mix B 0 1 1 3 + m2 A 2 3 2 3 * mix B 0 1 2 3) + m2 A 0 1 0 2 * (m2 A 2 3 0 1 * mix B 0 2 0 1 + m2 A 2 3 0 2 * mix B 0 2 0 2 + m2 A 2 3 0 3 * mix B 0 2 0 3 + m2 A 2 3 1 2 * mix B 0 2 1 2 + m2 A 2 3 1 3 * mix B 0 2 1 3 + m2 A 2 3 2 3 * mix B 0 2 2 3) + m2 A 0 1 0 3 * (m2 A 2 3 0 1 * mix B 0 3 0 1 + m2 A 2 3 0 2 * mix B 0 3 0 2 + m2 A 2 3 0 3 * mix B 0 3 0 3 + m2 A 2 3 1 2 * mix B 0 3 1 2 + m2 A 2 3 1 3 * mix B 0 3 1 3 + m2 A 2 3 2 3 * mix B 0 3 2 3) + m2 A 0 1 1 2 * (m2 A 2 3 0 1 * mix B 1 2 0 1 + m2 A 2 3 0 2 * mix B 1 2 0 2 + m2 A 2 3 0 3 * mix B 1 2 0 3 + m2 A 2 3 1 2 * mix B 1 2 1 2 + m2 A 2 3 1 3 * mix B 1 2 1 3 + m2 A 2 3 2 3 * mix B 1 2 2 3) + m2 A 0 1 1 3 * (m2 A 2 3 0 1 * mix B 1 3 0 1 + m2 A 2 3 0 2 * mix B 1 3 0 2 + m2 A 2 3 0 3 * mix B 1 3 0 3 + m2 A 2 3 1 2 * mix B 1 3 1 2 + m2 A 2 3 1 3 * mix B 1 3 1 3 + m2 A 2 3 2 3 * mix B 1 3 2 3) + m2 A 0 1 2 3 * (m2 A 2 3 0 1 * mix B 2 3 0 1 + m2 A 2 3 0 2 * mix B 2 3 0 2 + m2 A 2 3 0 3 * mix B 2 3 0 3 + m2 A 2 3 1 2 * mix B 2 3 1 2 + m2 A 2 3 1 3 * mix B 2 3 1 3 + m2 A 2 3 2 3 * mix B 2 3 2 3) := by
    unfold mix
    simp only [m2_mul]
    grind
  rw [key]
  simp only [mix_same, mix_same2, mix_same3, mix_same4, h1, h2, h3, h4, h5, h6]
  grind
set_option maxRecDepth 100000 in
theorem detL_tr (n : Nat) (h1 : 0 < n) (h4 : n ≤ 4) (A : Nat → Nat → Int) : detL n (fun i k => A k i) = detL n A := by
  have : n = 1 ∨ n = 2 ∨ n = 3 ∨ n = 4 := by omega
  rcases this with rfl | rfl | rfl | rfl <;> simp [dotN, detL, sgF, woF] <;> grind
theorem detL_mul (n : Nat) (h1 : 0 < n) (h4 : n ≤ 4) (A B : Nat → Nat → Int) : detL n (mulF n A B) = detL n A * detL n B := by
  have : n = 1 ∨ n = 2 ∨ n = 3 ∨ n = 4 := by omega
  rcases this with rfl | rfl | rfl | rfl
  · exact detL_mul1 A B
  · exact detL_mul2 A B
  · exact detL_mul3 A B
  · exact detL_mul4 A B
end Go.Proofs.Ytlkoiekdafaapaa
