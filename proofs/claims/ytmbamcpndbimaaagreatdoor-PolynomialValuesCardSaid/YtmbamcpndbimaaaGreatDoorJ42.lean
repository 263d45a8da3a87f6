/- Rational numbers in lowest terms, and values of polynomials at them: plain laws. -/
import Derived.Test.YtmbamcpndbimaaaGreatDoorJ37
import Derived.Test.YtmbamcpndbimaaaGreatDoorJ41
namespace Go.Proofs.YtmbamcpndbimaaaGreatDoor
structure Qc (a b : Int) : Prop where
 pos : 0 < b
 cop : Nat.gcd a.natAbs b.natAbs = 1
theorem rlo_qc (n d : Int) : Qc (rloN n d) (rloD n d) := by
 unfold rloN rloD
 by_cases h : d = 0 ∨ n = 0
 ·rw [if_pos h, if_pos h]; exact ⟨by decide, by decide⟩
 ·rw [if_neg h, if_neg h]
  obtain ⟨g1, g2⟩ := gcd_nat_dvd n d
  have hg : 0 < Nat.gcd n.natAbs d.natAbs := Nat.gcd_pos_of_pos_left _ (by omega)
  have key : ∀ a b : Int, a.natAbs = n.natAbs → b.natAbs = d.natAbs → 0 < b → Qc (a / ((Nat.gcd n.natAbs d.natAbs : Nat) : Int)) (b / ((Nat.gcd n.natAbs d.natAbs : Nat) : Int)) := by
   intro a b ha hb hb0
   have ga : ((Nat.gcd n.natAbs d.natAbs : Nat) : Int) ∣ a := Int.ofNat_dvd_left.2 (by rw [ha]; exact Nat.gcd_dvd_left _ _)
   have gb : ((Nat.gcd n.natAbs d.natAbs : Nat) : Int) ∣ b := Int.ofNat_dvd_left.2 (by rw [hb]; exact Nat.gcd_dvd_right _ _)
   refine ⟨?_, ?_⟩
   ·exact Int.ediv_pos_of_pos_of_dvd hb0 (by omega) gb
   ·rw [Int.natAbs_ediv_of_dvd ga, Int.natAbs_ediv_of_dvd gb, ha, hb, Int.natAbs_natCast]
    rw [Nat.gcd_div (Nat.gcd_dvd_left _ _) (Nat.gcd_dvd_right _ _), Nat.div_self hg]
  split
  ·exact key (-n) (-d) (Int.natAbs_neg n) (Int.natAbs_neg d) (by omega)
  ·exact key n d rfl rfl (by omega)
theorem rlo_eq (n : Int) {d : Int} (hd : d ≠ 0) : n * rloD n d = rloN n d * d := by
 unfold rloN rloD
 by_cases h : d = 0 ∨ n = 0
 ·rw [if_pos h, if_pos h]
  rcases h with h | h
  ·exact absurd h hd
  ·rw [h]; simp
 ·rw [if_neg h, if_neg h]
  obtain ⟨⟨a, ha⟩, b, hb⟩ := gcd_nat_dvd n d
  have hg : 0 < Nat.gcd n.natAbs d.natAbs := Nat.gcd_pos_of_pos_left _ (by omega)
  obtain ⟨g, hge⟩ : ∃ g : Int, ((Nat.gcd n.natAbs d.natAbs : Nat) : Int) = g := ⟨_, rfl⟩
  rw [hge] at ha hb ⊢
  have hg0 : g ≠ 0 := by omega
  split
  ·rw [show -d / g = -b from by rw [hb, ← Int.mul_neg, Int.mul_ediv_cancel_left _ hg0], show -n / g = -a from by rw [ha, ← Int.mul_neg, Int.mul_ediv_cancel_left _ hg0], ha, hb]
   grind
  ·rw [show d / g = b from by rw [hb, Int.mul_ediv_cancel_left _ hg0], show n / g = a from by rw [ha, Int.mul_ediv_cancel_left _ hg0], ha, hb]
   grind
theorem Qc.unique {a b c d : Int} (h : Qc a b) (k : Qc c d) (he : a * d = c * b) : a = c ∧ b = d := by
 have h1 : b.natAbs ∣ d.natAbs := by
  have : b.natAbs ∣ d.natAbs * a.natAbs := ⟨c.natAbs, by rw [← Int.natAbs_mul, ← Int.natAbs_mul, Int.mul_comm d, he, Int.mul_comm]⟩
  exact Nat.Coprime.dvd_of_dvd_mul_right (by rw [Nat.coprime_comm]; exact h.cop) this
 have h2 : d.natAbs ∣ b.natAbs := by
  have : d.natAbs ∣ b.natAbs * c.natAbs := ⟨a.natAbs, by rw [← Int.natAbs_mul, ← Int.natAbs_mul, Int.mul_comm b, ← he, Int.mul_comm]⟩
  exact Nat.Coprime.dvd_of_dvd_mul_right (by rw [Nat.coprime_comm]; exact k.cop) this
 have h3 := Nat.dvd_antisymm h1 h2
 have hb := h.pos
 have hd := k.pos
 have h4 : b = d := by omega
 subst h4
 exact ⟨Int.eq_of_mul_eq_mul_right (by omega) he, rfl⟩
theorem rlo_self {a b : Int} (h : Qc a b) : rloN a b = a ∧ rloD a b = b := by
 have hb := h.pos
 have := (rlo_qc a b).unique h (by rw [← rlo_eq a (by omega)])
 exact this
theorem rlo_unique {a b n d : Int} (h : Qc a b) (hd : d ≠ 0) (he : a * d = n * b) : rloN n d = a ∧ rloD n d = b := by
 refine (rlo_qc n d).unique h ?_
 have h1 := rlo_eq n hd
 refine Int.eq_of_mul_eq_mul_right hd ?_
 rw [show rloN n d * b * d = b * (rloN n d * d) from by grind, ← h1, show a * rloD n d * d = rloD n d * (a * d) from by grind, he]
 grind
theorem qc_one (x : Int) : Qc x 1 := ⟨by decide, by simp⟩
theorem rlo_one (x : Int) : rloN x 1 = x ∧ rloD x 1 = 1 := rlo_self (qc_one x)
theorem Qc.bounds {a b h w : Int} (k : Qc a b) (hw : 0 < w) (he : a * w = b * h) : a.natAbs ≤ h.natAbs ∧ b.natAbs ≤ w.natAbs := by
 have hb := k.pos
 have h1 : b.natAbs ∣ w.natAbs := by
  have : b.natAbs ∣ w.natAbs * a.natAbs := ⟨h.natAbs, by rw [← Int.natAbs_mul, ← Int.natAbs_mul, Int.mul_comm w, he]⟩
  exact Nat.Coprime.dvd_of_dvd_mul_right (by rw [Nat.coprime_comm]; exact k.cop) this
 have h2 : a.natAbs ∣ h.natAbs := by
  have : a.natAbs ∣ h.natAbs * b.natAbs := ⟨w.natAbs, by rw [← Int.natAbs_mul, ← Int.natAbs_mul, Int.mul_comm h, he]⟩
  exact Nat.Coprime.dvd_of_dvd_mul_right k.cop this
 refine ⟨?_, Nat.le_of_dvd (by omega) h1⟩
 by_cases h0 : h = 0
 ·rw [h0, Int.mul_zero] at he
  rcases Int.mul_eq_zero.1 he with h3 | h3
  ·rw [h3]; simp
  ·omega
 ·exact Nat.le_of_dvd (by omega) h2
def hsN (F : Nat → Int) (N : Nat) (u v : Int) : Nat → Int
 | 0 => 0
 | t + 1 => F (N - 1 - t) * v ^ (t + 1) + u * hsN F N u v t
theorem hsN_bn {F : Nat → Int} {N : Nat} {u v : Int} {B e : Nat} (hF : ∀ k, Bn (F k) B) (hu : Bn u e) (hv : Bn v e) : ∀ t, Bn (hsN F N u v t) (B + (e + 1) * t)
 | 0 => Bn.zero _
 | t + 1 => by
  rw [hsN]
  have h1 := hsN_bn (N := N) hF hu hv t
  have h2 : Bn (v ^ (t + 1)) (e * (t + 1)) := by
   have key : ∀ n : Nat, Bn (v ^ n) (e * n) := fun n => by
    induction n with
    | zero => rw [Int.pow_zero]; exact Bn.one _
    | succ n ih => rw [Int.pow_succ, Nat.mul_add, Nat.mul_one]; exact ih.mul hv
   exact key (t + 1)
  have h3 : Bn (F (N - 1 - t) * v ^ (t + 1)) (B + (e + 1) * t + e) := ((hF _).mul h2).up (by rw [Nat.mul_add, Nat.add_mul]; omega)
  have h4 : Bn (u * hsN F N u v t) (B + (e + 1) * t + e) := (hu.mul h1).up (by omega)
  exact (h3.add h4).up (by rw [Nat.mul_add (e + 1)]; omega)
theorem pow_pos_ne {v : Int} (hv : 0 < v) (m : Nat) : v ^ m ≠ 0 := Int.pow_ne_zero (by omega)
end Go.Proofs.YtmbamcpndbimaaaGreatDoor
