/- Rational numbers in lowest terms, and values of polynomials at them: plain laws. -/
import Derived.Test.YteoemijgdcpopaaDoorD26
import Derived.Test.YteoemijgdcpopaaDoorD34
namespace Go.Proofs.YteoemijgdcpopaaDoor
/-- A canonical rational number. -/
structure Qc (a b : Int) : Prop where
  pos : 0 < b
  cop : Nat.gcd a.natAbs b.natAbs = 1
theorem rlo_qc (n d : Int) : Qc (rloN n d) (rloD n d) := by
  unfold rloN rloD
  by_cases h : d = 0 ∨ n = 0
  · rw [if_pos h, if_pos h]; exact ⟨by decide, by decide⟩
  · rw [if_neg h, if_neg h]
    obtain ⟨g1, g2⟩ := gcd_nat_dvd n d
    have hg : 0 < Nat.gcd n.natAbs d.natAbs := Nat.gcd_pos_of_pos_left _ (by omega)
    have key : ∀ a b : Int, a.natAbs = n.natAbs → b.natAbs = d.natAbs → 0 < b → Qc (a / ((Nat.gcd n.natAbs d.natAbs : Nat) : Int)) (b / ((Nat.gcd n.natAbs d.natAbs : Nat) : Int)) := by
      intro a b ha hb hb0
      have ga : ((Nat.gcd n.natAbs d.natAbs : Nat) : Int) ∣ a := Int.ofNat_dvd_left.2 (by rw [ha]; exact Nat.gcd_dvd_left _ _)
      have gb : ((Nat.gcd n.natAbs d.natAbs : Nat) : Int) ∣ b := Int.ofNat_dvd_left.2 (by rw [hb]; exact Nat.gcd_dvd_right _ _)
      refine ⟨?_, ?_⟩
      · exact Int.ediv_pos_of_pos_of_dvd hb0 (by omega) gb
      · rw [Int.natAbs_ediv_of_dvd ga, Int.natAbs_ediv_of_dvd gb, ha, hb, Int.natAbs_natCast]
        rw [Nat.gcd_div (Nat.gcd_dvd_left _ _) (Nat.gcd_dvd_right _ _), Nat.div_self hg]
    split
    · exact key (-n) (-d) (Int.natAbs_neg n) (Int.natAbs_neg d) (by omega)
    · exact key n d rfl rfl (by omega)
theorem rlo_eq (n : Int) {d : Int} (hd : d ≠ 0) : n * rloD n d = rloN n d * d := by
  unfold rloN rloD
  by_cases h : d = 0 ∨ n = 0
  · rw [if_pos h, if_pos h]
    rcases h with h | h
    · exact absurd h hd
    · rw [h]; simp
  · rw [if_neg h, if_neg h]
    obtain ⟨⟨a, ha⟩, b, hb⟩ := gcd_nat_dvd n d
    have hg : 0 < Nat.gcd n.natAbs d.natAbs := Nat.gcd_pos_of_pos_left _ (by omega)
    obtain ⟨g, hge⟩ : ∃ g : Int, ((Nat.gcd n.natAbs d.natAbs : Nat) : Int) = g := ⟨_, rfl⟩
    rw [hge] at ha hb ⊢
    have hg0 : g ≠ 0 := by omega
    split
    · rw [show -d / g = -b from by rw [hb, ← Int.mul_neg, Int.mul_ediv_cancel_left _ hg0], show -n / g = -a from by rw [ha, ← Int.mul_neg, Int.mul_ediv_cancel_left _ hg0], ha, hb]
      grind
    · rw [show d / g = b from by rw [hb, Int.mul_ediv_cancel_left _ hg0], show n / g = a from by rw [ha, Int.mul_ediv_cancel_left _ hg0], ha, hb]
      grind
theorem Qc.unique {a b c d : Int} (h : Qc a b) (k : Qc c d) (he : a * d = c * b) : a = c ∧ b = d := by
  have h1 : b.natAbs ∣ d.natAbs := by
    have : b.natAbs ∣ d.natAbs * a.natAbs := ⟨c.natAbs, by rw [← Int.natAbs_mul, ← Int.natAbs_mul, Int.mul_comm d, he, Int.mul_comm]⟩
    exact Nat.Coprime.dvd_of_dvd_mul_right (by rw [Nat.coprime_comm]; exact h.cop) this
  have h2 : d.natAbs ∣ b.natAbs := by
    have : d.natAbs ∣ b.natAbs * c.natAbs := ⟨a.natAbs, by rw [← Int.natAbs_mul, ← Int.natAbs_mul, Int.mul_comm b, ← he, Int.mul_comm]⟩
    exact Nat.Coprime.dvd_of_dvd_mul_right (by rw [Nat.coprime_comm]; exact k.cop) this
  have h3 := Nat.dvd_antisymm h1 h2
  have hb := h.pos
  have hd := k.pos
  have h4 : b = d := by omega
  subst h4
  exact ⟨Int.eq_of_mul_eq_mul_right (by omega) he, rfl⟩
theorem rlo_self {a b : Int} (h : Qc a b) : rloN a b = a ∧ rloD a b = b := by
  have hb := h.pos
  have := (rlo_qc a b).unique h (by rw [← rlo_eq a (by omega)])
  exact this
theorem rlo_unique {a b n d : Int} (h : Qc a b) (hd : d ≠ 0) (he : a * d = n * b) : rloN n d = a ∧ rloD n d = b := by
  refine (rlo_qc n d).unique h ?_
  have h1 := rlo_eq n hd
  refine Int.eq_of_mul_eq_mul_right hd ?_
  rw [show rloN n d * b * d = b * (rloN n d * d) from by grind, ← h1, show a * rloD n d * d = rloD n d * (a * d) from by grind, he]
  grind
theorem qc_one (x : Int) : Qc x 1 := ⟨by decide, by simp⟩
theorem rlo_one (x : Int) : rloN x 1 = x ∧ rloD x 1 = 1 := rlo_self (qc_one x)
/-- Numerator and denominator of a number that is known as h / w. -/
theorem Qc.bounds {a b h w : Int} (k : Qc a b) (hw : 0 < w) (he : a * w = b * h) : a.natAbs ≤ h.natAbs ∧ b.natAbs ≤ w.natAbs := by
  have hb := k.pos
  have h1 : b.natAbs ∣ w.natAbs := by
    have : b.natAbs ∣ w.natAbs * a.natAbs := ⟨h.natAbs, by rw [← Int.natAbs_mul, ← Int.natAbs_mul, Int.mul_comm w, he]⟩
    exact Nat.Coprime.dvd_of_dvd_mul_right (by rw [Nat.coprime_comm]; exact k.cop) this
  have h2 : a.natAbs ∣ h.natAbs := by
    have : a.natAbs ∣ h.natAbs * b.natAbs := ⟨w.natAbs, by rw [← Int.natAbs_mul, ← Int.natAbs_mul, Int.mul_comm h, he]⟩
    exact Nat.Coprime.dvd_of_dvd_mul_right k.cop this
  refine ⟨?_, Nat.le_of_dvd (by omega) h1⟩
  by_cases h0 : h = 0
  · rw [h0, Int.mul_zero] at he
    rcases Int.mul_eq_zero.1 he with h3 | h3
    · rw [h3]; simp
    · omega
  · exact Nat.le_of_dvd (by omega) h2
/-- Horner's scheme for numerators: the denominators are powers of v. -/
def hsN (F : Nat → Int) (N : Nat) (u v : Int) : Nat → Int
  | 0 => 0
  | t + 1 => F (N - 1 - t) * v ^ (t + 1) + u * hsN F N u v t
theorem hsN_bn {F : Nat → Int} {N : Nat} {u v : Int} {B e : Nat} (hF : ∀ k, Bn (F k) B) (hu : Bn u e) (hv : Bn v e) : ∀ t, Bn (hsN F N u v t) (B + (e + 1) * t)
  | 0 => Bn.zero _
  | t + 1 => by
    rw [hsN]
    have h1 := hsN_bn (N := N) hF hu hv t
    have h2 : Bn (v ^ (t + 1)) (e * (t + 1)) := by
      have key : ∀ n : Nat, Bn (v ^ n) (e * n) := fun n => by
        induction n with
        | zero => rw [Int.pow_zero]; exact Bn.one _
        | succ n ih => rw [Int.pow_succ, Nat.mul_add, Nat.mul_one]; exact ih.mul hv
      exact key (t + 1)
    have h3 : Bn (F (N - 1 - t) * v ^ (t + 1)) (B + (e + 1) * t + e) := ((hF _).mul h2).up (by rw [Nat.mul_add, Nat.add_mul]; omega)
    have h4 : Bn (u * hsN F N u v t) (B + (e + 1) * t + e) := (hu.mul h1).up (by omega)
    exact (h3.add h4).up (by rw [Nat.mul_add (e + 1)]; omega)
theorem hsN_ypol (F : Nat → Int) (N : Nat) (u v : Int) : ∀ t, t ≤ N → hsN F N u v t = ypol (fun j => F (N - t + j) * v ^ (t - j)) t u
  | 0, _ => rfl
  | t + 1, h => by
    rw [hsN, hsN_ypol F N u v t (by omega), ypol_succ]
    rw [show F (N - (t + 1) + 0) * v ^ (t + 1 - 0) = F (N - 1 - t) * v ^ (t + 1) from by rw [show N - (t + 1) + 0 = N - 1 - t from by omega]; rfl]
    rw [ypol_congr (c := fun j => F (N - (t + 1) + (j + 1)) * v ^ (t + 1 - (j + 1))) (d := fun j => F (N - t + j) * v ^ (t - j)) u fun j hj => by
      show F (N - (t + 1) + (j + 1)) * v ^ (t + 1 - (j + 1)) = F (N - t + j) * v ^ (t - j)
      rw [show N - (t + 1) + (j + 1) = N - t + j from by omega, show t + 1 - (j + 1) = t - j from by omega]]
/-- E is e made homogeneous: E (v x) = v^m e x. -/
structure Hom (e : Int → Int) (v : Int) (m : Nat) (E : Int → Int) : Prop where
  pf : PF E
  ev : ∀ x, E (v * x) = v ^ m * e x
theorem hom_unique {v : Int} (hv : v ≠ 0) {E E' : Int → Int} (h : PF E) (k : PF E') (he : ∀ x, E (v * x) = E' (v * x)) (x : Int) : E x = E' x := by
  obtain ⟨N, F, i⟩ := h.sub k
  have hz : ∀ j, j < N → F j * v ^ j = 0 := ypol_zero (c := fun j => F j * v ^ j) fun x _ => by
    have h1 := i.ev (v * x)
    rw [he x, Int.sub_self] at h1
    rw [← h1]
    refine dotN_congr fun j _ => ?_
    rw [Int.mul_pow]; grind
  have hF : ∀ j, F j = 0 := fun j => by
    by_cases hj : j < N
    · rcases Int.mul_eq_zero.1 (hz j hj) with h1 | h1
      · exact h1
      · exact absurd h1 (Int.pow_ne_zero hv)
    · exact i.out j (by omega)
  have h2 := i.ev x
  rw [ypol_congr (d := fun _ => 0) x fun j _ => hF j, ypol_nought] at h2
  omega
theorem IsP.hom {N : Nat} {F : Nat → Int} {e : Int → Int} (h : IsP N F e) (v : Int) : Hom e v N (fun y => ypol (fun j => F j * v ^ (N - j)) N y) := by
  refine ⟨PF.of _ _, fun x => ?_⟩
  rw [← h.ev x, ← ypol_smul]
  refine dotN_congr fun j hj => ?_
  rw [Int.mul_pow]
  show F j * v ^ (N - j) * (v ^ j * x ^ j) = v ^ N * F j * x ^ j
  rw [show v ^ N = v ^ (N - j) * v ^ j from by rw [← Int.pow_add]; congr 1; omega]
  grind
/-- P / Q is the value of e at u / v. -/
def ValP (e : Int → Int) (u v P Q : Int) : Prop := ∃ m E, Hom e v m E ∧ P * v ^ m = Q * E u
theorem ValP.of_hs {N : Nat} {F : Nat → Int} {e : Int → Int} (h : IsP N F e) {u v P Q : Int} (he : P * v ^ N = Q * hsN F N u v N) : ValP e u v P Q := by
  refine ⟨N, _, h.hom v, ?_⟩
  rw [he, hsN_ypol F N u v N (Nat.le_refl _)]
  rw [ypol_congr (d := fun j => F j * v ^ (N - j)) u fun j _ => by rw [Nat.sub_self, Nat.zero_add]]
theorem ValP.congr {e e' : Int → Int} {u v P Q : Int} (h : ValP e u v P Q) (he : ∀ x, e x = e' x) : ValP e' u v P Q := by
  rw [show e' = e from funext fun x => (he x).symm]; exact h
theorem pow_pos_ne {v : Int} (hv : 0 < v) (m : Nat) : v ^ m ≠ 0 := Int.pow_ne_zero (by omega)
/-- Two values of the same polynomial at the same number. -/
theorem ValP.same {e : Int → Int} {u v P Q P' Q' : Int} (hv : 0 < v) (h : ValP e u v P Q) (k : ValP e u v P' Q') : P * Q' = P' * Q := by
  obtain ⟨m, E, hE, h1⟩ := h
  obtain ⟨n, E', kE, h2⟩ := k
  have h3 := hom_unique (show v ≠ 0 by omega) (hE.pf.smul (v ^ n)) (kE.pf.smul (v ^ m)) (fun x => by
    show v ^ n * E (v * x) = v ^ m * E' (v * x)
    rw [hE.ev, kE.ev]; grind) u
  refine Int.eq_of_mul_eq_mul_right (mul_ne (pow_pos_ne hv m) (pow_pos_ne hv n)) ?_
  calc P * Q' * (v ^ m * v ^ n) = Q' * v ^ n * (P * v ^ m) := by grind
    _ = Q * Q' * (v ^ n * E u) := by rw [h1]; grind
    _ = Q * v ^ m * (Q' * E' u) := by rw [h3]; grind
    _ = P' * Q * (v ^ m * v ^ n) := by rw [← h2]; grind
theorem ValP.add {e e' : Int → Int} {u v P Q P' Q' : Int} (h : ValP e u v P Q) (k : ValP e' u v P' Q') : ValP (fun x => e x + e' x) u v (P * Q' + P' * Q) (Q * Q') := by
  obtain ⟨m, E, hE, h1⟩ := h
  obtain ⟨n, E', kE, h2⟩ := k
  refine ⟨m + n, fun y => v ^ n * E y + v ^ m * E' y, ⟨(hE.pf.smul _).add (kE.pf.smul _), fun x => ?_⟩, ?_⟩
  · show v ^ n * E (v * x) + v ^ m * E' (v * x) = _
    rw [hE.ev, kE.ev, Int.pow_add]; grind
  · rw [Int.pow_add]
    calc (P * Q' + P' * Q) * (v ^ m * v ^ n) = Q' * v ^ n * (P * v ^ m) + Q * v ^ m * (P' * v ^ n) := by grind
      _ = Q * Q' * (v ^ n * E u + v ^ m * E' u) := by rw [h1, h2]; grind
theorem ValP.mul {e e' : Int → Int} {u v P Q P' Q' : Int} (h : ValP e u v P Q) (k : ValP e' u v P' Q') : ValP (fun x => e x * e' x) u v (P * P') (Q * Q') := by
  obtain ⟨m, E, hE, h1⟩ := h
  obtain ⟨n, E', kE, h2⟩ := k
  refine ⟨m + n, fun y => E y * E' y, ⟨hE.pf.mul kE.pf, fun x => ?_⟩, ?_⟩
  · show E (v * x) * E' (v * x) = _
    rw [hE.ev, kE.ev, Int.pow_add]; grind
  · rw [Int.pow_add]
    calc P * P' * (v ^ m * v ^ n) = (P * v ^ m) * (P' * v ^ n) := by grind
      _ = Q * Q' * (E u * E' u) := by rw [h1, h2]; grind
theorem ValP.rlo {e : Int → Int} {u v P Q n d : Int} (hv : 0 < v) (hq : Qc P Q) (h : ValP e u v P Q) (hd : d ≠ 0) (k : ValP e u v n d) : rloN n d = P ∧ rloD n d = Q := rlo_unique hq hd (h.same hv k)
/-- Pseudo-division of polynomial functions. -/
theorem pdiv_fn {N M : Nat} {F G : Nat → Int} {e g : Int → Int} (iF : IsP N F e) (iG : IsP M G g) (hM : 0 < M) : ∃ c q r K R, c ≠ 0 ∧ PF q ∧ IsP K R r ∧ K < M ∧ ∀ x, c * e x = q x * g x + r x := by
  have ht := iG.top hM
  have h := fun x => dv_ev (f := F) (g := G) (n := N) hM x
  refine ⟨G (M - 1) ^ (N + 1 - M), _, _, dvLR F G N M, ctN (dvR F G N M) (dvLR F G N M), Int.pow_ne_zero ht, PF.of (dvQ F G N M) (dvLQ F G N M), IsP.mk' _ _ ?_, ?_, fun x => ?_⟩
  · intro h1
    by_cases hnm : N < M
    · unfold dvLR dvR at *
      rw [if_pos hnm] at h1
      rw [if_pos hnm, if_pos hnm]
      exact iF.top h1
    · exact dvR_top hnm h1
  · by_cases hnm : N < M
    · unfold dvLR; rw [if_pos hnm]; exact hnm
    · exact dvLR_lt hM hnm
  · have h1 := h x
    rw [iF.ev x, iG.ev x] at h1
    exact h1
/-- The linear polynomial v x - u is prime. -/
theorem lin_prime (u : Int) {v : Int} (hv : v ≠ 0) : Pr (fun x => v * x - u) := by
  have hi : IsP 2 (fun j => if j = 0 then -u else if j = 1 then v else 0) (fun x => v * x - u) := ⟨fun _ => by simpa using hv, fun k hk => by
    show (if k = 0 then -u else if k = 1 then v else 0) = 0
    rw [if_neg (by omega), if_neg (by omega)], fun x => by
    simp [ypol, dotN, Int.pow_succ]; omega⟩
  refine ⟨hi.pf, ⟨2, _, hi, Nat.le_refl _⟩, fun w hw => ?_⟩
  obtain ⟨N, F, iw⟩ := hw
  obtain ⟨c, q, r, K, R, hc, hq, ir, hK, he⟩ := pdiv_fn iw hi (by decide)
  rcases Nat.eq_zero_or_pos K with h0 | h0
  · left
    exact ⟨c, q, hc, hq, fun x => by rw [he x, ir.nil h0 x, Int.add_zero]⟩
  · right
    obtain rfl : K = 1 := by omega
    refine ⟨R 0, fun _ => c, fun x => -1 * q x, ir.top (by decide), PF.const _, hq.smul _, fun x => ?_⟩
    have h1 := he x
    have h2 : r x = R 0 := by rw [← ir.ev x]; simp [ypol, dotN]
    rw [h2] at h1
    show c * w x + -1 * q x * (v * x - u) = R 0
    rw [h1]; grind
/-- A value is 0 exactly if the linear polynomial divides. -/
theorem ValP.root {e : Int → Int} (pe : PF e) {u v P Q : Int} (hv : 0 < v) (hQ : Q ≠ 0) (h : ValP e u v P Q) : P = 0 ↔ Dvd (fun x => v * x - u) e := by
  obtain ⟨m, E, hE, h1⟩ := h
  have hE0 : P = 0 ↔ E u = 0 := by
    constructor
    · intro h0
      rw [h0, Int.zero_mul] at h1
      rcases Int.mul_eq_zero.1 h1.symm with h2 | h2
      · exact absurd h2 hQ
      · exact h2
    · intro h0
      rw [h0, Int.mul_zero] at h1
      rcases Int.mul_eq_zero.1 h1 with h2 | h2
      · exact h2
      · exact absurd h2 (pow_pos_ne hv m)
  rw [hE0]
  constructor
  · intro h0
    have h3 : Dvd (fun y => 1 * y - u) E := by
      rcases (lin_prime u (show (1 : Int) ≠ 0 by decide)).alt E hE.pf with h4 | ⟨c, a, b, hc, ha, hb, h5⟩
      · exact h4
      · have := h5 u
        rw [h0] at this
        simp at this
        exact absurd this.symm hc
    obtain ⟨k, s, hk, ⟨K, S, iS⟩, h6⟩ := h3
    refine ⟨k * v ^ m, fun x => s (v * x), mul_ne hk (pow_pos_ne hv m), (PF.of (fun j => S j * v ^ j) K).congr fun x => ?_, fun x => ?_⟩
    · rw [← iS.ev (v * x)]
      refine dotN_congr fun j _ => ?_
      rw [Int.mul_pow]; grind
    · have h7 := h6 (v * x)
      rw [hE.ev] at h7
      rw [Int.mul_assoc, h7]; grind
  · rintro ⟨k, s, hk, ⟨K, S, iS⟩, h2⟩
    have h3 : k * v ^ K * E u = v ^ m * (ypol (fun j => S j * v ^ (K - j)) K u * (u - u)) := hom_unique (v := v) (by omega) (E := fun y => k * v ^ K * E y) (E' := fun y => v ^ m * (ypol (fun j => S j * v ^ (K - j)) K y * (y - u))) (hE.pf.smul _) (((iS.hom v).pf.mul (PF.x.sub (PF.const u))).smul _) (fun x => by
      show k * v ^ K * E (v * x) = v ^ m * (ypol (fun j => S j * v ^ (K - j)) K (v * x) * (v * x - u))
      rw [hE.ev, (iS.hom v).ev x]
      have := h2 x
      calc k * v ^ K * (v ^ m * e x) = v ^ K * v ^ m * (k * e x) := by grind
        _ = _ := by rw [this]; grind) u
    rw [Int.sub_self, Int.mul_zero, Int.mul_zero] at h3
    rcases Int.mul_eq_zero.1 h3 with h4 | h4
    · exact absurd h4 (mul_ne hk (pow_pos_ne hv K))
    · exact h4
end Go.Proofs.YteoemijgdcpopaaDoor
