/- Derivatives and square-free polynomials by their values: plain laws. -/
import Derived.Test.YteoemijgdcpopaaDoorD33
namespace Go.Proofs.YteoemijgdcpopaaDoor
/-- d is the derivative of e. -/
def Der (e d : Int → Int) : Prop := ∃ Q : Int → Int → Int, ∀ x h, e (x + h) = e x + h * d x + h * h * Q x h
theorem Der.unique {e d d' : Int → Int} (h : Der e d) (k : Der e d') (x : Int) : d x = d' x := by
  obtain ⟨Q, hQ⟩ := h
  obtain ⟨R, hR⟩ := k
  obtain ⟨t, ht⟩ : ∃ t : Int, d x - d' x = t := ⟨_, rfl⟩
  have h1 := hQ x (t.natAbs + 1)
  have h2 := hR x (t.natAbs + 1)
  have h3 : ((t.natAbs : Int) + 1) * (t - ((t.natAbs : Int) + 1) * (R x (t.natAbs + 1) - Q x (t.natAbs + 1))) = 0 := by rw [← ht]; grind
  have h4 : t = ((t.natAbs : Int) + 1) * (R x (t.natAbs + 1) - Q x (t.natAbs + 1)) := by
    rcases Int.mul_eq_zero.1 h3 with h5 | h5
    · omega
    · omega
  have h5 : t = 0 := Int.eq_zero_of_dvd_of_natAbs_lt_natAbs (d := (t.natAbs : Int) + 1) ⟨_, h4⟩ (by omega)
  omega
theorem Der.congr {e d e' d' : Int → Int} (h : Der e d) (he : ∀ x, e x = e' x) (hd : ∀ x, d x = d' x) : Der e' d' := by
  rw [show e' = e from funext fun x => (he x).symm, show d' = d from funext fun x => (hd x).symm]; exact h
theorem Der.add {e d e' d' : Int → Int} (h : Der e d) (k : Der e' d') : Der (fun x => e x + e' x) (fun x => d x + d' x) := by
  obtain ⟨Q, hQ⟩ := h
  obtain ⟨R, hR⟩ := k
  refine ⟨fun x h => Q x h + R x h, fun x h => ?_⟩
  show e (x + h) + e' (x + h) = _
  rw [hQ, hR]; grind
theorem Der.mul {e d e' d' : Int → Int} (h : Der e d) (k : Der e' d') : Der (fun x => e x * e' x) (fun x => d x * e' x + e x * d' x) := by
  obtain ⟨Q, hQ⟩ := h
  obtain ⟨R, hR⟩ := k
  refine ⟨fun x h => Q x h * e' x + e x * R x h + d x * d' x + h * (d x * R x h + Q x h * d' x + h * (Q x h * R x h)), fun x h => ?_⟩
  show e (x + h) * e' (x + h) = _
  rw [hQ, hR]; grind
theorem Der.const (c : Int) : Der (fun _ => c) (fun _ => 0) := ⟨fun _ _ => 0, fun x h => by simp⟩
theorem Der.x : Der (fun x => x) (fun _ => 1) := ⟨fun _ _ => 0, fun x h => by simp⟩
theorem Der.smul (c : Int) {e d : Int → Int} (h : Der e d) : Der (fun x => c * e x) (fun x => c * d x) := ((Der.const c).mul h).congr (fun _ => rfl) (fun x => by omega)
theorem der_ypol : ∀ (m : Nat) (c : Nat → Int), Der (fun x => ypol c m x) (fun x => ypol (deC c) (m - 1) x)
  | 0, c => (Der.const 0).congr (fun x => (ypol_nil c x).symm) (fun x => (ypol_nil (deC c) x).symm)
  | m + 1, c => by
    have ih := der_ypol m fun j => c (j + 1)
    refine ((Der.const (c 0)).add (Der.x.mul ih)).congr (fun x => (ypol_succ c m x).symm) fun x => ?_
    show 0 + (1 * ypol (fun j => c (j + 1)) m x + x * ypol (deC fun j => c (j + 1)) (m - 1) x) = ypol (deC c) m x
    cases m with
    | zero => rw [ypol_nil, ypol_nil, ypol_nil]; omega
    | succ m =>
      rw [ypol_succ (fun j => c (j + 1)) m x, ypol_succ (deC c) m x, Nat.add_sub_cancel]
      have e : ypol (fun j => deC c (j + 1)) m x = ypol (fun j => c (j + 1 + 1)) m x + ypol (deC fun j => c (j + 1)) m x := by
        rw [← ypol_add]
        refine ypol_congr x fun k _ => ?_
        show c (k + 1 + 1) * (((k + 1 : Nat) : Int) + 1) = c (k + 1 + 1) + c (k + 1 + 1) * ((k : Int) + 1)
        rw [Int.natCast_add]
        grind
      rw [e, show deC c 0 = c (0 + 1) from by unfold deC; simp]
      grind
theorem IsP.der {N : Nat} {F : Nat → Int} {e : Int → Int} (h : IsP N F e) : Der e (fun x => ypol (deC F) (N - 1) x) := (der_ypol N F).congr h.ev fun _ => rfl
theorem IsP.derP {N : Nat} {F : Nat → Int} {e : Int → Int} (h : IsP N F e) : IsP (N - 1) (ctN (deC F) (N - 1)) (fun x => ypol (deC F) (N - 1) x) := IsP.mk' _ _ (deC_top h.top)
theorem PF.der {e : Int → Int} (h : PF e) : ∃ d, PF d ∧ Der e d := by
  obtain ⟨N, F, h⟩ := h
  exact ⟨_, h.derP.pf, h.der⟩
/-- h divides a, up to a factor. -/
def Dvd (h a : Int → Int) : Prop := ∃ k s, k ≠ 0 ∧ PF s ∧ ∀ x, k * a x = s x * h x
theorem Dvd.trans {a b c : Int → Int} (h : Dvd a b) (k : Dvd b c) : Dvd a c := by
  obtain ⟨k1, s1, h1, p1, e1⟩ := h
  obtain ⟨k2, s2, h2, p2, e2⟩ := k
  refine ⟨k1 * k2, fun x => s2 x * s1 x, mul_ne h1 h2, p2.mul p1, fun x => ?_⟩
  have := e1 x; have := e2 x
  grind
theorem Dvd.len {N M : Nat} {H A : Nat → Int} {h a : Int → Int} (hd : Dvd h a) (iH : IsP N H h) (iA : IsP M A a) (hM : 0 < M) : 0 < N ∧ N ≤ M := by
  obtain ⟨k, s, hk, ⟨K, S, iS⟩, e⟩ := hd
  have l := iS.len_mul iH (iA.smul hk) e
  rcases Nat.eq_zero_or_pos K with h0 | h0
  · have := l.1 (.inl h0); omega
  · rcases Nat.eq_zero_or_pos N with h1 | h1
    · have := l.1 (.inr h1); omega
    · have := l.2 h0 h1; omega
/-- Divisors of the same degree. -/
theorem Dvd.back {N : Nat} {H A : Nat → Int} {h a : Int → Int} (hd : Dvd h a) (iH : IsP N H h) (iA : IsP N A a) (hN : 0 < N) : ∃ k c, k ≠ 0 ∧ c ≠ 0 ∧ ∀ x, k * a x = c * h x := by
  obtain ⟨k, s, hk, ⟨K, S, iS⟩, e⟩ := hd
  have l := iS.len_mul iH (iA.smul hk) e
  have hK : 0 < K := by
    rcases Nat.eq_zero_or_pos K with h0 | h0
    · have := l.1 (.inl h0); omega
    · exact h0
  have hl := l.2 hK hN
  have hS : S 0 ≠ 0 := by have := iS.top hK; rwa [show K - 1 = 0 from by omega] at this
  refine ⟨k, S 0, hk, hS, fun x => ?_⟩
  rw [e x, ← iS.ev x, show K = 1 from by omega]
  simp [ypol, dotN]
/-- A prime polynomial. -/
structure Pr (h : Int → Int) : Prop where
  pf : PF h
  nc : ∃ N H, IsP N H h ∧ 2 ≤ N
  alt : ∀ u, PF u → Dvd h u ∨ ∃ c a b, c ≠ 0 ∧ PF a ∧ PF b ∧ ∀ x, a x * u x + b x * h x = c
theorem Pr.mul {h u v : Int → Int} (hp : Pr h) (hu : PF u) (hv : PF v) (hd : Dvd h (fun x => u x * v x)) : Dvd h u ∨ Dvd h v := by
  rcases hp.alt u hu with h1 | ⟨c, a, b, hc, ha, hb, e⟩
  · exact .inl h1
  · right
    obtain ⟨k, s, hk, hs, e2⟩ := hd
    refine ⟨k * c, fun x => a x * s x + k * (b x * v x), mul_ne hk hc, (ha.mul hs).add ((hb.mul hv).smul k), fun x => ?_⟩
    have h1 := e x; have h2 := e2 x
    rw [show k * c * v x = k * (c * v x) from by rw [Int.mul_assoc], ← h1]
    grind
theorem Pr.ne {h : Int → Int} (hp : Pr h) : ¬ ∀ x, h x = 0 := fun h0 => by
  obtain ⟨N, H, i, hN⟩ := hp.nc
  have := i.zero_iff.2 h0; omega
theorem Pr.der {h d : Int → Int} (hp : Pr h) (hd : Der h d) : ¬ Dvd h d := fun hh => by
  obtain ⟨N, H, i, hN⟩ := hp.nc
  have e := i.der.unique hd
  have := hh.len i (i.derP.congr e) (by omega)
  omega
theorem PF.pow {e : Int → Int} (h : PF e) : ∀ n : Nat, PF (fun x => e x ^ n)
  | 0 => (PF.const 1).congr fun x => by simp
  | n + 1 => ((h.pow n).mul h).congr fun x => (Int.pow_succ ..).symm
theorem pow_ne {e : Int → Int} (h : PF e) (h0 : ¬ ∀ x, e x = 0) : ∀ n : Nat, ¬ ∀ x, e x ^ n = 0
  | 0, h1 => by simpa using h1 0
  | n + 1, h1 => pow_ne h h0 n fun x => by
    refine PF.cancel (d' := fun _ => 0) h (h.pow n) (PF.const 0) h0 (fun x => ?_) x
    rw [Int.mul_comm, ← Int.pow_succ, h1 x]; simp
theorem der_pow {e d : Int → Int} (h : Der e d) : ∀ n : Nat, Der (fun x => e x ^ (n + 1)) (fun x => e x ^ n * (((n : Int) + 1) * d x))
  | 0 => h.congr (fun x => by rw [Int.pow_succ, Int.pow_zero, Int.one_mul]) (fun x => by simp)
  | n + 1 => ((der_pow h n).mul h).congr (fun x => (Int.pow_succ ..).symm) fun x => by
    rw [Int.pow_succ, Int.natCast_add]; grind
/-- How often a prime divides. -/
theorem Pr.split {h : Int → Int} (hp : Pr h) : ∀ (N : Nat) (F : Nat → Int) (p : Int → Int), IsP N F p → 0 < N → ∃ (e : Nat) (m : Int → Int) (k : Int), k ≠ 0 ∧ PF m ∧ ¬ Dvd h m ∧ ∀ x, k * p x = h x ^ e * m x := by
  intro N
  induction N using Nat.strongRecOn with
  | ind N ih =>
    intro F p i hN
    by_cases hd : Dvd h p
    · obtain ⟨k, s, hk, ⟨K, S, iS⟩, e⟩ := id hd
      obtain ⟨M, H, iH, hM⟩ := hp.nc
      have l := iS.len_mul iH (i.smul hk) e
      have hK : 0 < K := by
        rcases Nat.eq_zero_or_pos K with h0 | h0
        · have := l.1 (.inl h0); omega
        · exact h0
      have hl := l.2 hK (by omega)
      obtain ⟨f, m, k2, hk2, hm, hnd, e2⟩ := ih K (by omega) S s iS hK
      refine ⟨f + 1, m, k2 * k, mul_ne hk2 hk, hm, hnd, fun x => ?_⟩
      have h1 := e x; have h2 := e2 x
      rw [Int.mul_assoc, h1, Int.pow_succ]
      grind
    · exact ⟨0, p, 1, by decide, i.pf, hd, fun x => by simp⟩
/-- A prime divides the square-free part of what it divides, once. -/
theorem Pr.once {h p p' g s : Int → Int} (hp : Pr h) (pp : PF p) (p0 : ¬ ∀ x, p x = 0) (hD : Der p p') (pp' : PF p') (hc : CD p p' g) (ps : PF s) (pg : PF g) {a b : Int} (ha : a ≠ 0) (hb : b ≠ 0) (he : ∀ x, a * p x = b * (s x * g x)) (hd : Dvd h p) : Dvd h s ∧ ¬ Dvd (fun x => h x * h x) s := by
  obtain ⟨N, F, iF⟩ := id pp
  have hN : 0 < N := by
    rcases Nat.eq_zero_or_pos N with h0 | h0
    · exact absurd (iF.zero_iff.1 h0) p0
    · exact h0
  obtain ⟨e, m, k, hk, pm, hnd, e1⟩ := hp.split N F p iF hN
  have he0 : e ≠ 0 := by
    rintro rfl
    obtain ⟨k2, s2, hk2, ps2, e2⟩ := hd
    refine hnd ⟨k2, fun x => k * s2 x, hk2, ps2.smul k, fun x => ?_⟩
    have h1 := e1 x; have h2 := e2 x
    rw [Int.pow_zero, Int.one_mul] at h1
    rw [← h1]; grind
  obtain ⟨f, rfl⟩ : ∃ f, e = f + 1 := ⟨e - 1, by omega⟩
  obtain ⟨h', ph', dh⟩ := hp.pf.der
  obtain ⟨m', pm', dm⟩ := pm.der
  have hpe := hp.pf.pow f
  have hpe0 := pow_ne hp.pf hp.ne f
  -- the derivative
  have e2 : ∀ x, k * p' x = h x ^ f * (((f : Int) + 1) * (h' x * m x) + h x * m' x) := fun x => by
    have h1 := ((hD.smul k).congr e1 fun _ => rfl).unique ((der_pow dh f).mul dm) x
    rw [h1, Int.pow_succ]; grind
  obtain ⟨t, ht⟩ : ∃ t : Int → Int, (fun x => ((f : Int) + 1) * (h' x * m x) + h x * m' x) = t := ⟨_, rfl⟩
  have ht' : ∀ x, ((f : Int) + 1) * (h' x * m x) + h x * m' x = t x := fun x => congrFun ht x
  have pt : PF t := by rw [← ht]; exact ((ph'.mul pm).smul _).add (hp.pf.mul pm')
  have hnt : ¬ Dvd h t := fun ⟨k2, s2, hk2, ps2, e3⟩ => by
    have : Dvd h (fun x => h' x * m x) := ⟨k2 * ((f : Int) + 1), fun x => s2 x - k2 * m' x, mul_ne hk2 (by omega), ps2.sub (pm'.smul k2), fun x => by
      have h1 := e3 x; have h2 := ht' x
      rw [← h2] at h1; grind⟩
    rcases hp.mul ph' pm this with h1 | h1
    · exact hp.der dh h1
    · exact hnd h1
  obtain ⟨_, ⟨kr, sr, hkr, psr, e4⟩, kb, u, v, hkb, pu, pv, e5⟩ := hc
  obtain ⟨T, hT⟩ : ∃ T : Int → Int, (fun x => u x * (h x * m x) + v x * t x) = T := ⟨_, rfl⟩
  have hT' : ∀ x, u x * (h x * m x) + v x * t x = T x := fun x => congrFun hT x
  have pT : PF T := by rw [← hT]; exact (pu.mul (hp.pf.mul pm)).add (pv.mul pt)
  have e6 : ∀ x, kb * k * g x = h x ^ f * T x := fun x => by
    have h1 := e1 x; have h2 := e2 x; have h3 := e5 x
    rw [ht' x] at h2
    rw [← hT' x, show kb * k * g x = k * (kb * g x) from by grind, h3, show k * (u x * p x + v x * p' x) = u x * (k * p x) + v x * (k * p' x) from by grind, h1, h2, Int.pow_succ]
    grind
  have hnT : ¬ Dvd h T := fun ⟨k2, s2, hk2, ps2, e3⟩ => by
    refine hnt ⟨k2 * (kb * kr), fun x => sr x * s2 x, mul_ne hk2 (mul_ne hkb hkr), psr.mul ps2, fun x => ?_⟩
    refine PF.cancel (d := fun x => k2 * (kb * kr) * t x) (d' := fun x => sr x * s2 x * h x) hpe (pt.smul _) ((psr.mul ps2).mul hp.pf) hpe0 (fun x => ?_) x
    have h1 := e2 x; have h2 := e3 x; have h3 := e4 x; have h4 := e6 x
    rw [ht' x] at h1
    calc h x ^ f * (k2 * (kb * kr) * t x) = k2 * (kb * kr) * (h x ^ f * t x) := by grind
      _ = k2 * (kb * kr) * (k * p' x) := by rw [h1]
      _ = k2 * kb * k * (kr * p' x) := by grind
      _ = k2 * sr x * (kb * k * g x) := by rw [h3]; grind
      _ = sr x * h x ^ f * (k2 * T x) := by rw [h4]; grind
      _ = h x ^ f * (sr x * s2 x * h x) := by rw [h2]; grind
  have e7 : ∀ x, a * kb * k * (h x * m x) = b * k * (s x * T x) := fun x => by
    refine PF.cancel (d := fun x => a * kb * k * (h x * m x)) (d' := fun x => b * k * (s x * T x)) hpe ((hp.pf.mul pm).smul _) ((ps.mul pT).smul _) hpe0 (fun x => ?_) x
    have h1 := e1 x; have h2 := he x; have h3 := e6 x
    rw [Int.pow_succ] at h1
    calc h x ^ f * (a * kb * k * (h x * m x)) = a * kb * k * (h x ^ f * h x * m x) := by grind
      _ = kb * k * k * (a * p x) := by rw [← h1]; grind
      _ = b * k * s x * (kb * k * g x) := by rw [h2]; grind
      _ = h x ^ f * (b * k * (s x * T x)) := by rw [h3]; grind
  refine ⟨?_, fun ⟨k3, s3, hk3, ps3, e8⟩ => hnd ?_⟩
  · have : Dvd h (fun x => s x * T x) := ⟨b * k, fun x => a * kb * k * m x, mul_ne hb hk, pm.smul _, fun x => by rw [← e7 x]; grind⟩
    rcases hp.mul ps pT this with h1 | h1
    · exact h1
    · exact absurd h1 hnT
  · refine ⟨k3 * (a * kb * k), fun x => b * k * (s3 x * T x), mul_ne hk3 (mul_ne (mul_ne ha hkb) hk), (ps3.mul pT).smul _, fun x => ?_⟩
    refine PF.cancel (d := fun x => k3 * (a * kb * k) * m x) (d' := fun x => b * k * (s3 x * T x) * h x) hp.pf (pm.smul _) (((ps3.mul pT).smul _).mul hp.pf) hp.ne (fun x => ?_) x
    have h1 := e7 x; have h2 := e8 x
    calc h x * (k3 * (a * kb * k) * m x) = k3 * (a * kb * k * (h x * m x)) := by grind
      _ = b * k * T x * (k3 * s x) := by rw [h1]; grind
      _ = h x * (b * k * (s3 x * T x) * h x) := by rw [h2]; grind
/-- A greatest common divisor exists. -/
theorem PF.gcd {a b : Int → Int} (ha : PF a) (hb : PF b) (h0 : ¬ ((∀ x, a x = 0) ∧ ∀ x, b x = 0)) : ∃ N H g, IsP N H g ∧ Prim N H ∧ CD a b g := by
  obtain ⟨n, f, i⟩ := ha
  obtain ⟨m, g, j⟩ := hb
  obtain ⟨h1, h2⟩ := gcR_cd i.top j.top (by
    apply Classical.byContradiction
    intro h
    exact h0 ⟨i.zero_iff.1 (by omega), j.zero_iff.1 (by omega)⟩)
  refine ⟨_, _, _, IsP.mk' _ _ fun h => ?_, h1.ct, h2.congr i.ev j.ev fun _ => rfl⟩
  have := h1.lead; omega
/-- A divisor that is not constant has a prime divisor. -/
theorem prime_div {N : Nat} {H : Nat → Int} {g : Int → Int} (i : IsP N H g) (hN : 2 ≤ N) : ∃ h, Pr h ∧ Dvd h g := by
  obtain ⟨n, ⟨hn, F, h, ih, hd⟩, hl⟩ := least_nat (P := fun n => 2 ≤ n ∧ ∃ F h, IsP n F h ∧ Dvd h g) N ⟨hN, H, g, i, 1, fun _ => 1, by decide, PF.const 1, fun x => rfl⟩
  refine ⟨h, ⟨ih.pf, ⟨n, F, ih, hn⟩, fun u hu => ?_⟩, hd⟩
  obtain ⟨W, G, w, iw, hp, hc⟩ := hu.gcd ih.pf fun ⟨_, h2⟩ => by have := ih.zero_iff.2 h2; omega
  have hW := hp.pos
  have hwh : Dvd w h := hc.right
  by_cases h1 : W = 1
  · right
    obtain ⟨k, a, b, hk, pa, pb, e⟩ := hc.bez
    refine ⟨k * G 0, a, b, mul_ne hk ?_, pa, pb, fun x => ?_⟩
    · have := hp.lead; rw [h1, Nat.sub_self] at this; omega
    · rw [← e x, ← iw.ev x, h1]; simp [ypol, dotN]
  · left
    have hle := (hwh.len iw ih (by omega)).2
    have hge : ¬ W < n := fun h2 => hl W h2 ⟨by omega, G, w, iw, hwh.trans hd⟩
    have hWn : W = n := by omega
    subst hWn
    obtain ⟨k, c, hk, hc0, e⟩ := hwh.back iw ih (by omega)
    have : Dvd h w := ⟨c, fun _ => k, hc0, PF.const k, fun x => (e x).symm⟩
    exact this.trans hc.left
/-- What Squarefree hands back. -/
structure SqP (p s : Int → Int) (N : Nat) (H : Nat → Int) : Prop where
  isp : IsP N H s
  prim : Prim N H
  rel : ∃ p' g M G a b, Der p p' ∧ PF p' ∧ IsP M G g ∧ Prim M G ∧ CD p p' g ∧ a ≠ 0 ∧ b ≠ 0 ∧ ∀ x, a * p x = b * (s x * g x)
theorem SqP.dvd {p s : Int → Int} {N : Nat} {H : Nat → Int} (h : SqP p s N H) : Dvd s p := by
  obtain ⟨p', g, M, G, a, b, _, _, hg, _, _, ha, _, he⟩ := h.rel
  exact ⟨a, fun x => b * g x, ha, hg.pf.smul b, fun x => by rw [he]; grind⟩
theorem SqP.prime {p s : Int → Int} {N : Nat} {H : Nat → Int} (h : SqP p s N H) (pp : PF p) (p0 : ¬ ∀ x, p x = 0) {q : Int → Int} (hq : Pr q) : Dvd q s ↔ Dvd q p := by
  obtain ⟨p', g, M, G, a, b, hD, pp', hg, _, hc, ha, hb, he⟩ := h.rel
  exact ⟨fun h1 => h1.trans h.dvd, fun h1 => (hq.once pp p0 hD pp' hc h.isp.pf hg.pf ha hb he h1).1⟩
/-- The square-free polynomial has no common divisor with its derivative. -/
theorem SqP.free {p s : Int → Int} {N : Nat} {H : Nat → Int} (h : SqP p s N H) (pp : PF p) (p0 : ¬ ∀ x, p x = 0) {s' w : Int → Int} (hD : Der s s') {W : Nat} {G : Nat → Int} (iw : IsP W G w) (hc : CD s s' w) : W ≤ 1 := by
  obtain ⟨p', g, M, G', a, b, hD1, pp', hg, _, hc1, ha, hb, he⟩ := h.rel
  apply Classical.byContradiction
  intro hW
  obtain ⟨q, hq, hqd⟩ := prime_div iw (by omega)
  have h1 : Dvd q s := hqd.trans hc.left
  have h2 : Dvd q s' := hqd.trans hc.right
  refine (hq.once pp p0 hD1 pp' hc1 h.isp.pf hg.pf ha hb he (h1.trans h.dvd)).2 ?_
  obtain ⟨k, t, hk, pt, e⟩ := h1
  obtain ⟨q', pq', dq⟩ := hq.pf.der
  obtain ⟨t', pt', dt⟩ := pt.der
  have e2 : ∀ x, k * s' x = t' x * q x + t x * q' x := fun x => ((hD.smul k).congr e fun _ => rfl).unique (dt.mul dq) x
  obtain ⟨k2, u, hk2, pu, e3⟩ := h2
  have h3 : Dvd q (fun x => t x * q' x) := ⟨k2, fun x => k * u x - k2 * t' x, hk2, (pu.smul k).sub (pt'.smul k2), fun x => by
    have h4 := e2 x; have h5 := e3 x
    show k2 * (t x * q' x) = (k * u x - k2 * t' x) * q x
    rw [show t x * q' x = k * s' x - t' x * q x from by omega]
    grind⟩
  rcases hq.mul pt pq' h3 with h4 | h4
  · obtain ⟨k3, v, hk3, pv, e4⟩ := h4
    exact ⟨k3 * k, v, mul_ne hk3 hk, pv, fun x => by have h5 := e x; have h6 := e4 x; rw [Int.mul_assoc, h5]; grind⟩
  · exact (hq.der dq h4).elim
theorem prim_one {M : Nat} {G : Nat → Int} {g : Int → Int} (i : IsP M G g) (h : Prim M G) (hM : M ≤ 1) (x : Int) : g x = 1 := by
  have h0 := h.pos
  obtain rfl : M = 1 := by omega
  have h1 := h.one
  have h2 := h.lead
  rw [gcN, gcN, Nat.gcd_zero_left] at h1
  rw [← i.ev x]
  simp only [ypol, dotN, Nat.sub_self] at *
  simp
  omega
/-- The square-free polynomial of a square-free polynomial. -/
theorem SqP.again {p s t : Int → Int} {N M : Nat} {H G : Nat → Int} (h : SqP p s N H) (pp : PF p) (p0 : ¬ ∀ x, p x = 0) (k : SqP s t M G) : ∀ x, t x = s x := by
  obtain ⟨s', g, M', G', a, b, hD, pp', hg, hpg, hc, ha, hb, he⟩ := k.rel
  have h1 := prim_one hg hpg (h.free pp p0 hD hg hc)
  exact k.prim.assoc h.prim k.isp h.isp hb ha fun x => by rw [he x, h1]; grind
theorem CD.assoc {a b g h : Int → Int} (hg : CD a b g) (hh : CD a b h) {N M : Nat} {F G : Nat → Int} (kF : IsP N F g) (kG : IsP M G h) (hN : 0 < N) (hM : 0 < M) : ∃ k c, k ≠ 0 ∧ c ≠ 0 ∧ ∀ x, k * g x = c * h x := by
  have h1 : Dvd h g := hg.dvd hh
  have h2 : Dvd g h := hh.dvd hg
  have l1 := h1.len kG kF hN
  have l2 := h2.len kF kG hM
  obtain rfl : N = M := by omega
  exact h1.back kG kF hN
theorem CD.times {a b g c : Int → Int} (h : CD a b g) (hc : PF c) : CD (fun x => a x * c x) (fun x => b x * c x) (fun x => g x * c x) := by
  obtain ⟨⟨k1, s1, hk1, hs1, e1⟩, ⟨k2, s2, hk2, hs2, e2⟩, k, u, v, hk, hu, hv, e3⟩ := h
  refine ⟨⟨k1, s1, hk1, hs1, fun x => ?_⟩, ⟨k2, s2, hk2, hs2, fun x => ?_⟩, k, u, v, hk, hu, hv, fun x => ?_⟩
  · have := e1 x; grind
  · have := e2 x; grind
  · have := e3 x; grind
/-- The square-free polynomial of a square. -/
theorem SqP.square {p s t : Int → Int} {N M : Nat} {H G : Nat → Int} (h : SqP p s N H) (pp : PF p) (p0 : ¬ ∀ x, p x = 0) (k : SqP (fun x => p x * p x) t M G) : ∀ x, t x = s x := by
  obtain ⟨p', g, M1, G1, a, b, hD, pp', hg, hpg, hc, ha, hb, he⟩ := h.rel
  obtain ⟨q', g2, M2, G2, a2, b2, hD2, pq', hg2, hpg2, hc2, ha2, hb2, he2⟩ := k.rel
  have e1 : ∀ x, q' x = 2 * (p' x * p x) := fun x => by
    have := hD2.unique (hD.mul hD) x
    rw [this]; grind
  have hcp : CD (fun x => p x * p x) q' (fun x => g x * p x) := (hc.times pp).scale (c := 1) (d := 1) (c' := 1) (d' := 2) (by decide) (by decide) (by decide) (by decide) (fun x => rfl) (fun x => by rw [e1]; omega)
  obtain ⟨K, F, iK⟩ := hg.pf.mul pp
  have hK : 0 < K := by
    obtain ⟨n, f, ip⟩ := id pp
    have hn : 0 < n := by
      rcases Nat.eq_zero_or_pos n with h0 | h0
      · exact absurd (ip.zero_iff.1 h0) p0
      · exact h0
    have := (hg.len_mul ip iK fun x => rfl).2 hpg.pos hn
    have := hpg.pos
    omega
  obtain ⟨c, d, hc0, hd0, e2⟩ := hc2.assoc hcp hg2 iK hpg2.pos hK
  -- a2 p p = b2 t g2, c g2 = d g p, a p = b s g
  have hg0 : ¬ ∀ x, g x = 0 := fun h0 => by have := hg.zero_iff.2 h0; have := hpg.pos; omega
  have e3 : ∀ x, c * a2 * p x = b2 * d * (t x * g x) := fun x => by
    refine PF.cancel (d := fun x => c * a2 * p x) (d' := fun x => b2 * d * (t x * g x)) pp (pp.smul _) ((k.isp.pf.mul hg.pf).smul _) p0 (fun x => ?_) x
    have h1 := he2 x; have h2 := e2 x
    calc p x * (c * a2 * p x) = c * (a2 * (p x * p x)) := by grind
      _ = b2 * t x * (c * g2 x) := by rw [h1]; grind
      _ = p x * (b2 * d * (t x * g x)) := by rw [h2]; grind
  have e4 : ∀ x, a * b2 * d * t x = c * a2 * b * s x := fun x => by
    refine PF.cancel (d := fun x => a * b2 * d * t x) (d' := fun x => c * a2 * b * s x) hg.pf (k.isp.pf.smul _) (h.isp.pf.smul _) hg0 (fun x => ?_) x
    have h1 := e3 x; have h2 := he x
    calc g x * (a * b2 * d * t x) = a * (b2 * d * (t x * g x)) := by grind
      _ = c * a2 * (a * p x) := by rw [← h1]; grind
      _ = g x * (c * a2 * b * s x) := by rw [h2]; grind
  exact k.prim.assoc h.prim k.isp h.isp (mul_ne (mul_ne ha hb2) hd0) (mul_ne (mul_ne hc0 ha2) hb) e4
end Go.Proofs.YteoemijgdcpopaaDoor
