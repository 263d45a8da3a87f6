/- Paths and powers of the matrix of a graph: the plain law of TopTraces. -/
import Derived.Test.YtlaoijfphkhchaaClt
import Derived.Test.YtlaoijfphkhchaaLap
namespace Go.Proofs.Ytlaoijfphkhchaa
theorem stp_paths {N n : Nat} {E : Nat → Nat → Int} (hok : EdOk N n E) (f : Nat → Int) (j : Nat) : ∀ i, i ≤ n → stpE (frE E) (toE E) f i j = dotN (fun a => f a * adjE E i a j) N := by
  intro i
  induction i with
  | zero =>
    intro _
    rw [stpE, dotN_congr (g := fun _ => 0) fun a _ => ?_, dotN_zero]
    show f a * ((cntE E 0 a j : Nat) : Int) = 0
    simp [cntE]
  | succ i ih =>
    intro hi
    obtain ⟨h0, h2, h3, h4⟩ := edOk_nat hok i (by omega)
    rw [stpE, ih (by omega)]
    rw [show (if toE E i = j then f (frE E i) else 0) = dotN (fun a => if frE E i = a then (if toE E i = j then f a else 0) else 0) N from (dotN_pick (fun a => if toE E i = j then f a else 0) N (frE E i) h3).symm, ← dotN_add]
    refine dotN_congr fun a _ => ?_
    unfold adjE
    rw [cntE, h0, h2]
    by_cases e1 : frE E i = a
    · by_cases e2 : toE E i = j
      · rw [if_pos e1, if_pos e2, if_pos ⟨by omega, by omega⟩]; push_cast; grind
      · rw [if_pos e1, if_neg e2, if_neg (by omega)]; push_cast; grind
    · rw [if_neg e1, if_neg (by omega)]; push_cast; grind
theorem stp_from {N n : Nat} {E : Nat → Nat → Int} (hok : EdOk N n E) (f : Nat → Int) (j : Nat) : ∀ i, i ≤ n → stpE (toE E) (frE E) f i j = dotN (fun b => adjE E i j b * f b) N := by
  intro i
  induction i with
  | zero =>
    intro _
    rw [stpE, dotN_congr (g := fun _ => 0) fun a _ => ?_, dotN_zero]
    show ((cntE E 0 j a : Nat) : Int) * f a = 0
    simp [cntE]
  | succ i ih =>
    intro hi
    obtain ⟨h0, h2, h3, h4⟩ := edOk_nat hok i (by omega)
    rw [stpE, ih (by omega)]
    rw [show (if frE E i = j then f (toE E i) else 0) = dotN (fun b => if toE E i = b then (if frE E i = j then f b else 0) else 0) N from (dotN_pick (fun b => if frE E i = j then f b else 0) N (toE E i) h4).symm, ← dotN_add]
    refine dotN_congr fun b _ => ?_
    unfold adjE
    rw [cntE, h0, h2]
    by_cases e2 : toE E i = b
    · by_cases e1 : frE E i = j
      · rw [if_pos e2, if_pos e1, if_pos ⟨by omega, by omega⟩]; push_cast; grind
      · rw [if_pos e2, if_neg e1, if_neg (by omega)]; push_cast; grind
    · rw [if_neg e2, if_neg (by omega)]; push_cast; grind
/-- The numbers of paths are the entries of the power. -/
theorem cnt_paths {N n : Nat} {E : Nat → Nat → Int} (hok : EdOk N n E) (s : Nat) : ∀ k t, cntI (frE E) (toE E) n (dltF s) k t = powF N (adjE E n) k s t := by
  intro k
  induction k with
  | zero =>
    intro t
    show dltF s t = if s = t then 1 else 0
    unfold dltF
    by_cases e : t = s
    · rw [if_pos e, if_pos e.symm]
    · rw [if_neg e, if_neg (fun h => e h.symm)]
  | succ k ih =>
    intro t
    show stpE (frE E) (toE E) (cntI (frE E) (toE E) n (dltF s) k) n t = dotN (fun j => powF N (adjE E n) k s j * adjE E n j t) N
    rw [stp_paths hok _ t n (Nat.le_refl _)]
    exact dotN_congr fun a _ => by rw [ih a]
theorem cnt_from {N n : Nat} {E : Nat → Nat → Int} (hok : EdOk N n E) (k s : Nat) : cntI (toE E) (frE E) n (fun _ => 1) (k + 1) s = dotN (fun j => adjE E n s j * cntI (toE E) (frE E) n (fun _ => 1) k j) N := by
  show stpE (toE E) (frE E) (cntI (toE E) (frE E) n (fun _ => 1) k) n s = _
  rw [stp_from hok _ s n (Nat.le_refl _)]
theorem from_bn {N n : Nat} {E : Nat → Nat → Int} (hok : EdOk N n E) (hN : N ≤ 32) (hn : n ≤ 1000000) : ∀ k s, s < N → Bn (cntI (toE E) (frE E) n (fun _ => 1) k s) (k * 25) := by
  intro k
  induction k with
  | zero => intro s _; exact Bn.one _
  | succ k ih =>
    intro s hs
    rw [cnt_from hok]
    have h := Bn.dot (e := 20 + k * 25) (m := 5) N (pow5 hN) fun j hj => (adjE_bn E n N hn s j hs hj).mul (ih j hj)
    exact h.up (by omega)
theorem from_ok {N n K : Nat} {E : Nat → Nat → Int} (hok : EdOk N n E) (hN : N ≤ 32) (hn : n ≤ 1000000) (hK : K ≤ 4096) : CntOk (toE E) (frE E) n N K (fun _ => 1) := by
  refine ⟨fun k j hk hj => (from_bn hok hN hn k j hj).size _ (by omega), fun k i j hk hi hj => ?_⟩
  rw [stp_from hok _ j i (by omega)]
  have h := Bn.dot (e := 20 + k * 25) (m := 5) N (pow5 hN) fun b hb => (adjE_bn E i N (by omega) j b hj hb).mul (from_bn hok hN hn k b hb)
  exact h.size _ (by omega)
theorem paths_ok {N n K s : Nat} {E : Nat → Nat → Int} (hok : EdOk N n E) (hN : N ≤ 32) (hn : n ≤ 1000000) (hK : K ≤ 4096) (hs : s < N) : CntOk (frE E) (toE E) n N K (dltF s) := by
  have hb : ∀ k j, j < N → Bn (cntI (frE E) (toE E) n (dltF s) k j) (k * 25) := fun k j hj => by
    rw [cnt_paths hok]
    exact powF_bn (adjE_bn E n N hn) (pow5 hN) k s j hs hj
  refine ⟨fun k j hk hj => (hb k j hj).size _ (by omega), fun k i j hk hi hj => ?_⟩
  rw [stp_paths hok _ j i (by omega)]
  have h := Bn.dot (e := k * 25 + 20) (m := 5) N (pow5 hN) fun b hb' => (hb k b hb').mul (adjE_bn E i N (by omega) b j hb' hj)
  exact h.size _ (by omega)
/-- The recurrence of the characteristic polynomial. -/
theorem traces_rec {N n : Nat} {E : Nat → Nat → Int} (h1 : 0 < N) (hok : EdOk N n E) (k s : Nat) (hs : s < N) : dotN (fun d => chrP N (adjE E n) N d * cntI (toE E) (frE E) n (fun _ => 1) (k + d) s) (N + 1) = 0 :=
  ch_vec N h1 (adjE E n) (fun e i => cntI (toE E) (frE E) n (fun _ => 1) e i) (fun e i _ => cnt_from hok e i) k s hs
end Go.Proofs.Ytlaoijfphkhchaa
