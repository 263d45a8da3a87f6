/- The walks of matrix.Check and of what it asks, at any lists of lists. -/
import Derived.Test.YtlaoijfphkhchaaIdx
import Derived.Test.YtlaoijfphkhchaaIntC
namespace Go.Proofs.Ytlaoijfphkhchaa
open Go.RowKit Go.Shelf

/-- A list of lists of numbers, whatever they are. -/
structure GM where
  r : Nat
  L : Nat → Nat
  Z : Nat → Nat → ZI
def GRow (w : World) (p : Option Addr) (c : Nat) (Z : Nat → ZI) : Prop := SlAt 2 w p c (fun k j => zg (Z k) j)
def GM.At (m : GM) (w : World) (p : Option Addr) : Prop := ∃ H : Nat → Option Addr × Nat, SlAt 1 w p m.r (fun i _ => .slice (H i).1 (m.L i) (H i).2) ∧ ∀ i, i < m.r → GRow w (H i).1 (m.L i) (m.Z i)
theorem GM.At.below {m : GM} {w w' : World} {p : Option Addr} (h : m.At w p) {B : Nat} (hB : w.heap.size ≤ B) (hb : Below B w w') : m.At w' p := by
  obtain ⟨H, h1, h2⟩ := h
  exact ⟨H, h1.mono hB hb, fun i hi => (h2 i hi).mono hB hb⟩
/-- The sizes that the walks need. -/
def GM.Fit (m : GM) : Prop := m.r ≤ 1000000 ∧ ∀ i, i < m.r → m.L i ≤ 1000000 ∧ ∀ k, k < m.L i → (m.Z i k).mag.size ≤ 100000000
def okZ (z : ZI) : Bool := decide (z = canon (valZ z))
def GM.chk (m : GM) : Int :=
  if m.r = 0 ∨ m.L 0 = 0 then 5 else if 32 < m.r ∨ 32 < m.L 0 then 4 else if anyN (fun i => m.L i != m.L 0) m.r then 11 else if anyN (fun i => anyN (fun k => !okZ (m.Z i k)) (m.L i)) m.r then 1 else 0
def RetInt (v : Int) (w : World) (e : Ending) (w' : World) : Prop := e = .returned (.int .i64 v) ∧ Below w.heap.size w w'

set_option maxRecDepth 100000 in
set_option maxHeartbeats 4000000 in
theorem odd1_any (z : ZI) (hz : z.mag.size ≤ 100000000) (w : World) :
    Calls Try.prog 133 #[.agg #[.bool z.neg, .string z.mag]] w (RetB (!okZ z) w) := by
  go_enter Try.func133, Try.ntmps133
  go_wp2_with fail
  refine (check_any z hz _).mono ?_
  rintro e w2 ⟨rfl, hb⟩
  dsimp only
  have Hb : Hid (Below w.heap.size w w2) := Lib.hid (((Below.refl w.heap.size w).alloc (Nat.le_refl _) _).trans (hb.mono (by simp)))
  clear hb
  by_cases h : z = canon (valZ z)
  · have hc : chkZ z = 0 := if_pos h
    have ho : okZ z = true := decide_eq_true h
    have Ho := Lib.hid ho
    rw [hc]
    clear h hc ho
    go_wp2
    go_ret
    exact ⟨by rw [Ho.out]; rfl, Hb.out⟩
  · have hc : chkZ z = 1 := if_neg h
    have ho : okZ z = false := decide_eq_false h
    have Ho := Lib.hid ho
    rw [hc]
    clear h hc ho
    go_wp2
    go_ret
    exact ⟨by rw [Ho.out]; rfl, Hb.out⟩

set_option maxRecDepth 100000 in
set_option maxHeartbeats 4000000 in
theorem odd_any (n : Nat) (p : Option Addr) (c : Nat) (Z : Nat → ZI) (hn : n ≤ 1000000000000) (w : World) (hp : GRow w p n Z) (hz : ∀ k, k < n → (Z k).mag.size ≤ 100000000) :
    Calls Try.prog 130 #[.slice p n c] w (RetB (anyN (fun k => !okZ (Z k)) n) w) := by
  have HC := Lib.hid (containsFn_z n p c Z 133 #[] (fun k => !okZ (Z k)) w (enters_of Try.func133 (by kernel_rfl) rfl) hn hp (fun k W hk _ => odd1_any (Z k) (hz k hk) W))
  go_enter Try.func130, Try.ntmps130
  go_wp2_with fail
  refine HC.out.mono ?_
  rintro e w2 ⟨rfl, hb⟩
  dsimp only
  have Hb := Lib.hid hb
  clear hb
  go_wp2
  go_ret
  exact ⟨rfl, Hb.out⟩

set_option maxRecDepth 100000 in
set_option maxHeartbeats 4000000 in
theorem check1_any (m : GM) (p : Option Addr) (cp g l : Nat) (q : Option Addr) (cq : Nat) (h0 : 0 < m.r) (w : World) (hg : w.cell? ⟨g, 0, none⟩ = some (.slice p m.r cp)) (hm : m.At w p) :
    Calls Try.prog 129 #[.slice q l cq, .pointer (some ⟨g, 0, none⟩)] w (RetB (l != m.L 0) w) := by
  obtain ⟨H, h1, h2⟩ := hm
  rcases h1 with h | ⟨b, off, rfl, hlt, hc⟩
  · omega
  have a2 : w.cell? ⟨b, off, none⟩ = some (.slice (H 0).1 (m.L 0) (H 0).2) := by simpa using hc 0 h0 0 (by omega)
  have r0 : (0 : Int) < (m.r : Int) := by omega
  generalize m.r = r at *
  generalize m.L 0 = c at *
  generalize (H 0).1 = q1 at *
  generalize (H 0).2 = c1 at *
  clear hc h2
  by_cases h : l = c
  · have e1 : ((l : Int) != (c : Int)) = false := by rw [h, bne_self_eq_false]
    have e2 : (l != c) = false := by rw [h, bne_self_eq_false]
    rw [e2]
    clear h e2
    go_enter Try.func129, Try.ntmps129
    go_wp2
    go_ret
    exact ⟨rfl, by first | exact Below.refl _ _ | exact (Below.refl _ _).drew⟩
  · have e1 : ((l : Int) != (c : Int)) = true := by rw [bne_iff_ne]; omega
    have e2 : (l != c) = true := by rw [bne_iff_ne]; exact h
    rw [e2]
    clear h e2
    go_enter Try.func129, Try.ntmps129
    go_wp2
    go_ret
    exact ⟨rfl, by first | exact Below.refl _ _ | exact (Below.refl _ _).drew⟩
end Go.Proofs.Ytlaoijfphkhchaa
