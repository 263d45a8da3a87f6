/- What every law's frame needs. What the frames of the tied cards need: a start that meets the condition. A list of numbers, and a list of lists of numbers, that came in. -/
import Derived.Test.YtmbamcpndbimaaaDoorRows
import Derived.Test.YtmbamcpndbimaaaDoorA0
import Derived.ProofKit
import Derived.OpenShut
import Derived.SizedLaws
import Derived.Deep.Slices
import Derived.Deep.Fields
import Derived.Carry
import Derived.Test.YtmbamcpndbimaaaDoorTie
import Derived.Test.YtmbamcpndbimaaaDoorCards
import Derived.LaidMore
import Derived.Stop.Joined
import Derived.Test.YtmbamcpndbimaaaDoorA6
import Derived.Deep.SlicePairs
namespace Go.Proofs.YtmbamcpndbimaaaDoor
open Go.RowKit Go.ChangeShapes Go.WideShapes Go.ChangeAt Go.Deep

theorem own : ownKnob Tryd.prog.godebug = none := by kernel_rfl
theorem laidOut : laidOutB Tryd.prog = true := by kernel_rfl

section
variable {H : Type} {enc : TypeId × Value → H} {P : Program} {w : World} {base : Nat} {spare : Nat → Bool} {held : Bool}

/-- Every argument reads as it did where nothing below the old heap's end has turned. -/
theorem trodAll_below (hl : laidOutB P = true) {W W' : World} (hb : Below W.heap.size W W') : ∀ (ts : List TypeId) (vs : List Value) (ds : List (DataW H)) (ps : List MemPlace),
    (ts.all fun t => P.readableRec t && decide (t < P.types.size)) = true → DataW.TrodAll enc P W 0 (fun _ => true) true ts vs ds ps →
    DataW.TrodAll enc P W' 0 (fun b => decide (b < W.heap.size)) true ts vs ds ps
  | [], vs, ds, ps, _, h => by
    obtain ⟨rfl, rfl, rfl⟩ := trodAll_nil h
    exact trodAll_mk0
  | t :: ts, vs, ds, ps, hr, h => by
    obtain ⟨v, vs', d, ds', p, q, rfl, rfl, rfl, h0, r0⟩ := trodAll_cons h
    simp only [List.all_cons, Bool.and_eq_true, decide_eq_true_eq] at hr
    have lt : ∀ x ∈ p, x.block < W.heap.size := by obtain ⟨m, hm⟩ := h0; exact DataW.trod_lt m _ _ _ hm
    exact trodAll_cons_mk (Below.trod hl hr.1.1 hr.1.2 h0 hb lt) (trodAll_below hl hb ts vs' ds' q hr.2 r0)
end
end Go.Proofs.YtmbamcpndbimaaaDoor
namespace Go.Proofs.YtmbamcpndbimaaaDoor
open Go.ChangeShapes Go.WideShapes Go.ChangeAt Go.RowKit
set_option maxRecDepth 100000 in
theorem door_met (os : Os) (args : Array Value) : laidMetH Tryd.prog [("math/bits.deBruijn32tab", Rows.laid_math_bits_deBruijn32tab), ("math/bits.deBruijn64tab", Rows.laid_math_bits_deBruijn64tab), ("internal/strconv.uint64pow10", Rows.laid_internal_strconv_uint64pow10)] ((World.doorLaid Tryd.prog 24 os).forCall (fun _ _ => 0) ⟨#[], args, []⟩).memory :=
  laidMetH_of_parts3 (fuel := 8) (laidMet_of_run' 8 (by kernel_rfl) (by kernel_rfl)) (by kernel_rfl) (by kernel_rfl)
end Go.Proofs.YtmbamcpndbimaaaDoor
namespace Go.Proofs.YtmbamcpndbimaaaDoor
open Go Go.RowKit Go.ChangeShapes Go.WideShapes Go.ChangeAt Go.Deep
section
variable {H : Type} {enc : TypeId × Value → H} {w : World}
set_option maxRecDepth 100000 in
theorem open_zrow {fuel : Nat} {cs : List Value} {x : DataW H × List MemPlace} (h : DataW.trod enc Tryd.prog w 0 (fun _ => true) true fuel 22 cs = some x) :
    ∃ (q : Option Addr) (n c : Nat) (Z : Nat → ZI), cs = [.slice q n c] ∧ GRow w q n Z ∧ n ≤ c ∧ c ≤ maxLen ∧ ∀ k, k < n → (Z k).mag.size ≤ maxLen := by
  rcases open_slice_pairs Tryd.underlying22 Tryd.underlying32 (by kernel_rfl) (by rfl) (by rfl) (by kernel_rfl) (by kernel_rfl) h with ⟨hcs, _⟩ | ⟨a, len, cap, m, n, V0, V1, D0, D1, P0, P1, hcs, _, hl, hm, hmm, _, hi⟩
  · exact ⟨none, 0, 0, fun _ => canon 0, hcs, .inl rfl, Nat.le_refl _, by decide, fun k hk => by omega⟩
  · simp only [if_true] at hmm
    rw [hmm] at hi
    have he : ∀ i, i < cap → ∃ z : Bool × ByteArray, w.cell? (a.add (i * 2)) = some (.bool z.1) ∧ w.cell? (a.add (i * 2 + 1)) = some (.string z.2) ∧ z.2.size ≤ maxLen := by
      intro i hil
      obtain ⟨c0, c1, t0, t1⟩ := hi i hil
      obtain ⟨b, e0, _⟩ := DataW.trod_bool Tryd.underlying4 t0
      obtain ⟨s, e1, _, hs⟩ := DataW.trod_string Tryd.underlying9 t1
      simp only [List.cons.injEq, and_true] at e0 e1
      rw [e0] at c0
      rw [e1] at c1
      exact ⟨(b, s), c0, c1, hs⟩
    obtain ⟨E, hE⟩ := choose_lt he
    refine ⟨some a, len, cap, fun i => ⟨(E i).1, (E i).2⟩, hcs, ?_, hl, hm, fun k hk => (hE k (by omega)).2.2⟩
    rcases Nat.eq_zero_or_pos len with h0 | h0
    · exact .inl h0
    · obtain ⟨b, off, spot⟩ := a
      have h00 := (hE 0 (by omega)).1
      have hspot : spot = none := by simpa [Addr.add] using World.cell?_spot h00
      subst hspot
      refine .inr ⟨b, off, rfl, World.block_lt_of_cell? w _ (by simpa [Addr.add] using h00), fun i hi' j hj => ?_⟩
      have hc := hE i (by omega)
      rw [Addr.add_lit, Addr.add_lit] at hc
      have : j = 0 ∨ j = 1 := by omega
      rcases this with rfl | rfl
      · simpa [zg] using hc.1
      · simpa [zg, Nat.add_assoc] using hc.2.1
set_option maxRecDepth 100000 in
theorem open_vec {v : Value} {d : DataW H} {p : List MemPlace} {bb : Nat} (hv : Value.okWide Tryd.prog w .any bb 22 v) (h : DataW.Trod enc Tryd.prog w 0 (fun _ => true) true 22 v d p) :
    ∃ (q : Option Addr) (n c : Nat) (Z : Nat → ZI), v = .slice q n c ∧ GRow w q n Z ∧ n ≤ maxLen ∧ ∀ k, k < n → (Z k).mag.size ≤ maxLen := by
  obtain ⟨a0, l0, c0, rfl⟩ := okWide_slice Tryd.underlying22 hv
  obtain ⟨fuel, hf⟩ := h
  obtain ⟨q, n, c, Z, hcs, hr, h1, h2, h3⟩ := open_zrow hf
  simp only [Value.cells, List.cons.injEq, and_true] at hcs
  exact ⟨q, n, c, Z, hcs, hr, Nat.le_trans h1 h2, h3⟩
end
end Go.Proofs.YtmbamcpndbimaaaDoor
