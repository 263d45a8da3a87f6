/- What every law's frame needs. What the frames of the tied cards need: a start that meets the condition. A list of numbers, and a list of lists of numbers, that came in. A rational number that came in. -/
import Derived.Test.YteoemijgdcpopaaDoorRows
import Derived.Test.YteoemijgdcpopaaDoorD0
import Derived.ProofKit
import Derived.OpenShut
import Derived.SizedLaws
import Derived.Deep.Slices
import Derived.Deep.Fields
import Derived.Carry
import Derived.Test.YteoemijgdcpopaaDoorTie
import Derived.Test.YteoemijgdcpopaaDoorCards
import Derived.LaidMore
import Derived.Stop.Joined
import Derived.Test.YteoemijgdcpopaaDoorD8
import Derived.Deep.SlicePairs
import Derived.ChangeSame
namespace Go.Proofs.YteoemijgdcpopaaDoor
open Go.RowKit Go.ChangeShapes Go.WideShapes Go.ChangeAt Go.Deep

theorem own : ownKnob Tryd.prog.godebug = none := by kernel_rfl
theorem laidOut : laidOutB Tryd.prog = true := by kernel_rfl

section
variable {H : Type} {enc : TypeId × Value → H} {P : Program} {w : World} {base : Nat} {spare : Nat → Bool} {held : Bool}

/-- A struct whose fields are of one cell each, opened field by field. -/
theorem struct_fields {t : TypeId} {fs : Array Field} {fuel : Nat} {cs : List Value} {x : DataW H × List MemPlace} (ht : P.underlying t = some (.struct fs)) (hone : oneCellFields P fs = true) (hC : P.cellsOf t = fs.size)
    (h : DataW.trod enc P w base spare held fuel t cs = some x) :
    ∃ (ys : List (DataW H × List MemPlace)) (n : Nat), x = (.agg (ys.map (·.1)), ys.flatMap (·.2)) ∧ cs.length = fs.size ∧ ys.length = fs.size ∧
      ∀ (j : Nat) (f : Field), fs[j]? = some f → ∃ v y, cs[j]? = some v ∧ ys[j]? = some y ∧ DataW.trod enc P w base spare held n f.type [v] = some y := by
  obtain ⟨ys, n, _, hx, hlen, hyl, hf⟩ := DataW.trod_struct ht h
  rw [hC] at hlen
  refine ⟨ys, n, hx, hlen, hyl, fun j f hj => ?_⟩
  obtain ⟨ho, hk⟩ := hone_of hone j f hj
  have hjl : j < fs.size := (Array.getElem?_eq_some_iff.1 hj).1
  have h1 := hf j f hj
  rw [ho, hk, List.drop_eq_getElem_cons (by omega), List.take_succ_cons, List.take_zero] at h1
  have hys : ys[j]? = some (ys[j]'(by omega)) := List.getElem?_eq_getElem (by omega)
  exact ⟨cs[j]'(by omega), ys[j]'(by omega), List.getElem?_eq_getElem (by omega), hys, h1.trans hys⟩

/-- Every argument reads as it did where nothing below the old heap's end has turned. -/
theorem trodAll_below (hl : laidOutB P = true) {W W' : World} (hb : Below W.heap.size W W') : ∀ (ts : List TypeId) (vs : List Value) (ds : List (DataW H)) (ps : List MemPlace),
    (ts.all fun t => P.readableRec t && decide (t < P.types.size)) = true → DataW.TrodAll enc P W 0 (fun _ => true) true ts vs ds ps →
    DataW.TrodAll enc P W' 0 (fun b => decide (b < W.heap.size)) true ts vs ds ps
  | [], vs, ds, ps, _, h => by
    obtain ⟨rfl, rfl, rfl⟩ := trodAll_nil h
    exact trodAll_mk0
  | t :: ts, vs, ds, ps, hr, h => by
    obtain ⟨v, vs', d, ds', p, q, rfl, rfl, rfl, h0, r0⟩ := trodAll_cons h
    simp only [List.all_cons, Bool.and_eq_true, decide_eq_true_eq] at hr
    have lt : ∀ x ∈ p, x.block < W.heap.size := by obtain ⟨m, hm⟩ := h0; exact DataW.trod_lt m _ _ _ hm
    exact trodAll_cons_mk (Below.trod hl hr.1.1 hr.1.2 h0 hb lt) (trodAll_below hl hb ts vs' ds' q hr.2 r0)
end
end Go.Proofs.YteoemijgdcpopaaDoor
namespace Go.Proofs.YteoemijgdcpopaaDoor
open Go.ChangeShapes Go.WideShapes Go.ChangeAt Go.RowKit
set_option maxRecDepth 100000 in
theorem door_met (os : Os) (args : Array Value) : laidMetH Tryd.prog [("math/bits.deBruijn32tab", Rows.laid_math_bits_deBruijn32tab), ("math/bits.deBruijn64tab", Rows.laid_math_bits_deBruijn64tab), ("internal/strconv.uint64pow10", Rows.laid_internal_strconv_uint64pow10)] ((World.doorLaid Tryd.prog 24 os).forCall (fun _ _ => 0) ⟨#[], args, []⟩).memory :=
  laidMetH_of_parts3 (fuel := 8) (laidMet_of_run' 8 (by kernel_rfl) (by kernel_rfl)) (by kernel_rfl) (by kernel_rfl)
end Go.Proofs.YteoemijgdcpopaaDoor
namespace Go.Proofs.YteoemijgdcpopaaDoor
open Go Go.RowKit Go.ChangeShapes Go.WideShapes Go.ChangeAt Go.Deep
section
variable {H : Type} {enc : TypeId × Value → H} {w : World}
set_option maxRecDepth 100000 in
theorem open_zrow {fuel : Nat} {cs : List Value} {x : DataW H × List MemPlace} (h : DataW.trod enc Tryd.prog w 0 (fun _ => true) true fuel 22 cs = some x) :
    ∃ (q : Option Addr) (n c : Nat) (Z : Nat → ZI), cs = [.slice q n c] ∧ GRow w q n Z ∧ n ≤ c ∧ c ≤ maxLen ∧ ∀ k, k < n → (Z k).mag.size ≤ maxLen := by
  rcases open_slice_pairs Tryd.underlying22 Tryd.underlying35 (by kernel_rfl) (by rfl) (by rfl) (by kernel_rfl) (by kernel_rfl) h with ⟨hcs, _⟩ | ⟨a, len, cap, m, n, V0, V1, D0, D1, P0, P1, hcs, _, hl, hm, hmm, _, hi⟩
  · exact ⟨none, 0, 0, fun _ => canon 0, hcs, .inl rfl, Nat.le_refl _, by decide, fun k hk => by omega⟩
  · simp only [if_true] at hmm
    rw [hmm] at hi
    have he : ∀ i, i < cap → ∃ z : Bool × ByteArray, w.cell? (a.add (i * 2)) = some (.bool z.1) ∧ w.cell? (a.add (i * 2 + 1)) = some (.string z.2) ∧ z.2.size ≤ maxLen := by
      intro i hil
      obtain ⟨c0, c1, t0, t1⟩ := hi i hil
      obtain ⟨b, e0, _⟩ := DataW.trod_bool Tryd.underlying4 t0
      obtain ⟨s, e1, _, hs⟩ := DataW.trod_string Tryd.underlying9 t1
      simp only [List.cons.injEq, and_true] at e0 e1
      rw [e0] at c0
      rw [e1] at c1
      exact ⟨(b, s), c0, c1, hs⟩
    obtain ⟨E, hE⟩ := choose_lt he
    refine ⟨some a, len, cap, fun i => ⟨(E i).1, (E i).2⟩, hcs, ?_, hl, hm, fun k hk => (hE k (by omega)).2.2⟩
    rcases Nat.eq_zero_or_pos len with h0 | h0
    · exact .inl h0
    · obtain ⟨b, off, spot⟩ := a
      have h00 := (hE 0 (by omega)).1
      have hspot : spot = none := by simpa [Addr.add] using World.cell?_spot h00
      subst hspot
      refine .inr ⟨b, off, rfl, World.block_lt_of_cell? w _ (by simpa [Addr.add] using h00), fun i hi' j hj => ?_⟩
      have hc := hE i (by omega)
      rw [Addr.add_lit, Addr.add_lit] at hc
      have : j = 0 ∨ j = 1 := by omega
      rcases this with rfl | rfl
      · simpa [zg] using hc.1
      · simpa [zg, Nat.add_assoc] using hc.2.1
set_option maxRecDepth 100000 in
theorem open_vec {v : Value} {d : DataW H} {p : List MemPlace} {bb : Nat} (hv : Value.okWide Tryd.prog w .any bb 22 v) (h : DataW.Trod enc Tryd.prog w 0 (fun _ => true) true 22 v d p) :
    ∃ (q : Option Addr) (n c : Nat) (Z : Nat → ZI), v = .slice q n c ∧ GRow w q n Z ∧ n ≤ maxLen ∧ ∀ k, k < n → (Z k).mag.size ≤ maxLen := by
  obtain ⟨a0, l0, c0, rfl⟩ := okWide_slice Tryd.underlying22 hv
  obtain ⟨fuel, hf⟩ := h
  obtain ⟨q, n, c, Z, hcs, hr, h1, h2, h3⟩ := open_zrow hf
  simp only [Value.cells, List.cons.injEq, and_true] at hcs
  exact ⟨q, n, c, Z, hcs, hr, Nat.le_trans h1 h2, h3⟩
set_option maxRecDepth 100000 in
theorem open_mat {v : Value} {d : DataW H} {p : List MemPlace} {bb : Nat} (hv : Value.okWide Tryd.prog w .any bb 52 v) (h : DataW.Trod enc Tryd.prog w 0 (fun _ => true) true 52 v d p) :
    ∃ (q : Option Addr) (c : Nat) (m : GM), v = .slice q m.r c ∧ m.At w q ∧ m.r ≤ maxLen ∧ ∀ i, i < m.r → m.L i ≤ maxLen ∧ ∀ k, k < m.L i → (m.Z i k).mag.size ≤ maxLen := by
  obtain ⟨a0, l0, c0, rfl⟩ := okWide_slice Tryd.underlying52 hv
  obtain ⟨fuel, hf⟩ := h
  rcases open_slice1 Tryd.underlying52 (by kernel_rfl) hf with ⟨hcs, hx⟩ | ⟨a, len, cap, m, n, V, D, Pl, hcs, _, hl, hm, hmm, hx, hi⟩
  · refine ⟨none, 0, ⟨0, fun _ => 0, fun _ _ => canon 0⟩, by simpa [Value.cells] using hcs, ⟨fun _ => (none, 0), .inl rfl, fun i hi => ?_⟩, by decide, fun i hi => ?_⟩
    · exact absurd hi (Nat.not_lt_zero _)
    · exact absurd hi (Nat.not_lt_zero _)
  · simp only [if_true] at hmm
    rw [hmm] at hi
    have he : ∀ i, i < cap → ∃ z : (Option Addr × Nat × Nat) × (Nat → ZI), w.cell? (a.add i) = some (.slice z.1.1 z.1.2.1 z.1.2.2) ∧ GRow w z.1.1 z.1.2.1 z.2 ∧ z.1.2.1 ≤ maxLen ∧ ∀ k, k < z.1.2.1 → (z.2 k).mag.size ≤ maxLen := by
      intro i hil
      obtain ⟨c0, t0⟩ := hi i hil
      obtain ⟨q, n, c, Z, e0, hr, h1, h2, h3⟩ := open_zrow t0
      simp only [List.cons.injEq, and_true] at e0
      rw [e0] at c0
      exact ⟨((q, n, c), Z), c0, hr, Nat.le_trans h1 h2, h3⟩
    haveI : Inhabited ((Option Addr × Nat × Nat) × (Nat → ZI)) := ⟨((none, 0, 0), fun _ => canon 0)⟩
    obtain ⟨E, hE⟩ := choose_lt he
    refine ⟨some a, cap, ⟨len, fun i => (E i).1.2.1, fun i => (E i).2⟩, by simpa [Value.cells] using hcs, ⟨fun i => ((E i).1.1, (E i).1.2.2), ?_, fun i hi' => (hE i (Nat.lt_of_lt_of_le hi' hl)).2.1⟩, Nat.le_trans hl hm, fun i hi' => (hE i (Nat.lt_of_lt_of_le hi' hl)).2.2⟩
    rcases Nat.eq_zero_or_pos len with h0 | h0
    · exact .inl h0
    · obtain ⟨b, off, spot⟩ := a
      have h00 := (hE 0 (by omega)).1
      have hspot : spot = none := by simpa [Addr.add] using World.cell?_spot h00
      subst hspot
      refine .inr ⟨b, off, rfl, World.block_lt_of_cell? w _ (by simpa [Addr.add] using h00), fun i hi' j hj => ?_⟩
      have hc := (hE i (Nat.lt_of_lt_of_le hi' hl)).1
      rw [Addr.add_lit] at hc
      have : j = 0 := by omega
      subst this
      simpa using hc
end
end Go.Proofs.YteoemijgdcpopaaDoor
namespace Go.Proofs.YteoemijgdcpopaaDoor
open Go Go.RowKit Go.ChangeShapes Go.WideShapes Go.ChangeAt Go.Deep
section
variable {H : Type} {enc : TypeId × Value → H} {w : World}
set_option maxRecDepth 100000 in
theorem open_zi {fuel : Nat} {cs : List Value} {x : DataW H × List MemPlace} (h : DataW.trod enc Tryd.prog w 0 (fun _ => true) true fuel 35 cs = some x) :
    ∃ z : ZI, cs = [.bool z.neg, .string z.mag] ∧ z.mag.size ≤ maxLen := by
  have hC : Tryd.prog.cellsOf 35 = 2 := by kernel_rfl
  obtain ⟨ys, n, hx, hlen, hyl, hg⟩ := struct_fields (fs := _) Tryd.underlying35 (by kernel_rfl) (by rw [hC]; rfl) h
  obtain ⟨v0, y0, hv0, _, t0⟩ := hg 0 _ rfl
  obtain ⟨v1, y1, hv1, _, t1⟩ := hg 1 _ rfl
  obtain ⟨b, e0, _⟩ := DataW.trod_bool Tryd.underlying4 t0
  obtain ⟨s, e1, _, hs⟩ := DataW.trod_string Tryd.underlying9 t1
  simp only [List.cons.injEq, and_true] at e0 e1
  subst e0 e1
  refine ⟨⟨b, s⟩, ?_, hs⟩
  match cs, hlen with
  | [c0, c1], _ =>
    simp at hv0 hv1
    subst hv0 hv1
    rfl
set_option maxRecDepth 100000 in
theorem open_rat {v : Value} {d : DataW H} {p : List MemPlace} {bb : Nat} (hv : Value.okWide Tryd.prog w .any bb 41 v) (h : DataW.Trod enc Tryd.prog w 0 (fun _ => true) true 41 v d p) :
    ∃ a b : ZI, v = .agg #[.bool a.neg, .string a.mag, .bool b.neg, .string b.mag] ∧ a.mag.size ≤ maxLen ∧ b.mag.size ≤ maxLen := by
  have hC : Tryd.prog.cellsOf 41 = 4 := by kernel_rfl
  have hC2 : Tryd.prog.cellsOf 35 = 2 := by kernel_rfl
  obtain ⟨cs, rfl, hsz⟩ := okWide_struct Tryd.underlying41 hv
  obtain ⟨fuel, hf⟩ := h
  obtain ⟨y0, y1, n, hx, hlen, t0, t1⟩ := trod_struct2 Tryd.underlying41 hf
  obtain ⟨cl⟩ := cs
  simp only [Value.cells, List.size_toArray] at t0 t1 hlen hsz
  rw [hC2] at t0 t1
  match cl, hsz.trans hC with
  | [c0, c1, c2, c3], _ =>
    simp at t0 t1
    obtain ⟨a, e0, ha⟩ := open_zi t0
    obtain ⟨b, e1, hb⟩ := open_zi t1
    simp only [List.cons.injEq, and_true] at e0 e1
    obtain ⟨rfl, rfl⟩ := e0
    obtain ⟨rfl, rfl⟩ := e1
    exact ⟨a, b, rfl, ha, hb⟩
end
end Go.Proofs.YteoemijgdcpopaaDoor
