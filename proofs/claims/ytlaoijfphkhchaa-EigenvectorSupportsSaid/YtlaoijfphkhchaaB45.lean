/- What every law's frame needs. A graph that came in. A slice of bytes that came in. A list of numbers, and a list of lists of numbers, that came in. -/
import Derived.Test.YtlaoijfphkhchaaRows
import Derived.Test.YtlaoijfphkhchaaB0
import Derived.ProofKit
import Derived.OpenShut
import Derived.SizedLaws
import Derived.Deep.Slices
import Derived.Deep.Fields
import Derived.Carry
import Derived.Test.YtlaoijfphkhchaaB18
import Derived.Test.YtlaoijfphkhchaaB43
import Derived.Test.YtlaoijfphkhchaaB23
import Derived.Deep.SlicePairs
namespace Go.Proofs.Ytlaoijfphkhchaa
open Go.RowKit Go.ChangeShapes Go.WideShapes Go.ChangeAt Go.Deep

theorem own : ownKnob Try.prog.godebug = none := by kernel_rfl
theorem laidOut : laidOutB Try.prog = true := by kernel_rfl

section
variable {H : Type} {enc : TypeId × Value → H} {P : Program} {w : World} {base : Nat} {spare : Nat → Bool} {held : Bool}

/-- A struct whose fields are of one cell each, opened field by field. -/
theorem struct_fields {t : TypeId} {fs : Array Field} {fuel : Nat} {cs : List Value} {x : DataW H × List MemPlace} (ht : P.underlying t = some (.struct fs)) (hone : oneCellFields P fs = true) (hC : P.cellsOf t = fs.size)
    (h : DataW.trod enc P w base spare held fuel t cs = some x) :
    ∃ (ys : List (DataW H × List MemPlace)) (n : Nat), x = (.agg (ys.map (·.1)), ys.flatMap (·.2)) ∧ cs.length = fs.size ∧ ys.length = fs.size ∧
      ∀ (j : Nat) (f : Field), fs[j]? = some f → ∃ v y, cs[j]? = some v ∧ ys[j]? = some y ∧ DataW.trod enc P w base spare held n f.type [v] = some y := by
  obtain ⟨ys, n, _, hx, hlen, hyl, hf⟩ := DataW.trod_struct ht h
  rw [hC] at hlen
  refine ⟨ys, n, hx, hlen, hyl, fun j f hj => ?_⟩
  obtain ⟨ho, hk⟩ := hone_of hone j f hj
  have hjl : j < fs.size := (Array.getElem?_eq_some_iff.1 hj).1
  have h1 := hf j f hj
  rw [ho, hk, List.drop_eq_getElem_cons (by omega), List.take_succ_cons, List.take_zero] at h1
  have hys : ys[j]? = some (ys[j]'(by omega)) := List.getElem?_eq_getElem (by omega)
  exact ⟨cs[j]'(by omega), ys[j]'(by omega), List.getElem?_eq_getElem (by omega), hys, h1.trans hys⟩

/-- Every argument reads as it did where nothing below the old heap's end has turned. -/
theorem trodAll_below (hl : laidOutB P = true) {W W' : World} (hb : Below W.heap.size W W') : ∀ (ts : List TypeId) (vs : List Value) (ds : List (DataW H)) (ps : List MemPlace),
    (ts.all fun t => P.readableRec t && decide (t < P.types.size)) = true → DataW.TrodAll enc P W 0 (fun _ => true) true ts vs ds ps →
    DataW.TrodAll enc P W' 0 (fun b => decide (b < W.heap.size)) true ts vs ds ps
  | [], vs, ds, ps, _, h => by
    obtain ⟨rfl, rfl, rfl⟩ := trodAll_nil h
    exact trodAll_mk0
  | t :: ts, vs, ds, ps, hr, h => by
    obtain ⟨v, vs', d, ds', p, q, rfl, rfl, rfl, h0, r0⟩ := trodAll_cons h
    simp only [List.all_cons, Bool.and_eq_true, decide_eq_true_eq] at hr
    have lt : ∀ x ∈ p, x.block < W.heap.size := by obtain ⟨m, hm⟩ := h0; exact DataW.trod_lt m _ _ _ hm
    exact trodAll_cons_mk (Below.trod hl hr.1.1 hr.1.2 h0 hb lt) (trodAll_below hl hb ts vs' ds' q hr.2 r0)
end
end Go.Proofs.Ytlaoijfphkhchaa
namespace Go.Proofs.Ytlaoijfphkhchaa
open Go Go.RowKit Go.ChangeShapes Go.WideShapes Go.ChangeAt Go.Deep
section
variable {H : Type} {enc : TypeId × Value → H} {w : World}
set_option maxRecDepth 100000 in
theorem open_edges {fuel : Nat} {cs : List Value} {x : DataW H × List MemPlace} (h : DataW.trod enc Try.prog w 0 (fun _ => true) true fuel 22 cs = some x) :
    ∃ (a : Option Addr) (n c : Nat) (E : Nat → Nat → Int), cs = [.slice a n c] ∧ EdgAt w a n E ∧ n ≤ maxLen := by
  rcases open_slice Try.underlying22 h with ⟨hcs, hx⟩ | ⟨a, len, cap, m, n, D, Pl, hcs, _, hl, hm, hmm, hx, hi⟩
  · exact ⟨none, 0, 0, fun _ _ => 0, hcs, .inl rfl, by decide⟩
  · have hC : Try.prog.cellsOf 97 = 3 := by kernel_rfl
    simp only [if_true] at hmm
    rw [hmm] at hi
    have he : ∀ i, i < cap → ∃ e : Int × Int × Int, w.cell? (a.add (i * 3)) = some (.int .i64 e.1) ∧ w.cell? (a.add (i * 3 + 1)) = some (.int .i64 e.2.1) ∧ w.cell? (a.add (i * 3 + 2)) = some (.int .i64 e.2.2) := by
      intro i hil
      obtain ⟨cs', hc, ht'⟩ := hi i hil
      rw [hC] at hc
      obtain ⟨ys, n', _, hlen, _, hf⟩ := struct_fields (fs := _) Try.underlying97 (by kernel_rfl) (by rw [hC]; rfl) ht'
      obtain ⟨_, _, hat⟩ := World.cells?_some hc
      obtain ⟨v0, y0, hv0, _, t0⟩ := hf 0 _ rfl
      obtain ⟨v1, y1, hv1, _, t1⟩ := hf 1 _ rfl
      obtain ⟨v2, y2, hv2, _, t2⟩ := hf 2 _ rfl
      obtain ⟨k0, e0, _, _⟩ := DataW.trod_int Try.underlying3 t0
      obtain ⟨k1, e1, _, _⟩ := DataW.trod_int Try.underlying3 t1
      obtain ⟨k2, e2, _, _⟩ := DataW.trod_int Try.underlying3 t2
      simp at e0 e1 e2
      subst e0 e1 e2
      have a0 := hat 0 (by omega)
      have a1 := hat 1 (by omega)
      have a2 := hat 2 (by omega)
      rw [add_add, hv0] at a0
      rw [add_add, hv1] at a1
      rw [add_add, hv2] at a2
      exact ⟨(k0, k1, k2), a0, a1, a2⟩
    obtain ⟨T, hT⟩ := choose_lt he
    refine ⟨some a, len, cap, fun i j => if j = 0 then (T i).1 else if j = 1 then (T i).2.1 else (T i).2.2, hcs, ?_, Nat.le_trans hl hm⟩
    rcases Nat.eq_zero_or_pos len with h0 | h0
    · exact .inl h0
    · obtain ⟨b, off, spot⟩ := a
      have h00 := (hT 0 (by omega)).1
      have hspot : spot = none := by simpa [Addr.add] using World.cell?_spot h00
      subst hspot
      refine .inr ⟨b, off, rfl, World.block_lt_of_cell? w _ (by simpa [Addr.add] using h00), fun i hi' j hj => ?_⟩
      have hc := hT i (by omega)
      rw [Addr.add_lit, Addr.add_lit, Addr.add_lit] at hc
      have : j = 0 ∨ j = 1 ∨ j = 2 := by omega
      rcases this with rfl | rfl | rfl
      · simpa [edC] using hc.1
      · simpa [edC, Nat.add_assoc] using hc.2.1
      · simpa [edC, Nat.add_assoc] using hc.2.2
set_option maxRecDepth 100000 in
theorem open_graph {v : Value} {d : DataW H} {p : List MemPlace} {bb : Nat} (hv : Value.okWide Try.prog w .any bb 24 v) (h : DataW.Trod enc Try.prog w 0 (fun _ => true) true 24 v d p) :
    ∃ (l s : Int) (a : Option Addr) (n c : Nat) (E : Nat → Nat → Int), v = .agg #[.int .i64 l, .int .i64 s, .slice a n c] ∧ EdgAt w a n E ∧ n ≤ maxLen := by
  have hC : Try.prog.cellsOf 24 = 3 := by kernel_rfl
  obtain ⟨cs, rfl, hsz⟩ := okWide_struct Try.underlying24 hv
  obtain ⟨fuel, hf⟩ := h
  obtain ⟨ys, n, hx, hlen, hyl, hg⟩ := struct_fields (fs := _) Try.underlying24 (by kernel_rfl) (by rw [hC]; rfl) hf
  obtain ⟨v0, y0, hv0, _, t0⟩ := hg 0 _ rfl
  obtain ⟨v1, y1, hv1, _, t1⟩ := hg 1 _ rfl
  obtain ⟨v2, y2, hv2, _, t2⟩ := hg 2 _ rfl
  obtain ⟨l, e0, _, _⟩ := DataW.trod_int Try.underlying3 t0
  obtain ⟨s, e1, _, _⟩ := DataW.trod_int Try.underlying3 t1
  obtain ⟨a, k, c, E, e2, hE, hk⟩ := open_edges t2
  simp only [List.cons.injEq, and_true] at e0 e1 e2
  subst e0 e1 e2
  simp only [Value.cells] at hv0 hv1 hv2 hlen
  refine ⟨l, s, a, k, c, E, ?_, hE, hk⟩
  obtain ⟨cl⟩ := cs
  simp only [List.getElem?_toArray, List.size_toArray] at *
  match cl, hsz.trans hC with
  | [c0, c1, c2], _ =>
    simp at hv0 hv1 hv2
    subst hv0 hv1 hv2
    rfl
end
end Go.Proofs.Ytlaoijfphkhchaa
namespace Go.Proofs.Ytlaoijfphkhchaa
open Go Go.RowKit Go.ChangeShapes Go.WideShapes Go.ChangeAt Go.Deep
section
variable {H : Type} {enc : TypeId × Value → H} {w : World}
set_option maxRecDepth 100000 in
theorem open_bytes {v : Value} {d : DataW H} {p : List MemPlace} {bb : Nat} (hv : Value.okWide Try.prog w .any bb 36 v) (h : DataW.Trod enc Try.prog w 0 (fun _ => true) true 36 v d p) :
    ∃ (q : Option Addr) (c : Nat) (xs : List Nat), v = .slice q xs.length c ∧ ByteAt w q xs ∧ (∀ x ∈ xs, x < 256) ∧ xs.length ≤ maxLen := by
  obtain ⟨a0, l0, c0, rfl⟩ := okWide_slice Try.underlying36 hv
  obtain ⟨fuel, hf⟩ := h
  rcases open_ints Try.underlying36 Try.underlying5 (by kernel_rfl) hf with ⟨hcs, _⟩ | ⟨a, len, cap, zs, hcs, _, hl, hm, hz, _, hc, hwf⟩
  · exact ⟨none, 0, [], by simpa [Value.cells] using hcs, .inl rfl, (fun x hx => by cases hx), by decide⟩
  · simp only [if_true] at hz
    have hlz : len ≤ zs.length := by omega
    have hlen : ((zs.take len).map Int.toNat).length = len := by rw [List.length_map, List.length_take]; omega
    have hwf2 : ∀ n ∈ zs, 0 ≤ n ∧ n ≤ 255 := fun n hn => by
      have := hwf n hn
      simpa [Lit.wf, IntKind.min, IntKind.max, IntKind.signed, IntKind.bits] using this
    refine ⟨some a, cap, (zs.take len).map Int.toNat, by rw [hlen]; simpa [Value.cells] using hcs, ?_, ?_, by rw [hlen]; omega⟩
    · unfold ByteAt
      rw [hlen]
      rcases Nat.eq_zero_or_pos len with h0 | h0
      · exact .inl h0
      · obtain ⟨b, off, spot⟩ := a
        have h00 := hc 0 (by omega)
        have hspot : spot = none := by simpa [Addr.add] using World.cell?_spot h00
        subst hspot
        refine .inr ⟨b, off, rfl, World.block_lt_of_cell? w _ (by simpa [Addr.add] using h00), fun i hi j hj => ?_⟩
        have hj0 : j = 0 := by omega
        subst hj0
        have hci := hc i (by omega)
        have hzi : 0 ≤ zs.getD i 0 := by
          rw [List.getD_eq_getElem?_getD, List.getElem?_eq_getElem (show i < zs.length by omega)]
          exact (hwf2 _ (List.getElem_mem _)).1
        have e : (((zs.take len).map Int.toNat).getD i 0 : Int) = zs.getD i 0 := by
          rw [List.getD_eq_getElem?_getD, List.getElem?_map, List.getElem?_take_of_lt hi, List.getElem?_eq_getElem (show i < zs.length by omega)]
          rw [List.getD_eq_getElem?_getD, List.getElem?_eq_getElem (show i < zs.length by omega)] at hzi ⊢
          simp only [Option.map_some, Option.getD_some] at hzi ⊢
          omega
        show w.cell? ⟨b, off + i * 1 + 0, none⟩ = some (.int .u8 ((((zs.take len).map Int.toNat).getD i 0 : Nat) : Int))
        rw [e, ← hci]
        rcases i with _ | i <;> simp [Addr.add]
    · intro x hx
      obtain ⟨n, hn, rfl⟩ := List.mem_map.1 hx
      have := hwf2 n (List.mem_of_mem_take hn)
      omega
end
end Go.Proofs.Ytlaoijfphkhchaa
namespace Go.Proofs.Ytlaoijfphkhchaa
open Go Go.RowKit Go.ChangeShapes Go.WideShapes Go.ChangeAt Go.Deep
section
variable {H : Type} {enc : TypeId × Value → H} {w : World}
set_option maxRecDepth 100000 in
theorem open_zrow {fuel : Nat} {cs : List Value} {x : DataW H × List MemPlace} (h : DataW.trod enc Try.prog w 0 (fun _ => true) true fuel 53 cs = some x) :
    ∃ (q : Option Addr) (n c : Nat) (Z : Nat → ZI), cs = [.slice q n c] ∧ GRow w q n Z ∧ n ≤ c ∧ c ≤ maxLen ∧ ∀ k, k < n → (Z k).mag.size ≤ maxLen := by
  rcases open_slice_pairs Try.underlying53 Try.underlying28 (by kernel_rfl) (by rfl) (by rfl) (by kernel_rfl) (by kernel_rfl) h with ⟨hcs, _⟩ | ⟨a, len, cap, m, n, V0, V1, D0, D1, P0, P1, hcs, _, hl, hm, hmm, _, hi⟩
  · exact ⟨none, 0, 0, fun _ => canon 0, hcs, .inl rfl, Nat.le_refl _, by decide, fun k hk => by omega⟩
  · simp only [if_true] at hmm
    rw [hmm] at hi
    have he : ∀ i, i < cap → ∃ z : Bool × ByteArray, w.cell? (a.add (i * 2)) = some (.bool z.1) ∧ w.cell? (a.add (i * 2 + 1)) = some (.string z.2) ∧ z.2.size ≤ maxLen := by
      intro i hil
      obtain ⟨c0, c1, t0, t1⟩ := hi i hil
      obtain ⟨b, e0, _⟩ := DataW.trod_bool Try.underlying4 t0
      obtain ⟨s, e1, _, hs⟩ := DataW.trod_string Try.underlying9 t1
      simp only [List.cons.injEq, and_true] at e0 e1
      rw [e0] at c0
      rw [e1] at c1
      exact ⟨(b, s), c0, c1, hs⟩
    obtain ⟨E, hE⟩ := choose_lt he
    refine ⟨some a, len, cap, fun i => ⟨(E i).1, (E i).2⟩, hcs, ?_, hl, hm, fun k hk => (hE k (by omega)).2.2⟩
    rcases Nat.eq_zero_or_pos len with h0 | h0
    · exact .inl h0
    · obtain ⟨b, off, spot⟩ := a
      have h00 := (hE 0 (by omega)).1
      have hspot : spot = none := by simpa [Addr.add] using World.cell?_spot h00
      subst hspot
      refine .inr ⟨b, off, rfl, World.block_lt_of_cell? w _ (by simpa [Addr.add] using h00), fun i hi' j hj => ?_⟩
      have hc := hE i (by omega)
      rw [Addr.add_lit, Addr.add_lit] at hc
      have : j = 0 ∨ j = 1 := by omega
      rcases this with rfl | rfl
      · simpa [zg] using hc.1
      · simpa [zg, Nat.add_assoc] using hc.2.1
set_option maxRecDepth 100000 in
theorem open_vec {v : Value} {d : DataW H} {p : List MemPlace} {bb : Nat} (hv : Value.okWide Try.prog w .any bb 53 v) (h : DataW.Trod enc Try.prog w 0 (fun _ => true) true 53 v d p) :
    ∃ (q : Option Addr) (n c : Nat) (Z : Nat → ZI), v = .slice q n c ∧ GRow w q n Z ∧ n ≤ maxLen ∧ ∀ k, k < n → (Z k).mag.size ≤ maxLen := by
  obtain ⟨a0, l0, c0, rfl⟩ := okWide_slice Try.underlying53 hv
  obtain ⟨fuel, hf⟩ := h
  obtain ⟨q, n, c, Z, hcs, hr, h1, h2, h3⟩ := open_zrow hf
  simp only [Value.cells, List.cons.injEq, and_true] at hcs
  exact ⟨q, n, c, Z, hcs, hr, Nat.le_trans h1 h2, h3⟩
set_option maxRecDepth 100000 in
theorem open_mat {v : Value} {d : DataW H} {p : List MemPlace} {bb : Nat} (hv : Value.okWide Try.prog w .any bb 63 v) (h : DataW.Trod enc Try.prog w 0 (fun _ => true) true 63 v d p) :
    ∃ (q : Option Addr) (c : Nat) (m : GM), v = .slice q m.r c ∧ m.At w q ∧ m.r ≤ maxLen ∧ ∀ i, i < m.r → m.L i ≤ maxLen ∧ ∀ k, k < m.L i → (m.Z i k).mag.size ≤ maxLen := by
  obtain ⟨a0, l0, c0, rfl⟩ := okWide_slice Try.underlying63 hv
  obtain ⟨fuel, hf⟩ := h
  rcases open_slice1 Try.underlying63 (by kernel_rfl) hf with ⟨hcs, hx⟩ | ⟨a, len, cap, m, n, V, D, Pl, hcs, _, hl, hm, hmm, hx, hi⟩
  · refine ⟨none, 0, ⟨0, fun _ => 0, fun _ _ => canon 0⟩, by simpa [Value.cells] using hcs, ⟨fun _ => (none, 0), .inl rfl, fun i hi => ?_⟩, by decide, fun i hi => ?_⟩
    · exact absurd hi (Nat.not_lt_zero _)
    · exact absurd hi (Nat.not_lt_zero _)
  · simp only [if_true] at hmm
    rw [hmm] at hi
    have he : ∀ i, i < cap → ∃ z : (Option Addr × Nat × Nat) × (Nat → ZI), w.cell? (a.add i) = some (.slice z.1.1 z.1.2.1 z.1.2.2) ∧ GRow w z.1.1 z.1.2.1 z.2 ∧ z.1.2.1 ≤ maxLen ∧ ∀ k, k < z.1.2.1 → (z.2 k).mag.size ≤ maxLen := by
      intro i hil
      obtain ⟨c0, t0⟩ := hi i hil
      obtain ⟨q, n, c, Z, e0, hr, h1, h2, h3⟩ := open_zrow t0
      simp only [List.cons.injEq, and_true] at e0
      rw [e0] at c0
      exact ⟨((q, n, c), Z), c0, hr, Nat.le_trans h1 h2, h3⟩
    haveI : Inhabited ((Option Addr × Nat × Nat) × (Nat → ZI)) := ⟨((none, 0, 0), fun _ => canon 0)⟩
    obtain ⟨E, hE⟩ := choose_lt he
    refine ⟨some a, cap, ⟨len, fun i => (E i).1.2.1, fun i => (E i).2⟩, by simpa [Value.cells] using hcs, ⟨fun i => ((E i).1.1, (E i).1.2.2), ?_, fun i hi' => (hE i (Nat.lt_of_lt_of_le hi' hl)).2.1⟩, Nat.le_trans hl hm, fun i hi' => (hE i (Nat.lt_of_lt_of_le hi' hl)).2.2⟩
    rcases Nat.eq_zero_or_pos len with h0 | h0
    · exact .inl h0
    · obtain ⟨b, off, spot⟩ := a
      have h00 := (hE 0 (by omega)).1
      have hspot : spot = none := by simpa [Addr.add] using World.cell?_spot h00
      subst hspot
      refine .inr ⟨b, off, rfl, World.block_lt_of_cell? w _ (by simpa [Addr.add] using h00), fun i hi' j hj => ?_⟩
      have hc := (hE i (Nat.lt_of_lt_of_le hi' hl)).1
      rw [Addr.add_lit] at hc
      have : j = 0 := by omega
      subst this
      simpa using hc
end
end Go.Proofs.Ytlaoijfphkhchaa
