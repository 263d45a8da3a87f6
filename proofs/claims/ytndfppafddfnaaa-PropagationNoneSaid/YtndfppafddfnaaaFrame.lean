/- Arguments opened: structs of one-cell fields, slices of them; what every law's frame needs. -/
import Derived.Test.YtndfppafddfnaaaWin
import Derived.ProofKit
import Derived.OpenShut
import Derived.SizedLaws
import Derived.Deep.Slices
import Derived.Deep.Fields
import Derived.Carry
namespace Go.Proofs.Ytndfppafddfnaaa
open Go.RowKit Go.ChangeShapes Go.WideShapes Go.ChangeAt Go.Deep

theorem own : ownKnob Try.prog.godebug = none := by kernel_rfl
theorem laidOut : laidOutB Try.prog = true := by kernel_rfl

section
variable {H : Type} {enc : TypeId × Value → H} {P : Program} {w : World} {base : Nat} {spare : Nat → Bool} {held : Bool}

/-- A struct whose fields are of one cell each, opened field by field. -/
theorem struct_fields {t : TypeId} {fs : Array Field} {fuel : Nat} {cs : List Value} {x : DataW H × List MemPlace} (ht : P.underlying t = some (.struct fs)) (hone : oneCellFields P fs = true) (hC : P.cellsOf t = fs.size)
    (h : DataW.trod enc P w base spare held fuel t cs = some x) :
    ∃ (ys : List (DataW H × List MemPlace)) (n : Nat), x = (.agg (ys.map (·.1)), ys.flatMap (·.2)) ∧ cs.length = fs.size ∧ ys.length = fs.size ∧
      ∀ (j : Nat) (f : Field), fs[j]? = some f → ∃ v y, cs[j]? = some v ∧ ys[j]? = some y ∧ DataW.trod enc P w base spare held n f.type [v] = some y := by
  obtain ⟨ys, n, _, hx, hlen, hyl, hf⟩ := DataW.trod_struct ht h
  rw [hC] at hlen
  refine ⟨ys, n, hx, hlen, hyl, fun j f hj => ?_⟩
  obtain ⟨ho, hk⟩ := hone_of hone j f hj
  have hjl : j < fs.size := (Array.getElem?_eq_some_iff.1 hj).1
  have h1 := hf j f hj
  rw [ho, hk, List.drop_eq_getElem_cons (by omega), List.take_succ_cons, List.take_zero] at h1
  have hys : ys[j]? = some (ys[j]'(by omega)) := List.getElem?_eq_getElem (by omega)
  exact ⟨cs[j]'(by omega), ys[j]'(by omega), List.getElem?_eq_getElem (by omega), hys, h1.trans hys⟩

/-- Every argument reads as it did where nothing below the old heap's end has turned. -/
theorem trodAll_below (hl : laidOutB P = true) {W W' : World} (hb : Below W.heap.size W W') : ∀ (ts : List TypeId) (vs : List Value) (ds : List (DataW H)) (ps : List MemPlace),
    (ts.all fun t => P.readableRec t && decide (t < P.types.size)) = true → DataW.TrodAll enc P W 0 (fun _ => true) true ts vs ds ps →
    DataW.TrodAll enc P W' 0 (fun b => decide (b < W.heap.size)) true ts vs ds ps
  | [], vs, ds, ps, _, h => by
    obtain ⟨rfl, rfl, rfl⟩ := trodAll_nil h
    exact trodAll_mk0
  | t :: ts, vs, ds, ps, hr, h => by
    obtain ⟨v, vs', d, ds', p, q, rfl, rfl, rfl, h0, r0⟩ := trodAll_cons h
    simp only [List.all_cons, Bool.and_eq_true, decide_eq_true_eq] at hr
    have lt : ∀ x ∈ p, x.block < W.heap.size := by obtain ⟨m, hm⟩ := h0; exact DataW.trod_lt m _ _ _ hm
    exact trodAll_cons_mk (Below.trod hl hr.1.1 hr.1.2 h0 hb lt) (trodAll_below hl hb ts vs' ds' q hr.2 r0)
end

section
variable {H : Type} {enc : TypeId × Value → H} {w : World}

set_option maxRecDepth 100000 in
/-- A slice of entries that came in. -/
theorem open_ents {fuel : Nat} {cs : List Value} {x : DataW H × List MemPlace} (h : DataW.trod enc Try.prog w 0 (fun _ => true) true fuel 22 cs = some x) :
    ∃ a c es, cs = [.slice a es.length c] ∧ EntsAt w a es ∧ WinsFit es ∧ es.length * 24 ∈ 0 :: (x.1.weights Try.prog 22).map (fun k => min k (es.length * 24)) := by
  rcases open_slice Try.underlying22 h with ⟨hcs, hx⟩ | ⟨a, len, cap, m, n, D, Pl, hcs, _, hl, hm, hmm, hx, hi⟩
  · exact ⟨none, 0, [], hcs, .inl rfl, (fun x hx => by cases hx), by simp⟩
  · have hC : Try.prog.cellsOf 71 = 2 := by kernel_rfl
    have hB : Try.prog.bytesOf 71 = 24 := by kernel_rfl
    simp only [if_true] at hmm
    rw [hmm] at hi
    have he : ∀ i, i < cap → ∃ e : Ent, w.cell? (a.add (i * 2)) = some (.string e.win) ∧ w.cell? (a.add (i * 2 + 1)) = some (.int .i64 e.inp) ∧ e.win.size ≤ 9223372036854775807 := by
      intro i hil
      obtain ⟨cs', hc, ht'⟩ := hi i hil
      rw [hC] at hc
      obtain ⟨ys, n', _, hlen, _, hf⟩ := struct_fields (fs := _) Try.underlying71 (by kernel_rfl) (by rw [hC]; rfl) ht'
      obtain ⟨_, _, hat⟩ := World.cells?_some hc
      obtain ⟨v0, y0, hv0, _, t0⟩ := hf 0 _ rfl
      obtain ⟨v1, y1, hv1, _, t1⟩ := hf 1 _ rfl
      obtain ⟨s, e0, _, hs⟩ := DataW.trod_string Try.underlying9 t0
      obtain ⟨k, e1, _, _⟩ := DataW.trod_int Try.underlying3 t1
      simp at e0 e1
      subst e0 e1
      have a0 := hat 0 (by omega)
      have a1 := hat 1 (by omega)
      rw [add_add, hv0] at a0
      rw [add_add, hv1] at a1
      exact ⟨⟨s, k⟩, a0, a1, by unfold maxLen at hs; omega⟩
    obtain ⟨E, hE⟩ := choose_lt he
    have hlen : ((List.range len).map E).length = len := by simp
    have hget : ∀ i, i < len → ((List.range len).map E).getD i default = E i := fun i hi => by
      rw [List.getD_eq_getElem?_getD, List.getElem?_map, List.getElem?_range hi]; rfl
    refine ⟨some a, cap, (List.range len).map E, by rw [hlen]; exact hcs, ?_, ?_, ?_⟩
    · unfold EntsAt
      rw [hlen]
      rcases Nat.eq_zero_or_pos len with h0 | h0
      · exact .inl h0
      · obtain ⟨b, off, spot⟩ := a
        have h00 := (hE 0 (by omega)).1
        have hspot : spot = none := by simpa [Addr.add] using World.cell?_spot h00
        subst hspot
        refine .inr ⟨b, off, rfl, ?_, fun i hi j hj => ?_⟩
        · exact World.block_lt_of_cell? w _ (by simpa [Addr.add] using h00)
        · have hc := hE i (by omega)
          rw [Addr.add_lit, Addr.add_lit] at hc
          unfold entC
          rw [hget i hi]
          have : j = 0 ∨ j = 1 := by omega
          rcases this with rfl | rfl
          · simpa using hc.1
          · simpa [Nat.add_assoc] using hc.2.1
    · intro x hx
      obtain ⟨i, hi, rfl⟩ := List.mem_map.1 hx
      exact (hE i (by have := List.mem_range.1 hi; omega)).2.2
    · rw [hlen, hx, hmm]
      simp only [DataW.weights, Try.underlying22, hB, List.map_cons, List.length_map, List.length_range]
      refine List.mem_cons_of_mem _ (List.mem_cons.2 (.inl ?_))
      omega

set_option maxRecDepth 100000 in
/-- A decoder that came in. -/
theorem open_dec {v : Value} {d : DataW H} {p : List MemPlace} {bb : Nat} (hv : Value.okWide Try.prog w .any bb 24 v) (h : DataW.Trod enc Try.prog w 0 (fun _ => true) true 24 v d p)
    (hw : ∀ n ∈ d.weights Try.prog 24, n ≤ reachBytes) :
    ∃ (l b i q f : Int) (a : Option Addr) (c : Nat) (es : List Ent), v = .agg #[.int .i64 l, .int .i64 b, .int .i64 i, .int .i64 q, .int .i64 f, .slice a es.length c] ∧ EntsAt w a es ∧ WinsFit es ∧ es.length ≤ 100000000000000 := by
  have hC : Try.prog.cellsOf 24 = 6 := by kernel_rfl
  obtain ⟨cs, rfl, hsz⟩ := okWide_struct Try.underlying24 hv
  obtain ⟨fuel, hf⟩ := h
  obtain ⟨ys, n, hx, hlen, hyl, hg⟩ := struct_fields (fs := _) Try.underlying24 (by kernel_rfl) (by rw [hC]; rfl) hf
  obtain ⟨v0, y0, hv0, _, t0⟩ := hg 0 _ rfl
  obtain ⟨v1, y1, hv1, _, t1⟩ := hg 1 _ rfl
  obtain ⟨v2, y2, hv2, _, t2⟩ := hg 2 _ rfl
  obtain ⟨v3, y3, hv3, _, t3⟩ := hg 3 _ rfl
  obtain ⟨v4, y4, hv4, _, t4⟩ := hg 4 _ rfl
  obtain ⟨v5, y5, hv5, hy5, t5⟩ := hg 5 _ rfl
  obtain ⟨l, e0, _, _⟩ := DataW.trod_int Try.underlying3 t0
  obtain ⟨b, e1, _, _⟩ := DataW.trod_int Try.underlying3 t1
  obtain ⟨i, e2, _, _⟩ := DataW.trod_int Try.underlying3 t2
  obtain ⟨q, e3, _, _⟩ := DataW.trod_int Try.underlying3 t3
  obtain ⟨f, e4, _, _⟩ := DataW.trod_int Try.underlying3 t4
  obtain ⟨a, c, es, e5, hE, hW, hwt⟩ := open_ents t5
  simp only [List.cons.injEq, and_true] at e0 e1 e2 e3 e4 e5
  subst e0 e1 e2 e3 e4 e5
  simp only [Value.cells] at hv0 hv1 hv2 hv3 hv4 hv5 hlen
  refine ⟨l, b, i, q, f, a, c, es, ?_, hE, hW, ?_⟩
  · obtain ⟨cl⟩ := cs
    simp only [List.getElem?_toArray, List.size_toArray] at *
    match cl, hsz.trans hC with
    | [c0, c1, c2, c3, c4, c5], _ =>
      simp at hv0 hv1 hv2 hv3 hv4 hv5
      subst hv0 hv1 hv2 hv3 hv4 hv5
      rfl
  · simp only [Prod.mk.injEq] at hx
    rw [hx.1] at hw
    rcases List.mem_cons.1 hwt with h0 | h0
    · omega
    · obtain ⟨k, hk, hke⟩ := List.mem_map.1 h0
      have : k ≤ reachBytes := hw k (by
        simp only [DataW.weights, Try.underlying24]
        exact DataW.weights_mem_each (j := 5) (t := 22) (d := y5.1) rfl (by rw [List.getElem?_map, hy5]; rfl) k hk)
      unfold reachBytes at this
      omega
end
end Go.Proofs.Ytndfppafddfnaaa
