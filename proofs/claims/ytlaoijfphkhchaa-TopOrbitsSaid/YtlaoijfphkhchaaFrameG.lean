/- A graph that came in. -/
import Derived.Test.YtlaoijfphkhchaaFrame0
import Derived.Test.YtlaoijfphkhchaaGph
namespace Go.Proofs.Ytlaoijfphkhchaa
open Go Go.RowKit Go.ChangeShapes Go.WideShapes Go.ChangeAt Go.Deep
section
variable {H : Type} {enc : TypeId × Value → H} {w : World}
set_option maxRecDepth 100000 in
theorem open_edges {fuel : Nat} {cs : List Value} {x : DataW H × List MemPlace} (h : DataW.trod enc Try.prog w 0 (fun _ => true) true fuel 22 cs = some x) :
    ∃ (a : Option Addr) (n c : Nat) (E : Nat → Nat → Int), cs = [.slice a n c] ∧ EdgAt w a n E ∧ n ≤ maxLen := by
  rcases open_slice Try.underlying22 h with ⟨hcs, hx⟩ | ⟨a, len, cap, m, n, D, Pl, hcs, _, hl, hm, hmm, hx, hi⟩
  · exact ⟨none, 0, 0, fun _ _ => 0, hcs, .inl rfl, by decide⟩
  · have hC : Try.prog.cellsOf 97 = 3 := by kernel_rfl
    simp only [if_true] at hmm
    rw [hmm] at hi
    have he : ∀ i, i < cap → ∃ e : Int × Int × Int, w.cell? (a.add (i * 3)) = some (.int .i64 e.1) ∧ w.cell? (a.add (i * 3 + 1)) = some (.int .i64 e.2.1) ∧ w.cell? (a.add (i * 3 + 2)) = some (.int .i64 e.2.2) := by
      intro i hil
      obtain ⟨cs', hc, ht'⟩ := hi i hil
      rw [hC] at hc
      obtain ⟨ys, n', _, hlen, _, hf⟩ := struct_fields (fs := _) Try.underlying97 (by kernel_rfl) (by rw [hC]; rfl) ht'
      obtain ⟨_, _, hat⟩ := World.cells?_some hc
      obtain ⟨v0, y0, hv0, _, t0⟩ := hf 0 _ rfl
      obtain ⟨v1, y1, hv1, _, t1⟩ := hf 1 _ rfl
      obtain ⟨v2, y2, hv2, _, t2⟩ := hf 2 _ rfl
      obtain ⟨k0, e0, _, _⟩ := DataW.trod_int Try.underlying3 t0
      obtain ⟨k1, e1, _, _⟩ := DataW.trod_int Try.underlying3 t1
      obtain ⟨k2, e2, _, _⟩ := DataW.trod_int Try.underlying3 t2
      simp at e0 e1 e2
      subst e0 e1 e2
      have a0 := hat 0 (by omega)
      have a1 := hat 1 (by omega)
      have a2 := hat 2 (by omega)
      rw [add_add, hv0] at a0
      rw [add_add, hv1] at a1
      rw [add_add, hv2] at a2
      exact ⟨(k0, k1, k2), a0, a1, a2⟩
    obtain ⟨T, hT⟩ := choose_lt he
    refine ⟨some a, len, cap, fun i j => if j = 0 then (T i).1 else if j = 1 then (T i).2.1 else (T i).2.2, hcs, ?_, Nat.le_trans hl hm⟩
    rcases Nat.eq_zero_or_pos len with h0 | h0
    · exact .inl h0
    · obtain ⟨b, off, spot⟩ := a
      have h00 := (hT 0 (by omega)).1
      have hspot : spot = none := by simpa [Addr.add] using World.cell?_spot h00
      subst hspot
      refine .inr ⟨b, off, rfl, World.block_lt_of_cell? w _ (by simpa [Addr.add] using h00), fun i hi' j hj => ?_⟩
      have hc := hT i (by omega)
      rw [Addr.add_lit, Addr.add_lit, Addr.add_lit] at hc
      have : j = 0 ∨ j = 1 ∨ j = 2 := by omega
      rcases this with rfl | rfl | rfl
      · simpa [edC] using hc.1
      · simpa [edC, Nat.add_assoc] using hc.2.1
      · simpa [edC, Nat.add_assoc] using hc.2.2
set_option maxRecDepth 100000 in
theorem open_graph {v : Value} {d : DataW H} {p : List MemPlace} {bb : Nat} (hv : Value.okWide Try.prog w .any bb 24 v) (h : DataW.Trod enc Try.prog w 0 (fun _ => true) true 24 v d p) :
    ∃ (l s : Int) (a : Option Addr) (n c : Nat) (E : Nat → Nat → Int), v = .agg #[.int .i64 l, .int .i64 s, .slice a n c] ∧ EdgAt w a n E ∧ n ≤ maxLen := by
  have hC : Try.prog.cellsOf 24 = 3 := by kernel_rfl
  obtain ⟨cs, rfl, hsz⟩ := okWide_struct Try.underlying24 hv
  obtain ⟨fuel, hf⟩ := h
  obtain ⟨ys, n, hx, hlen, hyl, hg⟩ := struct_fields (fs := _) Try.underlying24 (by kernel_rfl) (by rw [hC]; rfl) hf
  obtain ⟨v0, y0, hv0, _, t0⟩ := hg 0 _ rfl
  obtain ⟨v1, y1, hv1, _, t1⟩ := hg 1 _ rfl
  obtain ⟨v2, y2, hv2, _, t2⟩ := hg 2 _ rfl
  obtain ⟨l, e0, _, _⟩ := DataW.trod_int Try.underlying3 t0
  obtain ⟨s, e1, _, _⟩ := DataW.trod_int Try.underlying3 t1
  obtain ⟨a, k, c, E, e2, hE, hk⟩ := open_edges t2
  simp only [List.cons.injEq, and_true] at e0 e1 e2
  subst e0 e1 e2
  simp only [Value.cells] at hv0 hv1 hv2 hlen
  refine ⟨l, s, a, k, c, E, ?_, hE, hk⟩
  obtain ⟨cl⟩ := cs
  simp only [List.getElem?_toArray, List.size_toArray] at *
  match cl, hsz.trans hC with
  | [c0, c1, c2], _ =>
    simp at hv0 hv1 hv2
    subst hv0 hv1 hv2
    rfl
end
end Go.Proofs.Ytlaoijfphkhchaa
