/- A slice of strings that came in. -/
import Derived.Test.YtlkajmdcffemeaaFrame0
import Derived.Test.YtlkajmdcffemeaaStrs
import Derived.Deep.Strs
namespace Go.Proofs.Ytlkajmdcffemeaa
open Go Go.RowKit Go.ChangeShapes Go.WideShapes Go.ChangeAt Go.Deep
section
variable {H : Type} {enc : TypeId × Value → H} {w : World}
set_option maxRecDepth 100000 in
theorem open_strl {v : Value} {d : DataW H} {p : List MemPlace} {bb : Nat} (hv : Value.okWide Try.prog w .any bb 42 v) (h : DataW.Trod enc Try.prog w 0 (fun _ => true) true 42 v d p) :
    ∃ (q : Option Addr) (c : Nat) (xs : List ByteArray), v = .slice q xs.length c ∧ StrsAt w q xs ∧ (∀ x ∈ xs, x.size ≤ maxLen) ∧ xs.length ≤ c ∧ c ≤ maxLen := by
  obtain ⟨a0, l0, c0, rfl⟩ := okWide_slice Try.underlying42 hv
  obtain ⟨fuel, hf⟩ := h
  rcases open_strs (enc := enc) Try.underlying42 Try.underlying9 (by kernel_rfl) hf with ⟨hcs, _⟩ | ⟨a, len, cap, m, Sx, hcs, _, hl, hm, hmm, _, hc⟩
  · exact ⟨none, 0, [], by simpa [Value.cells] using hcs, .inl rfl, (fun x hx => by cases hx), Nat.le_refl _, by decide⟩
  · simp only [if_true] at hmm
    rw [hmm] at hc
    have hlen : ((List.range len).map Sx).length = len := by rw [List.length_map, List.length_range]
    refine ⟨some a, cap, (List.range len).map Sx, by rw [hlen]; simpa [Value.cells] using hcs, ?_, ?_, by rw [hlen]; exact hl, hm⟩
    · unfold StrsAt
      rw [hlen]
      rcases Nat.eq_zero_or_pos len with h0 | h0
      · exact .inl h0
      · obtain ⟨b, off, spot⟩ := a
        have h00 := (hc 0 (by omega)).1
        have hspot : spot = none := by simpa [Addr.add] using World.cell?_spot h00
        subst hspot
        refine .inr ⟨b, off, rfl, World.block_lt_of_cell? w _ (by simpa [Addr.add] using h00), fun i hi j hj => ?_⟩
        have hj0 : j = 0 := by omega
        subst hj0
        have hci := (hc i (by omega)).1
        have e : ((List.range len).map Sx).getD i ByteArray.empty = Sx i := by
          rw [List.getD_eq_getElem?_getD, List.getElem?_map, List.getElem?_range hi]; rfl
        show w.cell? ⟨b, off + i * 1 + 0, none⟩ = some (.string (((List.range len).map Sx).getD i ByteArray.empty))
        rw [e, ← hci]
        rcases i with _ | i <;> simp [Addr.add]
    · intro x hx
      obtain ⟨i, hi, rfl⟩ := List.mem_map.1 hx
      exact (hc i (by have := List.mem_range.1 hi; omega)).2
end
end Go.Proofs.Ytlkajmdcffemeaa
