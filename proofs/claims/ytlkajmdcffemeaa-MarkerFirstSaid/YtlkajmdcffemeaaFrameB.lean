/- A slice of bytes that came in. -/
import Derived.Test.YtlkajmdcffemeaaFrame0
import Derived.Test.YtlkajmdcffemeaaJoin
namespace Go.Proofs.Ytlkajmdcffemeaa
open Go Go.RowKit Go.ChangeShapes Go.WideShapes Go.ChangeAt Go.Deep
section
variable {H : Type} {enc : TypeId × Value → H} {w : World}
set_option maxRecDepth 100000 in
theorem open_bytes {v : Value} {d : DataW H} {p : List MemPlace} {bb : Nat} (hv : Value.okWide Try.prog w .any bb 40 v) (h : DataW.Trod enc Try.prog w 0 (fun _ => true) true 40 v d p) :
    ∃ (q : Option Addr) (c : Nat) (xs : List Nat), v = .slice q xs.length c ∧ ByteAt w q xs ∧ (∀ x ∈ xs, x < 256) ∧ xs.length ≤ maxLen := by
  obtain ⟨a0, l0, c0, rfl⟩ := okWide_slice Try.underlying40 hv
  obtain ⟨fuel, hf⟩ := h
  rcases open_ints Try.underlying40 Try.underlying5 (by kernel_rfl) hf with ⟨hcs, _⟩ | ⟨a, len, cap, zs, hcs, _, hl, hm, hz, _, hc, hwf⟩
  · exact ⟨none, 0, [], by simpa [Value.cells] using hcs, .inl rfl, (fun x hx => by cases hx), by decide⟩
  · simp only [if_true] at hz
    have hlz : len ≤ zs.length := by omega
    have hlen : ((zs.take len).map Int.toNat).length = len := by rw [List.length_map, List.length_take]; omega
    have hwf2 : ∀ n ∈ zs, 0 ≤ n ∧ n ≤ 255 := fun n hn => by
      have := hwf n hn
      simpa [Lit.wf, IntKind.min, IntKind.max, IntKind.signed, IntKind.bits] using this
    refine ⟨some a, cap, (zs.take len).map Int.toNat, by rw [hlen]; simpa [Value.cells] using hcs, ?_, ?_, by rw [hlen]; omega⟩
    · unfold ByteAt
      rw [hlen]
      rcases Nat.eq_zero_or_pos len with h0 | h0
      · exact .inl h0
      · obtain ⟨b, off, spot⟩ := a
        have h00 := hc 0 (by omega)
        have hspot : spot = none := by simpa [Addr.add] using World.cell?_spot h00
        subst hspot
        refine .inr ⟨b, off, rfl, World.block_lt_of_cell? w _ (by simpa [Addr.add] using h00), fun i hi j hj => ?_⟩
        have hj0 : j = 0 := by omega
        subst hj0
        have hci := hc i (by omega)
        have hzi : 0 ≤ zs.getD i 0 := by
          rw [List.getD_eq_getElem?_getD, List.getElem?_eq_getElem (show i < zs.length by omega)]
          exact (hwf2 _ (List.getElem_mem _)).1
        have e : (((zs.take len).map Int.toNat).getD i 0 : Int) = zs.getD i 0 := by
          rw [List.getD_eq_getElem?_getD, List.getElem?_map, List.getElem?_take_of_lt hi, List.getElem?_eq_getElem (show i < zs.length by omega)]
          rw [List.getD_eq_getElem?_getD, List.getElem?_eq_getElem (show i < zs.length by omega)] at hzi ⊢
          simp only [Option.map_some, Option.getD_some] at hzi ⊢
          omega
        show w.cell? ⟨b, off + i * 1 + 0, none⟩ = some (.int .u8 ((((zs.take len).map Int.toNat).getD i 0 : Nat) : Int))
        rw [e, ← hci]
        rcases i with _ | i <;> simp [Addr.add]
    · intro x hx
      obtain ⟨n, hn, rfl⟩ := List.mem_map.1 hx
      have := hwf2 n (List.mem_of_mem_take hn)
      omega
end
end Go.Proofs.Ytlkajmdcffemeaa
