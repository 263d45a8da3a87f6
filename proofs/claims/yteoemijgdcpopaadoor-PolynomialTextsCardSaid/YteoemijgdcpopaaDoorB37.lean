/- The walk of strings.Builder's WriteByte at this dump. -/
import Derived.Test.YteoemijgdcpopaaDoorB36
namespace Go.Proofs.YteoemijgdcpopaaDoor
open Go.RowKit

/-- 'out = append(out, c)' of bytes onto a row of the call's own. -/
theorem wpList_append_byt {ops : Array Oper} {rest : List Oper} {o : Oper} {a : Act} {Q : Exit → Act → World → Prop} {w : World} (hgd : o.guard = none) (s x : Operand)
    (ho : o.op = .call { callee := .builtin .append, args := #[s, x], argTypes := #[58, 58] })
    (base : Nat) (v : Value) (xs : List Value) (hs : a.eval s = v) (hown : w.ownsRow base 5 1 v xs.length xs) (g c : Nat) (y : UInt8) (hx : a.eval x = .slice (some ⟨g, 0, none⟩) 1 c)
    (hc : w.cell? ⟨g, 0, none⟩ = some (.int .u8 (y.toNat : Int))) (hn : xs.length < 140737488355328) (hbase : base ≤ w.heap.size)
    (h : ∀ v' w', w'.ownsRow base 5 1 v' (xs.length + 1) (xs ++ [.int .u8 (y.toNat : Int)]) → w.grownBy w' v.ownBlock → wpList Tryd.prog ops Q rest (a.put o.dst v') w') : wpList Tryd.prog ops Q (o :: rest) a w := by
  obtain ⟨i0, hi, hz0, hz1, hz2⟩ := info_parts bldByte
  refine wpList_append_own _ hgd s x _ ho base 5 i0 (.int .u8 0) 1 1 Tryd.underlying58 hi hz0 hz1 hz2 rfl (by decide) v xs.length xs hs hown ⟨g, 0, none⟩ 1 c [.int .u8 (y.toNat : Int)] hx rfl ?_ ?_ ?_ ?_ hbase ?_
  · intro j u hj
    match j, hj with
    | 0, hj => simp at hj; subst hj; simpa [Addr.add] using hc
  · intro u hu; simp at hu; subst hu; rfl
  · unfold maxLen; omega
  · omega
  · intro v' w' h2 h3 _
    exact h v' w' h2 h3

set_option maxHeartbeats 2000000 in
set_option maxRecDepth 100000 in
theorem writeByte_k (B b : Nat) (bs : List Value) (s : UInt8) (w : World) (h : Lib.IsBuilder 60 5 B b bs w) (hlen : bs.length + 1 ≤ 140737488355328) (hBw : B ≤ w.heap.size) :
    Calls Tryd.prog 107 #[.pointer (some ⟨b, 0, none⟩), .int .u8 (s.toNat : Int)] w fun e w' => e = .returned .nilIface ∧ Lib.IsBuilder 60 5 B b (bs ++ [.int .u8 (s.toNat : Int)]) w' ∧ Below B w w' := by
  go_enter Tryd.func107, Tryd.ntmps107
  go_wp2_with fail
  refine (copyCheck_any B b bs _ h).mono ?_
  rintro e w1 ⟨rfl, h1, hb1, hk1⟩
  have Hk1 := Lib.hid hk1
  have H1 := Lib.hid h1
  have Hb1 := Lib.hid hb1
  obtain ⟨hB, v, hbk, hown, hne⟩ := h1
  have hlt := H1.out.lt
  have c0 : w1.cell? ⟨b, 0, none⟩ = some (.pointer (some ⟨b, 0, none⟩)) := by rw [Lib.cell_of_heap hbk]; rfl
  have c1 : w1.cell? ⟨b, 1, none⟩ = some v := by rw [Lib.cell_of_heap hbk]; rfl
  have hs1 := hb1.size
  have Hbk := Lib.hid hbk
  have Hne := Lib.hid hne
  have Hown := Lib.hid hown
  clear h hb1 hbk hne hown hk1
  have hsz : B ≤ w1.heap.size := by omega
  have Hba := Lib.hid (Hb1.out.alloc hsz (.cells #[.int .u8 (s.toNat : Int)] 5))
  have Hoa := Lib.hid (World.ownsRow.alloc Hown.out (.cells #[.int .u8 (s.toNat : Int)] 5))
  have Hbk' := Lib.hid (show (w1.alloc (.cells #[.int .u8 (s.toNat : Int)] 5)).heap[b]? = some (.cells #[.pointer (some ⟨b, 0, none⟩), v] 60 (0, 0)) from (by rw [World.alloc, Array.getElem?_push_lt hlt, ← Array.getElem?_eq_getElem hlt]; exact Hbk.out))
  go_wp2_with (at_builtin; refine wpList_append_byt rfl _ _ rfl B v bs rfl Hoa.out w1.heap.size 1 s rfl (cell_new0 _ _ _) (by omega) (by simp; omega) ?_)
  intro v' w2 hown' hgrow
  have hb2 : w2.heap[b]? = some (.cells #[.pointer (some ⟨b, 0, none⟩), v] 60 (0, 0)) := by
    rw [hgrow.block b (by simp; omega) (fun e => Hne.out e.symm)]
    exact Hbk'.out
  have d0 : w2.cell? ⟨b, 0, none⟩ = some (.pointer (some ⟨b, 0, none⟩)) := by rw [Lib.cell_of_heap hb2]; rfl
  have d1 : w2.cell? ⟨b, 1, none⟩ = some v := by rw [Lib.cell_of_heap hb2]; rfl
  have f1 : w2.frozen? ⟨b, 1, none⟩ = false := Lib.frozen_of_heap hb2 1
  obtain ⟨ao, n', cap, rfl⟩ : ∃ ao n' cap, v' = .slice ao n' cap := by
    rcases hown'.2 with ⟨hv, _⟩ | ⟨g, cap, cur, hv, _⟩
    · exact ⟨_, _, _, hv⟩
    · exact ⟨_, _, _, hv⟩
  have Hb2 := Lib.hid hb2
  have Hown2 := Lib.hid hown'
  have Hgrow := Lib.hid hgrow
  clear hb2 hown' hgrow
  go_wp2
  go_ret
  refine ⟨rfl, .inr ?_, ?_⟩
  · exact Lib.BuilderAt.put (T := 60) (e := 5) hB Hb2.out (bs' := bs ++ [.int .u8 (s.toNat : Int)]) (by simpa using Hown2.out) (by decide)
  · exact (Hba.out.grown Hgrow.out (by simp; omega) (fun k hk => (Hoa.out.lt k hk).1)).setCell (p := ⟨b, 1, none⟩) hB _
end Go.Proofs.YteoemijgdcpopaaDoor
