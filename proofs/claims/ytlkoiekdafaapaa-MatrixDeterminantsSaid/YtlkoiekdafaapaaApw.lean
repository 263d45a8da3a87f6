/- append in a region that draws its order; append of ints that lie somewhere. -/
import Derived.Deep.AppendLies
import Derived.Laws.AppendOwnNone
import Derived.Test.YtlkoiekdafaapaaApp
import Derived.Test.YtlkoiekdafaapaaInts
namespace Go.Proofs.Ytlkoiekdafaapaa
open Go.RowKit

theorem step_append_z1 {ops : Array Oper} {o : Oper} {a : Act} {K : Act → World → Prop} {Q : Exit → Act → World → Prop} {w : World} {E : Prop} (hgd : o.guard = none) (s x : Operand)
    (ho : o.op = .call { callee := .builtin .append, args := #[s, x], argTypes := #[24, 24] })
    (base : Nat) (v : Value) (xs : List Int) (hs : a.eval s = v) (hown : OwnZ w base v xs) (g c : Nat) (y : Int) (hx : a.eval x = .slice (some ⟨g, 0, none⟩) 1 c)
    (h0 : w.cell? ⟨g, 0, none⟩ = some (.bool (canon y).neg)) (h1 : w.cell? ⟨g, 1, none⟩ = some (.string (canon y).mag)) (hn : xs.length < 1000000000) (hbase : base ≤ w.heap.size)
    (h : ∀ v' w', OwnZ w' base v' (xs ++ [y]) → w.grownBy w' v.ownBlock → K (a.put o.dst v') w') :
    if Region.wanted o (yielded ops a.tmps) = true then Oper.wp Try.prog o a w K Q else E := by
  obtain ⟨i0, hi, hzz⟩ := Option.map_eq_some_iff.1 zInfo
  simp only [Prod.mk.injEq] at hzz
  obtain ⟨hz0, hz1, hz2⟩ := hzz
  refine step_append_lies w hgd s x _ ho base 27 i0 (.agg #[.bool false, .string ⟨#[]⟩]) 2 24 Try.underlying24 hi hz0 hz1 hz2 rfl (by decide) v xs.length (zL xs) hs hown ⟨g, 0, none⟩ 1 c (zL [y]) hx rfl ?_ (zL_one [y]) (by decide) ?_ ?_ hbase _ rfl ?_
  · intro j u hj
    match j, hj with
    | 0, hj => simp [zL] at hj; subst hj; simpa [Addr.add] using h0
    | 1, hj => simp [zL] at hj; subst hj; simpa [Addr.add] using h1
  · unfold maxLen; omega
  · omega
  · intro g' cap w' h2 h3 _ _
    exact h _ w' (by unfold OwnZ; rw [List.length_append, zL_append]; exact h2) h3
theorem step_append_i1 {ops : Array Oper} {o : Oper} {a : Act} {K : Act → World → Prop} {Q : Exit → Act → World → Prop} {w : World} {E : Prop} (hgd : o.guard = none) (s x : Operand)
    (ho : o.op = .call { callee := .builtin .append, args := #[s, x], argTypes := #[111, 111] })
    (base : Nat) (v : Value) (xs : List Int) (hs : a.eval s = v) (hown : OwnInts w base v xs) (g c : Nat) (y : Int) (hx : a.eval x = .slice (some ⟨g, 0, none⟩) 1 c)
    (hc : w.cell? ⟨g, 0, none⟩ = some (.int .i64 y)) (hn : xs.length < 1000000000) (hbase : base ≤ w.heap.size)
    (h : ∀ g' cap w', OwnInts w' base (.slice (some ⟨g', 0, none⟩) (xs.length + 1) cap) (xs ++ [y]) → w.grownBy w' v.ownBlock → K (a.put o.dst (.slice (some ⟨g', 0, none⟩) (xs.length + 1) cap)) w') :
    if Region.wanted o (yielded ops a.tmps) = true then Oper.wp Try.prog o a w K Q else E := by
  obtain ⟨i0, hi, hz0, hz1, hz2⟩ := info_parts intInfo
  refine step_append_lies w hgd s x _ ho base 3 i0 (.int .i64 0) 1 8 Try.underlying111 hi hz0 hz1 hz2 rfl (by decide) v xs.length (xs.map (Value.int .i64)) hs hown ⟨g, 0, none⟩ 1 c [.int .i64 y] hx rfl ?_ ?_ (by decide) ?_ ?_ hbase _ rfl ?_
  · intro j u hj
    match j, hj with
    | 0, hj => simp at hj; subst hj; simpa [Addr.add] using hc
  · intro u hu; simp at hu; subst hu; rfl
  · unfold maxLen; omega
  · omega
  · intro g' cap w' h2 h3 _ _
    exact h g' cap w' (by unfold OwnInts; simpa using h2) h3
/-- append(out, ys...) of ints that lie somewhere, or of none. -/
theorem wpList_append_ints {ops : Array Oper} {rest : List Oper} {o : Oper} {a : Act} {Q : Exit → Act → World → Prop} {w : World} (hgd : o.guard = none) (s x : Operand)
    (ho : o.op = .call { callee := .builtin .append, args := #[s, x], argTypes := #[111, 111] })
    (base : Nat) (v : Value) (xs : List Int) (hs : a.eval s = v) (hown : OwnInts w base v xs) (p : Option Addr) (c m : Nat) (ys : List Int) (hm : ys.length = m) (hx : a.eval x = .slice p m c)
    (hy : IntsAt w p ys) (hp : p = none → c = 0) (hn : xs.length + ys.length < 1000000000) (hbase : base ≤ w.heap.size)
    (h : ∀ v' w', OwnInts w' base v' (xs ++ ys) → Below base w w' → wpList Try.prog ops Q rest (a.put o.dst v') w') : wpList Try.prog ops Q (o :: rest) a w := by
  obtain ⟨i0, hi, hz0, hz1, hz2⟩ := info_parts intInfo
  subst hm
  rcases hyp : p with _ | ad
  · have hc := hp hyp
    have hl : ys = [] := by
      rcases hy with h | ⟨b, off, he, _⟩
      · exact List.length_eq_zero_iff.1 h
      · rw [hyp] at he; cases he
    subst hl
    rw [hyp, hc] at hx
    refine wpList_append_own_none hgd s x _ ho base 3 i0 1 Try.underlying111 hi v xs.length (xs.map (Value.int .i64)) hs hown hx ?_
    exact h v w (by rw [List.append_nil]; exact hown) (Below.refl _ _)
  · rw [hyp] at hx
    refine wpList_append_own _ hgd s x _ ho base 3 i0 (.int .i64 0) 1 8 Try.underlying111 hi hz0 hz1 hz2 rfl (by decide) v xs.length (xs.map (Value.int .i64)) hs hown ad ys.length c (ys.map (Value.int .i64)) hx (by simp) ?_ ?_ ?_ ?_ hbase ?_
    · intro j u hj
      have hjl : j < ys.length := by
        have := (List.getElem?_eq_some_iff.1 hj).1
        simpa using this
      obtain ⟨b, off, he, _, hc⟩ := hy.cells hjl
      rw [hyp] at he
      obtain rfl := Option.some.inj he
      rw [Addr.add_lit, hc j hjl]
      simp [hjl] at hj
      rw [← hj, List.getD_eq_getElem?_getD, List.getElem?_eq_getElem hjl]; rfl
    · intro u hu
      obtain ⟨z, _, rfl⟩ := List.mem_map.1 hu
      rfl
    · unfold maxLen; omega
    · omega
    · intro v' w' h2 h3 _
      exact h v' w' (by unfold OwnInts; simpa using h2) (below_append (Below.refl _ _) hown h3 hbase (Nat.le_refl _))
end Go.Proofs.Ytlkoiekdafaapaa
