/- The walk of marker.Recover. -/
import Derived.Test.YtlkajmdcffemeaaLift
import Derived.Test.YtlkajmdcffemeaaLocate
import Derived.Test.YtlkajmdcffemeaaQ8
import Derived.Deep.AppendLies
import Derived.Deep.RegionHeld
namespace Go.Proofs.Ytlkajmdcffemeaa
open Go.RowKit Go.Shelf
attribute [local go_sem] Oper.semAt_some

/-- In the midst of a round: both slices and their boxes. -/
def RInv (W : World) (B u1 u2 : Nat) (v0 g0 : Value) (X : World) (v g : Value) (ws : List ByteArray) (gs : List Bool) : Prop :=
  Boxed X u1 42 v0 ∧ Boxed X u2 46 g0 ∧ OwnStrs X B v ws ∧ OwnBools X B g gs ∧ KeepsOthers W X ∧ Below B W X ∧ B ≤ X.heap.size
theorem RInv.alloc {W X : World} {B u1 u2 : Nat} {v0 g0 v g : Value} {ws : List ByteArray} {gs : List Bool} (h : RInv W B u1 u2 v0 g0 X v g ws gs) (o : Obj) : RInv W B u1 u2 v0 g0 (X.alloc o) v g ws gs := by
  obtain ⟨h1, h2, h3, h4, h5, h6, h7⟩ := h
  exact ⟨h1.alloc o, h2.alloc o, h3.alloc o, h4.alloc o, h5.trans (KeepsOthers.alloc X o), h6.alloc h7 o, by simp; omega⟩
theorem keeps_row {X X' : World} {B e size n : Nat} {v : Value} {xs : List Value} (h : X.ownsRow B e size v n xs) (hg : X.grownBy X' v.ownBlock) : KeepsOthers X X' := by
  refine KeepsOthers.of_grownBy hg fun j o ej hj => ?_
  rcases h.2 with ⟨rfl, _⟩ | ⟨g, cap, cur, rfl, _, hgb, _⟩
  · simp [Value.ownBlock] at ej
  · obtain rfl : g = j := by simpa [Value.ownBlock] using ej
    rw [hgb] at hj; cases hj; rfl
theorem RInv.app1 {W X X' : World} {B u1 u2 : Nat} {v0 g0 v g v' : Value} {ws ws' : List ByteArray} {gs : List Bool} (h : RInv W B u1 u2 v0 g0 X v g ws gs) (ho : OwnStrs X' B v' ws') (hg : X.grownBy X' v.ownBlock) : RInv W B u1 u2 v0 g0 X' v' g ws' gs := by
  obtain ⟨h1, h2, h3, h4, h5, h6, h7⟩ := h
  refine ⟨h1.kept hg (h1.not_row (by decide) h3), h2.kept hg (h2.not_row (by decide) h3), ho, rows_kept h4 h3 (by decide) hg, h5.trans (keeps_row h3 hg), ?_, Nat.le_trans h7 hg.size⟩
  exact h6.grown hg h7 fun j ej => (h3.lt j ej).1
theorem RInv.app2 {W X X' : World} {B u1 u2 : Nat} {v0 g0 v g g' : Value} {ws : List ByteArray} {gs gs' : List Bool} (h : RInv W B u1 u2 v0 g0 X v g ws gs) (ho : OwnBools X' B g' gs') (hg : X.grownBy X' g.ownBlock) : RInv W B u1 u2 v0 g0 X' v g' ws gs' := by
  obtain ⟨h1, h2, h3, h4, h5, h6, h7⟩ := h
  refine ⟨h1.kept hg (h1.not_row (by decide) h4), h2.kept hg (h2.not_row (by decide) h4), rows_kept h3 h4 (by decide) hg, ho, h5.trans (keeps_row h4 hg), ?_, Nat.le_trans h7 hg.size⟩
  exact h6.grown hg h7 fun j ej => (h4.lt j ej).1

theorem step_append_str {P : Program} (hP : P = Try.prog) {ops : Array Oper} {o : Oper} {a : Act} {K : Act → World → Prop} {Q : Exit → Act → World → Prop} {E : Prop} {w : World} (hgd : o.guard = none) (s x : Operand)
    (ho : o.op = .call { callee := .builtin .append, args := #[s, x], argTypes := #[42, 42] })
    (base : Nat) (v : Value) (xs : List ByteArray) (hs : a.eval s = v) (hown : OwnStrs w base v xs) (g c : Nat) (y : ByteArray) (hx : a.eval x = .slice (some ⟨g, 0, none⟩) 1 c)
    (hc : w.cell? ⟨g, 0, none⟩ = some (.string y)) (hn : xs.length < 1000000000000) (hbase : base ≤ w.heap.size)
    (h : ∀ g' cap w', OwnStrs w' base (.slice (some ⟨g', 0, none⟩) (xs.length + 1) cap) (xs ++ [y]) → w.grownBy w' v.ownBlock → K (a.put o.dst (.slice (some ⟨g', 0, none⟩) (xs.length + 1) cap)) w') :
    if Region.wanted o (yielded ops a.tmps) = true then Oper.wp P o a w K Q else E := by
  subst hP
  obtain ⟨i0, hi, hz0, hz1, hz2⟩ := info_parts strInfo
  refine step_append_lies w hgd s x _ ho base 9 i0 (.string ⟨#[]⟩) 1 16 Try.underlying42 hi hz0 hz1 hz2 rfl (by decide) v xs.length (xs.map Value.string) hs hown ⟨g, 0, none⟩ 1 c [.string y] hx rfl ?_ ?_ (by decide) ?_ ?_ hbase _ rfl ?_
  · intro j u hj
    match j, hj with
    | 0, hj => simp at hj; subst hj; simpa [Addr.add] using hc
  · intro u hu; simp at hu; subst hu; rfl
  · unfold maxLen; omega
  · omega
  · intro g' cap w' h2 h3 _ _
    exact h g' cap w' (by unfold OwnStrs; simpa using h2) h3
theorem step_append_bool {P : Program} (hP : P = Try.prog) {ops : Array Oper} {o : Oper} {a : Act} {K : Act → World → Prop} {Q : Exit → Act → World → Prop} {E : Prop} {w : World} (hgd : o.guard = none) (s x : Operand)
    (ho : o.op = .call { callee := .builtin .append, args := #[s, x], argTypes := #[46, 46] })
    (base : Nat) (v : Value) (xs : List Bool) (hs : a.eval s = v) (hown : OwnBools w base v xs) (g c : Nat) (y : Bool) (hx : a.eval x = .slice (some ⟨g, 0, none⟩) 1 c)
    (hc : w.cell? ⟨g, 0, none⟩ = some (.bool y)) (hn : xs.length < 1000000000000) (hbase : base ≤ w.heap.size)
    (h : ∀ g' cap w', OwnBools w' base (.slice (some ⟨g', 0, none⟩) (xs.length + 1) cap) (xs ++ [y]) → w.grownBy w' v.ownBlock → K (a.put o.dst (.slice (some ⟨g', 0, none⟩) (xs.length + 1) cap)) w') :
    if Region.wanted o (yielded ops a.tmps) = true then Oper.wp P o a w K Q else E := by
  subst hP
  obtain ⟨i0, hi, hz0, hz1, hz2⟩ := info_parts boolInfo
  refine step_append_lies w hgd s x _ ho base 4 i0 (.bool false) 1 1 Try.underlying46 hi hz0 hz1 hz2 rfl (by decide) v xs.length (xs.map Value.bool) hs hown ⟨g, 0, none⟩ 1 c [.bool y] hx rfl ?_ ?_ (by decide) ?_ ?_ hbase _ rfl ?_
  · intro j u hj
    match j, hj with
    | 0, hj => simp at hj; subst hj; simpa [Addr.add] using hc
  · intro u hu; simp at hu; subst hu; rfl
  · unfold maxLen; omega
  · omega
  · intro g' cap w' h2 h3 _ _
    exact h g' cap w' (by unfold OwnBools; simpa using h2) h3

/-- Between two rounds of Recover. -/
def IRec (w : World) (B0 : Nat) (pre : List (ByteArray × Int)) (W : World) : Prop :=
  (∃ v, Boxed W (w.heap.size + 1 + 1 + 1) 42 v ∧ OwnStrs W B0 v (recW pre)) ∧ (∃ g, Boxed W (w.heap.size + 1 + 1 + 1 + 1) 46 g ∧ OwnBools W B0 g (recG pre)) ∧
  Boxed W w.heap.size 42 (.slice none 0 0) ∧ Boxed W (w.heap.size + 1) 46 (.slice none 0 0) ∧ Boxed W (w.heap.size + 1 + 1) 26 (.int .i64 0) ∧ (∀ x ∈ pre, x.2 ≠ 2) ∧ Below w.heap.size w W ∧ B0 ≤ W.heap.size
/-- A round has found a block that does not fit. -/
def XRecP (w : World) (L : List (ByteArray × Int)) (c : Code) (_ : List (ByteArray × Int)) (W : World) : Prop :=
  c = .ret ∧ okB L = false ∧ Boxed W w.heap.size 42 (.slice none 0 0) ∧ Boxed W (w.heap.size + 1) 46 (.slice none 0 0) ∧ Boxed W (w.heap.size + 1 + 1) 26 (.int .i64 20) ∧ Below w.heap.size w W
theorem IRec.abides {w : World} {B0 Bw B : Nat} (h1 : w.heap.size + 1 + 1 + 1 + 1 < Bw) (h2 : Bw < B0) (h3 : w.heap.size ≤ B) : AbT (TurnT B (TBk Bw)) (IRec w B0) := by
  rintro pre W W' row ⟨⟨v, hv, ho⟩, ⟨g, hg1, hg2⟩, ha, hb, hc, hx, hw, hz⟩ hg hr
  exact ⟨⟨v, boxed_turn hv hg hr (by omega), owns_turn ho hg hr h2⟩, ⟨g, boxed_turn hg1 hg hr (by omega), owns_turn hg2 hg hr h2⟩, boxed_turn ha hg hr (by omega), boxed_turn hb hg hr (by omega), boxed_turn hc hg hr (by omega), hx, below_turn hw (Nat.le_refl _) hg hr (by omega) h3, Nat.le_trans hz hg.size⟩
theorem XRecP.abides {w : World} {L : List (ByteArray × Int)} {Bw B : Nat} (h1 : w.heap.size + 1 + 1 + 1 + 1 < Bw) (h3 : w.heap.size ≤ B) (c : Code) : AbT (TurnT B (TBk Bw)) (XRecP w L c) := by
  rintro pre W W' row ⟨rfl, hL, ha, hb, hc, hw⟩ hg hr
  exact ⟨rfl, hL, boxed_turn ha hg hr (by omega), boxed_turn hb hg hr (by omega), boxed_turn hc hg hr (by omega), below_turn hw (Nat.le_refl _) hg hr (by omega) h3⟩

theorem recW_snoc (pre : List (ByteArray × Int)) (z : ByteArray × Int) : recW (pre ++ [z]) = recW pre ++ [if z.2 = 0 then z.1 else ⟨#[]⟩] := by unfold recW; rw [List.map_append]; rfl
theorem recG_snoc (pre : List (ByteArray × Int)) (z : ByteArray × Int) : recG (pre ++ [z]) = recG pre ++ [z.2 == 0] := by unfold recG; rw [List.map_append]; rfl
/-- The end of a round. -/
theorem rec_leaf {w X Z : World} {B0 : Nat} {v g v' g' : Value} {pre : List (ByteArray × Int)} {z : ByteArray × Int} {xx : ByteArray} {bb : Bool}
    (hI : RInv X B0 (w.heap.size + 1 + 1 + 1) (w.heap.size + 1 + 1 + 1 + 1) v g Z v' g' (recW pre ++ [xx]) (recG pre ++ [bb]))
    (hxx : xx = if z.2 = 0 then z.1 else ⟨#[]⟩) (hbb : bb = (z.2 == 0)) (hz : z.2 ≠ 2) (hne : ∀ x ∈ pre, x.2 ≠ 2)
    (h6 : Boxed X w.heap.size 42 (.slice none 0 0)) (h7 : Boxed X (w.heap.size + 1) 46 (.slice none 0 0)) (h8 : Boxed X (w.heap.size + 1 + 1) 26 (.int .i64 0)) (hb : Below w.heap.size w X) (hB : w.heap.size + 8 ≤ B0) :
    KeepsFrom B0 X ((Z.setCell ⟨w.heap.size + 1 + 1 + 1, 0, none⟩ v').setCell ⟨w.heap.size + 1 + 1 + 1 + 1, 0, none⟩ g') ∧
    KpBk (w.heap.size + 1 + 1 + 1 + 1 + 1 + 1 + 1) (w.heap.size + 1 + 1 + 1 + 1 + 1) (w.heap.size + 1 + 1 + 1 + 1 + 1 + 1) X ((Z.setCell ⟨w.heap.size + 1 + 1 + 1, 0, none⟩ v').setCell ⟨w.heap.size + 1 + 1 + 1 + 1, 0, none⟩ g') ∧
    IRec w B0 (pre ++ [z]) ((Z.setCell ⟨w.heap.size + 1 + 1 + 1, 0, none⟩ v').setCell ⟨w.heap.size + 1 + 1 + 1 + 1, 0, none⟩ g') := by
  obtain ⟨i1, i2, i3, i4, i5, i6, i7⟩ := hI
  have e3 : ∀ u, u < B0 → (some u) ≠ v'.ownBlock := fun u hu e => by
    have := (World.ownsRow.lt i3 u e.symm).1; omega
  have e4 : ∀ u, u < B0 → (some u) ≠ g'.ownBlock := fun u hu e => by
    have := (World.ownsRow.lt i4 u e.symm).1; omega
  refine ⟨((i5.trans (KeepsOthers.setCell _ _ _)).trans (KeepsOthers.setCell _ _ _)).from _, ?_, ⟨v', ?_, ?_⟩, ⟨g', ?_, ?_⟩, ?_, ?_, ?_, ?_, ?_, ?_⟩
  · exact ((KpBk.of_below i6 (by omega) (by omega) (by omega)).trans (KpBk.set _ _ (by omega) (by omega) (by omega))).trans (KpBk.set _ _ (by omega) (by omega) (by omega))
  · exact (i1.set v').kept (grownBy_setCell' _ _ _) (by simp)
  · rw [recW_snoc, ← hxx]
    exact World.ownsRow.kept (World.ownsRow.kept i3 (grownBy_setCell' _ _ _) (.inr (e3 _ (by omega)).symm)) (grownBy_setCell' _ _ _) (.inr (e3 _ (by omega)).symm)
  · exact (i2.kept (grownBy_setCell' _ _ _) (by simp)).set g'
  · rw [recG_snoc, ← hbb]
    exact World.ownsRow.kept (World.ownsRow.kept i4 (grownBy_setCell' _ _ _) (.inr (e4 _ (by omega)).symm)) (grownBy_setCell' _ _ _) (.inr (e4 _ (by omega)).symm)
  · exact ((show Boxed Z _ _ _ from (i6.block _ (by omega)).trans h6).kept (grownBy_setCell' _ _ _) (by simp; omega)).kept (grownBy_setCell' _ _ _) (by simp; omega)
  · exact ((show Boxed Z _ _ _ from (i6.block _ (by omega)).trans h7).kept (grownBy_setCell' _ _ _) (by simp)).kept (grownBy_setCell' _ _ _) (by simp)
  · exact ((show Boxed Z _ _ _ from (i6.block _ (by omega)).trans h8).kept (grownBy_setCell' _ _ _) (by simp)).kept (grownBy_setCell' _ _ _) (by simp)
  · intro x hx
    rcases List.mem_append.1 hx with hx | hx
    · exact hne x hx
    · rw [List.mem_singleton.1 hx]; exact hz
  · exact ((hb.trans (i6.mono (by omega))).setCell (by simp; omega) _).setCell (by simp; omega) _
  · simpa using i7

set_option maxRecDepth 100000 in
set_option maxHeartbeats 8000000 in
theorem Recover_any (b : Int) (m s : ByteArray) (hm : m.size ≤ maxLen) (hs : s.size ≤ maxLen) (w : World) :
    Calls Try.prog 25 #[.int .i64 b, .string m, .string s] w (RetRec (locErr b m s) (recOutW b m s) (recOutG b m s) w) := by
  have Hc := Lib.hid (check_mk b m s hm hs)
  obtain ⟨E, hE⟩ : ∃ E, mkErr b m.data.toList s.data.toList = E := ⟨_, rfl⟩
  rw [hE] at Hc
  by_cases hz : E = 0
  · have hz2 : (E != 0) = false := by rw [hz]; rfl
    obtain ⟨⟨hb1, hb2⟩, ⟨hm1, hm2⟩, hs2⟩ := mkErr_ok (hE.trans hz)
    obtain ⟨n, rfl⟩ : ∃ n : Nat, b = n := ⟨b.toNat, by omega⟩
    have hle : locErr n m s = if okB (blksW n m s) then 0 else 20 := by unfold locErr; rw [hE, if_neg (fun h => h hz)]; rfl
    have Hlen := Lib.hid (blksW_len n m s hm1)
    have HW : Hid (recOutW n m s = if okB (blksW n m s) then recW (blksW n m s) else []) := Lib.hid (by
      unfold recOutW; rw [hle, Int.toNat_natCast]
      cases okB (blksW n m s) <;> simp)
    have HG : Hid (recOutG n m s = if okB (blksW n m s) then recG (blksW n m s) else []) := Lib.hid (by
      unfold recOutG; rw [hle, Int.toNat_natCast]
      cases okB (blksW n m s) <;> simp)
    have Hle := Lib.hid hle
    have hn1 : 1 ≤ n := by omega
    have hn2 : n ≤ 100000 := by omega
    clear hE hm hs hle hb1 hb2
    refine calls_marks Try.func25 rfl ?_
    simp only [Try.ntmps25, List.size_toArray, List.length_cons, List.length_nil, Nat.reduceAdd, Nat.reduceSub, Array.replicate_succ, Array.replicate_zero, List.push_toArray, List.append_toArray, List.nil_append, List.cons_append]
    go_wp2_with first
      | (go_at_call 40; go_fit (Hc.out _); rintro e w1 ⟨rfl, hd⟩; have Hd := Lib.hid hd; clear hd)
      | (go_at_call 53; go_fit (blocks_any n m s _); rintro e w2 ⟨rfl, hw2⟩; have Hw2 := Lib.hid hw2; clear hw2)
    have hs1 : w1.heap.size = w.heap.size + 1 + 1 + 1 := by rw [Drawn.heap Hd.out]; simp
    have hh1 : w1.heap = (((w.alloc (.cells #[.slice none 0 0] 42)).alloc (.cells #[.slice none 0 0] 46)).alloc (.cells #[.int .i64 0] 26)).heap := Drawn.heap Hd.out
    have x6 : Boxed w1 w.heap.size 42 (.slice none 0 0) := by
      have := ((Boxed.new w 42 (.slice none 0 0)).alloc (.cells #[.slice none 0 0] 46)).alloc (.cells #[.int .i64 0] 26)
      unfold Boxed at this ⊢; rw [hh1]; exact this
    have x7 : Boxed w1 (w.heap.size + 1) 46 (.slice none 0 0) := by
      have := (Boxed.new (w.alloc (.cells #[.slice none 0 0] 42)) 46 (.slice none 0 0)).alloc (.cells #[.int .i64 0] 26)
      unfold Boxed at this ⊢; rw [hh1]; simpa using this
    have x8 : Boxed w1 (w.heap.size + 1 + 1) 26 (.int .i64 0) := by
      have := Boxed.new ((w.alloc (.cells #[.slice none 0 0] 42)).alloc (.cells #[.slice none 0 0] 46)) 26 (.int .i64 0)
      unfold Boxed at this ⊢; rw [hh1]; simpa using this
    have hw10 : Below w.heap.size w w1 := (((((Below.refl _ _).alloc (Nat.le_refl _) _).alloc (by simp) _).alloc (by simp; omega) _)).trans (Drawn.below Hd.out _)
    have hs2 : w2.heap.size = w.heap.size + 1 + 1 + 1 + 1 + 1 + 1 + 1 + 1 := by rw [Hw2.out]; simp [hs1]
    have y6 : Boxed w2 w.heap.size 42 (.slice none 0 0) := by
      rw [Hw2.out]; exact ((((x6.alloc _).alloc _).alloc _).alloc _).alloc _
    have y7 : Boxed w2 (w.heap.size + 1) 46 (.slice none 0 0) := by
      rw [Hw2.out]; exact ((((x7.alloc _).alloc _).alloc _).alloc _).alloc _
    have y8 : Boxed w2 (w.heap.size + 1 + 1) 26 (.int .i64 0) := by
      rw [Hw2.out]; exact ((((x8.alloc _).alloc _).alloc _).alloc _).alloc _
    have z10 : Boxed w2 (w.heap.size + 1 + 1 + 1) 42 (.slice none 0 0) := by
      rw [Hw2.out, ← hs1]; exact ((((Boxed.new w1 42 (.slice none 0 0)).alloc _).alloc _).alloc _).alloc _
    have z11 : Boxed w2 (w.heap.size + 1 + 1 + 1 + 1) 46 (.slice none 0 0) := by
      rw [Hw2.out, ← hs1]
      have := (((Boxed.new (w1.alloc (.cells #[.slice none 0 0] 42)) 46 (.slice none 0 0)).alloc (.cells #[.int .i64 (n : Int)] 3)).alloc (.cells #[.string m] 9)).alloc (.cells #[.string s] 9)
      simpa using this
    have hbb : Boxed w2 (w.heap.size + 1 + 1 + 1 + 1 + 1) 3 (.int .i64 (n : Int)) := by
      rw [Hw2.out, ← hs1]
      have := ((Boxed.new ((w1.alloc (.cells #[.slice none 0 0] 42)).alloc (.cells #[.slice none 0 0] 46)) 3 (.int .i64 (n : Int))).alloc (.cells #[.string m] 9)).alloc (.cells #[.string s] 9)
      simpa using this
    have hbm : Boxed w2 (w.heap.size + 1 + 1 + 1 + 1 + 1 + 1) 9 (.string m) := by
      rw [Hw2.out, ← hs1]
      have := (Boxed.new (((w1.alloc (.cells #[.slice none 0 0] 42)).alloc (.cells #[.slice none 0 0] 46)).alloc (.cells #[.int .i64 (n : Int)] 3)) 9 (.string m)).alloc (.cells #[.string s] 9)
      simpa using this
    have hbw : Boxed w2 (w.heap.size + 1 + 1 + 1 + 1 + 1 + 1 + 1) 9 (.string s) := by
      rw [Hw2.out, ← hs1]
      have := (Boxed.new ((((w1.alloc (.cells #[.slice none 0 0] 42)).alloc (.cells #[.slice none 0 0] 46)).alloc (.cells #[.int .i64 (n : Int)] 3)).alloc (.cells #[.string m] 9)) 9 (.string s))
      simpa using this
    have hw20 : Below w.heap.size w w2 := by
      rw [Hw2.out]
      exact (((((hw10.alloc (by omega) _).alloc (by simp; omega) _).alloc (by simp; omega) _).alloc (by simp; omega) _).alloc (by simp; omega) _)
    clear Hw2 x6 x7 x8 hh1 hw10
    rw [hs1]
    refine rangeW (gf := 72) (lb := #[.pointer (some ⟨w.heap.size + 1 + 1 + 1 + 1 + 1 + 1 + 1, 0, none⟩), .pointer (some ⟨w.heap.size + 1 + 1 + 1 + 1 + 1, 0, none⟩), .pointer (some ⟨w.heap.size + 1 + 1 + 1 + 1 + 1 + 1, 0, none⟩)]) rfl (enters_of Try.func72 (by kernel_rfl) rfl)
      (encs := encB) (G := GBk (blksW n m s)) (S := fun xs => xs = blksW n m s) (T := TBk (w.heap.size + 1 + 1 + 1 + 1 + 1 + 1 + 1)) (Kp := KpBk (w.heap.size + 1 + 1 + 1 + 1 + 1 + 1 + 1) (w.heap.size + 1 + 1 + 1 + 1 + 1) (w.heap.size + 1 + 1 + 1 + 1 + 1 + 1))
      (Pre := fun X => Boxed X (w.heap.size + 1 + 1 + 1 + 1 + 1 + 1 + 1) 9 (.string s) ∧ Boxed X (w.heap.size + 1 + 1 + 1 + 1 + 1) 3 (.int .i64 (n : Int)) ∧ Boxed X (w.heap.size + 1 + 1 + 1 + 1 + 1 + 1) 9 (.string m))
      (fun l J Jx X hX hJ _ hY h0 => blocks1_in l _ _ _ n m s J Jx hJ hY X hX.1 hX.2.1 hX.2.2 (by omega) (by omega) hn1 hn2 hm1 (by omega) (by omega) h0)
      (by rintro r X rfl; omega) (fun h k => h.trans k) (fun X l o o' hl ho hc => KpBk.put o' (by omega) (by omega) (by omega))
      (fun X hX => ⟨(hX.block _ hbw.lt).trans hbw, (hX.block _ hbb.lt).trans hbb, (hX.block _ hbm.lt).trans hbm⟩) (fun _ => rfl)
      (fun x pre X X' row h hg hr => h)
      (IRec w w2.heap.size) (XRecP w (blksW n m s)) (IRec.abides (by omega) (by omega) (by omega)) (XRecP.abides (by omega) (by omega))
      ⟨⟨_, z10, OwnStrs.nil _ _⟩, ⟨_, z11, OwnBools.nil _ _⟩, y6, y7, y8, by simp, hw20, Nat.le_refl _⟩
      (fun z => { tmps := #[.int .i64 (n : Int), .string m, .string s, undef, undef, undef, .pointer (some ⟨w.heap.size, 0, none⟩), .pointer (some ⟨w.heap.size + 1, 0, none⟩), .pointer (some ⟨w.heap.size + 1 + 1, 0, none⟩), .int .i64 0, .pointer (some ⟨w.heap.size + 1 + 1 + 1, 0, none⟩), .pointer (some ⟨w.heap.size + 1 + 1 + 1 + 1, 0, none⟩), .string z.1, .int .i64 z.2, .int .i64 (n : Int), .string m, .string s, .int .i64 0, .int .i64 0, .bool false, undef, .int .i64 (n : Int), .string m, .string s, .func (.func 72) #[] #[.pointer (some ⟨w.heap.size + 1 + 1 + 1 + 1 + 1 + 1 + 1, 0, none⟩), .pointer (some ⟨w.heap.size + 1 + 1 + 1 + 1 + 1, 0, none⟩), .pointer (some ⟨w.heap.size + 1 + 1 + 1 + 1 + 1 + 1, 0, none⟩)], .string z.1, .int .i64 z.2, undef, undef, undef, undef, undef, undef, undef, undef, undef, undef, undef, undef, undef, undef, undef], defers := [] }) ?assign ?body ?done ?stop
    case assign =>
      intro l z X K hK
      dsimp only [encB]
      gi_wp2
      exact hK
    case body =>
      rintro l pre z X ⟨⟨v, hv, ho⟩, ⟨g, hg, hog⟩, h6, h7, h8, hne, hb, hX2⟩ hgz
      have hvc := hv.cell
      have hvf := hv.frozen
      have hgc := hg.cell
      have hgf := hg.frozen
      have h6c := h6.cell
      have h6f := h6.frozen
      have h7c := h7.cell
      have h7f := h7.frozen
      have h8c := h8.cell
      have h8f := h8.frozen
      by_cases hz : z.2 = 2
      · have hzb : (z.2 == 2) = true := by rw [hz]; rfl
        have Hz := Lib.hid hz
        clear hz
        gi_wp2
        refine ⟨(((KeepsOthers.setCell _ _ _).trans (KeepsOthers.setCell _ _ _)).trans (KeepsOthers.setCell _ _ _)).from _, rfl, ?_, ?_, ?_, ?_, ?_⟩
        · obtain ⟨rest, he⟩ := hgz
          rw [he]; simp [okB, Hz.out]
        · exact ((h6.set _).kept (grownBy_setCell' _ _ _) (by simp)).kept (grownBy_setCell' _ _ _) (by simp; omega)
        · exact ((h7.kept (grownBy_setCell' _ _ _) (by simp)).set _).kept (grownBy_setCell' _ _ _) (by simp)
        · exact ((h8.kept (grownBy_setCell' _ _ _) (by simp; omega)).kept (grownBy_setCell' _ _ _) (by simp)).set _
        · exact ((hb.setCell (by simp) _).setCell (by simp) _).setCell (by simp; omega) _
      · have hzb : (z.2 == 2) = false := by rw [beq_eq_false_iff_ne]; exact hz
        have Hz := Lib.hid hz
        clear hz
        have hpl : (recW pre).length < 1000000000000 := by
          obtain ⟨rest, he⟩ := hgz
          have := Hlen.out
          rw [he] at this
          simp [recW] at this ⊢
          omega
        have hpl2 : (recG pre).length < 1000000000000 := by
          obtain ⟨rest, he⟩ := hgz
          have := Hlen.out
          rw [he] at this
          simp [recG] at this ⊢
          omega
        by_cases h0 : z.2 = 0
        · have h0b : (z.2 != 0) = false := by rw [h0]; rfl
          gi_wp2
          have Hxx := Lib.hid (show z.1 = if z.2 = 0 then z.1 else ⟨#[]⟩ by rw [if_pos h0])
          have Hbb := Lib.hid (show true = (z.2 == 0) by rw [h0]; rfl)
          --REGION1
          refine region_lift (by kernel_rfl) (by kernel_rfl) (by rintro ⟨_, _, h⟩; exact h) ?_
          have hI : RInv X w2.heap.size (w.heap.size + 1 + 1 + 1) (w.heap.size + 1 + 1 + 1 + 1) v g X.drew v g (recW pre) (recG pre) := ⟨hv, hg, ho, hog, KeepsOthers.drew X, (Below.refl _ _).drew, hX2⟩
          generalize X.drew = Y0 at *
          clear hvc hvf hgc hgf h6c h6f h7c h7f h8c h8f
          have yv := hI.1.cell
          have yvf := hI.1.frozen
          have yg := hI.2.1.cell
          have ygf := hI.2.1.frozen
          refine wpAny_take (i := 1) (v := .string z.1) rfl (by kernel_rfl) (by kernel_rfl) (by kernel_rfl) (fun _ _ _ h => h) (.inl ⟨by rfl, ?_⟩) ?_
          · intro W
            go_simp
          refine wpAny_take (i := 5) (v := .int .i64 0) rfl (by kernel_rfl) (by kernel_rfl) (by kernel_rfl) (fun _ _ _ h => h) (.inl ⟨by rfl, ?_⟩) ?_
          · intro W
            go_simp
          refine wpAny_take (i := 6) (v := .bool true) rfl (by kernel_rfl) (by kernel_rfl) (by kernel_rfl) (fun _ _ _ h => h) (.inl ⟨by rfl, ?_⟩) ?_
          · intro W
            go_simp
          refine wpAny_ready (rs := [0, 2, 4, 7]) (by kernel_rfl) (by simp) ?_
          refine AllReady.cons rfl (fun K hK => ?_) (AllReady.cons rfl (fun K hK => ?_) (AllReady.cons rfl (fun K hK => ?_) (AllReady.cons rfl (fun K hK => ?_) AllReady.nil)))
          · go_simp
            refine hK _ _ ?_
            clear hK K
            refine wpAny_ready (rs := [2, 4, 7]) (by kernel_rfl) (by simp) ?_
            refine AllReady.cons rfl (fun K hK => ?_) (AllReady.cons rfl (fun K hK => ?_) (AllReady.cons rfl (fun K hK => ?_) AllReady.nil))
            · have tA := Boxed.new Y0 9 (.string z.1)
              have hI := hI.alloc (.cells #[.string z.1] 9)
              go_simp
              obtain ⟨Y1, hY'⟩ : ∃ Y', Y0.alloc (.cells #[.string z.1] 9) = Y' := ⟨_, rfl⟩
              rw [hY'] at hI tA ⊢
              clear hY' yv yg yvf ygf
              have yv := hI.1.cell
              have yvf := hI.1.frozen
              have yg := hI.2.1.cell
              have ygf := hI.2.1.frozen
              refine hK _ _ ?_
              clear hK K
              refine wpAny_ready (rs := [3, 4, 7]) (by kernel_rfl) (by simp) ?_
              refine AllReady.cons rfl (fun K hK => ?_) (AllReady.cons rfl (fun K hK => ?_) (AllReady.cons rfl (fun K hK => ?_) AllReady.nil))
              · refine step_append_str rfl rfl (.tmp 31) (.tmp 33) rfl w2.heap.size v _ rfl hI.2.2.1 _ 1 (z.1) rfl tA.cell hpl hI.2.2.2.2.2.2 ?_
                intro g1 cap1 Y2 ho' hg'
                have hI := hI.app1 ho' hg'
                clear ho' hg' yv yg yvf ygf
                have yv := hI.1.cell
                have yvf := hI.1.frozen
                have yg := hI.2.1.cell
                have ygf := hI.2.1.frozen
                go_simp
                refine hK _ _ ?_
                clear hK K
                refine wpAny_ready (rs := [4, 7]) (by kernel_rfl) (by simp) ?_
                refine AllReady.cons rfl (fun K hK => ?_) (AllReady.cons rfl (fun K hK => ?_) AllReady.nil)
                · go_simp
                  refine hK _ _ ?_
                  clear hK K
                  refine wpAny_ready (rs := [7]) (by kernel_rfl) (by simp) ?_
                  refine AllReady.cons rfl (fun K hK => ?_) AllReady.nil
                  · have tB := Boxed.new Y2 4 (.bool true)
                    have hI := hI.alloc (.cells #[.bool true] 4)
                    go_simp
                    obtain ⟨Y3, hY'⟩ : ∃ Y', Y2.alloc (.cells #[.bool true] 4) = Y' := ⟨_, rfl⟩
                    rw [hY'] at hI tB ⊢
                    clear hY' yv yg yvf ygf
                    have yv := hI.1.cell
                    have yvf := hI.1.frozen
                    have yg := hI.2.1.cell
                    have ygf := hI.2.1.frozen
                    refine hK _ _ ?_
                    clear hK K
                    refine wpAny_ready (rs := [8]) (by kernel_rfl) (by simp) ?_
                    refine AllReady.cons rfl (fun K hK => ?_) AllReady.nil
                    · refine step_append_bool rfl rfl (.tmp 35) (.tmp 38) rfl w2.heap.size g _ rfl hI.2.2.2.1 _ 1 true rfl tB.cell hpl2 hI.2.2.2.2.2.2 ?_
                      intro g2 cap2 Y4 ho' hg'
                      have hI := hI.app2 ho' hg'
                      clear ho' hg' yv yg yvf ygf
                      have yv := hI.1.cell
                      have yvf := hI.1.frozen
                      have yg := hI.2.1.cell
                      have ygf := hI.2.1.frozen
                      go_simp
                      refine hK _ _ ?_
                      clear hK K
                      refine wpAny_ready (rs := [9]) (by kernel_rfl) (by simp) ?_
                      refine AllReady.cons rfl (fun K hK => ?_) AllReady.nil
                      · go_simp
                        refine hK _ _ ?_
                        clear hK K
                        refine wpAny_ready (rs := [10]) (by kernel_rfl) (by simp) ?_
                        refine AllReady.cons rfl (fun K hK => ?_) AllReady.nil
                        · go_simp
                          refine hK _ _ ?_
                          clear hK K
                          refine wpAny_done (by kernel_rfl) ?_ _
                          exact rec_leaf hI Hxx.out Hbb.out Hz.out hne h6 h7 h8 hb (by omega)
                · have tB := Boxed.new Y2 4 (.bool true)
                  have hI := hI.alloc (.cells #[.bool true] 4)
                  go_simp
                  obtain ⟨Y3, hY'⟩ : ∃ Y', Y2.alloc (.cells #[.bool true] 4) = Y' := ⟨_, rfl⟩
                  rw [hY'] at hI tB ⊢
                  clear hY' yv yg yvf ygf
                  have yv := hI.1.cell
                  have yvf := hI.1.frozen
                  have yg := hI.2.1.cell
                  have ygf := hI.2.1.frozen
                  refine hK _ _ ?_
                  clear hK K
                  refine wpAny_ready (rs := [4]) (by kernel_rfl) (by simp) ?_
                  refine AllReady.cons rfl (fun K hK => ?_) AllReady.nil
                  · go_simp
                    refine hK _ _ ?_
                    clear hK K
                    refine wpAny_ready (rs := [8]) (by kernel_rfl) (by simp) ?_
                    refine AllReady.cons rfl (fun K hK => ?_) AllReady.nil
                    · refine step_append_bool rfl rfl (.tmp 35) (.tmp 38) rfl w2.heap.size g _ rfl hI.2.2.2.1 _ 1 true rfl tB.cell hpl2 hI.2.2.2.2.2.2 ?_
                      intro g2 cap2 Y4 ho' hg'
                      have hI := hI.app2 ho' hg'
                      clear ho' hg' yv yg yvf ygf
                      have yv := hI.1.cell
                      have yvf := hI.1.frozen
                      have yg := hI.2.1.cell
                      have ygf := hI.2.1.frozen
                      go_simp
                      refine hK _ _ ?_
                      clear hK K
                      refine wpAny_ready (rs := [9]) (by kernel_rfl) (by simp) ?_
                      refine AllReady.cons rfl (fun K hK => ?_) AllReady.nil
                      · go_simp
                        refine hK _ _ ?_
                        clear hK K
                        refine wpAny_ready (rs := [10]) (by kernel_rfl) (by simp) ?_
                        refine AllReady.cons rfl (fun K hK => ?_) AllReady.nil
                        · go_simp
                          refine hK _ _ ?_
                          clear hK K
                          refine wpAny_done (by kernel_rfl) ?_ _
                          exact rec_leaf hI Hxx.out Hbb.out Hz.out hne h6 h7 h8 hb (by omega)
              · go_simp
                refine hK _ _ ?_
                clear hK K
                refine wpAny_ready (rs := [3, 7]) (by kernel_rfl) (by simp) ?_
                refine AllReady.cons rfl (fun K hK => ?_) (AllReady.cons rfl (fun K hK => ?_) AllReady.nil)
                · refine step_append_str rfl rfl (.tmp 31) (.tmp 33) rfl w2.heap.size v _ rfl hI.2.2.1 _ 1 (z.1) rfl tA.cell hpl hI.2.2.2.2.2.2 ?_
                  intro g1 cap1 Y2 ho' hg'
                  have hI := hI.app1 ho' hg'
                  clear ho' hg' yv yg yvf ygf
                  have yv := hI.1.cell
                  have yvf := hI.1.frozen
                  have yg := hI.2.1.cell
                  have ygf := hI.2.1.frozen
                  go_simp
                  refine hK _ _ ?_
                  clear hK K
                  refine wpAny_ready (rs := [7]) (by kernel_rfl) (by simp) ?_
                  refine AllReady.cons rfl (fun K hK => ?_) AllReady.nil
                  · have tB := Boxed.new Y2 4 (.bool true)
                    have hI := hI.alloc (.cells #[.bool true] 4)
                    go_simp
                    obtain ⟨Y3, hY'⟩ : ∃ Y', Y2.alloc (.cells #[.bool true] 4) = Y' := ⟨_, rfl⟩
                    rw [hY'] at hI tB ⊢
                    clear hY' yv yg yvf ygf
                    have yv := hI.1.cell
                    have yvf := hI.1.frozen
                    have yg := hI.2.1.cell
                    have ygf := hI.2.1.frozen
                    refine hK _ _ ?_
                    clear hK K
                    refine wpAny_ready (rs := [8]) (by kernel_rfl) (by simp) ?_
                    refine AllReady.cons rfl (fun K hK => ?_) AllReady.nil
                    · refine step_append_bool rfl rfl (.tmp 35) (.tmp 38) rfl w2.heap.size g _ rfl hI.2.2.2.1 _ 1 true rfl tB.cell hpl2 hI.2.2.2.2.2.2 ?_
                      intro g2 cap2 Y4 ho' hg'
                      have hI := hI.app2 ho' hg'
                      clear ho' hg' yv yg yvf ygf
                      have yv := hI.1.cell
                      have yvf := hI.1.frozen
                      have yg := hI.2.1.cell
                      have ygf := hI.2.1.frozen
                      go_simp
                      refine hK _ _ ?_
                      clear hK K
                      refine wpAny_ready (rs := [9]) (by kernel_rfl) (by simp) ?_
                      refine AllReady.cons rfl (fun K hK => ?_) AllReady.nil
                      · go_simp
                        refine hK _ _ ?_
                        clear hK K
                        refine wpAny_ready (rs := [10]) (by kernel_rfl) (by simp) ?_
                        refine AllReady.cons rfl (fun K hK => ?_) AllReady.nil
                        · go_simp
                          refine hK _ _ ?_
                          clear hK K
                          refine wpAny_done (by kernel_rfl) ?_ _
                          exact rec_leaf hI Hxx.out Hbb.out Hz.out hne h6 h7 h8 hb (by omega)
                · have tB := Boxed.new Y1 4 (.bool true)
                  have tA := tA.alloc (.cells #[.bool true] 4)
                  have hI := hI.alloc (.cells #[.bool true] 4)
                  go_simp
                  obtain ⟨Y2, hY'⟩ : ∃ Y', Y1.alloc (.cells #[.bool true] 4) = Y' := ⟨_, rfl⟩
                  rw [hY'] at hI tB tA ⊢
                  clear hY' yv yg yvf ygf
                  have yv := hI.1.cell
                  have yvf := hI.1.frozen
                  have yg := hI.2.1.cell
                  have ygf := hI.2.1.frozen
                  refine hK _ _ ?_
                  clear hK K
                  refine wpAny_ready (rs := [3]) (by kernel_rfl) (by simp) ?_
                  refine AllReady.cons rfl (fun K hK => ?_) AllReady.nil
                  · refine step_append_str rfl rfl (.tmp 31) (.tmp 33) rfl w2.heap.size v _ rfl hI.2.2.1 _ 1 (z.1) rfl tA.cell hpl hI.2.2.2.2.2.2 ?_
                    intro g1 cap1 Y3 ho' hg'
                    have tB := tB.kept hg' (tB.not_row (by decide) hI.2.2.1)
                    have hI := hI.app1 ho' hg'
                    clear ho' hg' yv yg yvf ygf
                    have yv := hI.1.cell
                    have yvf := hI.1.frozen
                    have yg := hI.2.1.cell
                    have ygf := hI.2.1.frozen
                    go_simp
                    refine hK _ _ ?_
                    clear hK K
                    refine wpAny_ready (rs := [8]) (by kernel_rfl) (by simp) ?_
                    refine AllReady.cons rfl (fun K hK => ?_) AllReady.nil
                    · refine step_append_bool rfl rfl (.tmp 35) (.tmp 38) rfl w2.heap.size g _ rfl hI.2.2.2.1 _ 1 true rfl tB.cell hpl2 hI.2.2.2.2.2.2 ?_
                      intro g2 cap2 Y4 ho' hg'
                      have hI := hI.app2 ho' hg'
                      clear ho' hg' yv yg yvf ygf
                      have yv := hI.1.cell
                      have yvf := hI.1.frozen
                      have yg := hI.2.1.cell
                      have ygf := hI.2.1.frozen
                      go_simp
                      refine hK _ _ ?_
                      clear hK K
                      refine wpAny_ready (rs := [9]) (by kernel_rfl) (by simp) ?_
                      refine AllReady.cons rfl (fun K hK => ?_) AllReady.nil
                      · go_simp
                        refine hK _ _ ?_
                        clear hK K
                        refine wpAny_ready (rs := [10]) (by kernel_rfl) (by simp) ?_
                        refine AllReady.cons rfl (fun K hK => ?_) AllReady.nil
                        · go_simp
                          refine hK _ _ ?_
                          clear hK K
                          refine wpAny_done (by kernel_rfl) ?_ _
                          exact rec_leaf hI Hxx.out Hbb.out Hz.out hne h6 h7 h8 hb (by omega)
              · have tB := Boxed.new Y1 4 (.bool true)
                have tA := tA.alloc (.cells #[.bool true] 4)
                have hI := hI.alloc (.cells #[.bool true] 4)
                go_simp
                obtain ⟨Y2, hY'⟩ : ∃ Y', Y1.alloc (.cells #[.bool true] 4) = Y' := ⟨_, rfl⟩
                rw [hY'] at hI tB tA ⊢
                clear hY' yv yg yvf ygf
                have yv := hI.1.cell
                have yvf := hI.1.frozen
                have yg := hI.2.1.cell
                have ygf := hI.2.1.frozen
                refine hK _ _ ?_
                clear hK K
                refine wpAny_ready (rs := [3, 4]) (by kernel_rfl) (by simp) ?_
                refine AllReady.cons rfl (fun K hK => ?_) (AllReady.cons rfl (fun K hK => ?_) AllReady.nil)
                · refine step_append_str rfl rfl (.tmp 31) (.tmp 33) rfl w2.heap.size v _ rfl hI.2.2.1 _ 1 (z.1) rfl tA.cell hpl hI.2.2.2.2.2.2 ?_
                  intro g1 cap1 Y3 ho' hg'
                  have tB := tB.kept hg' (tB.not_row (by decide) hI.2.2.1)
                  have hI := hI.app1 ho' hg'
                  clear ho' hg' yv yg yvf ygf
                  have yv := hI.1.cell
                  have yvf := hI.1.frozen
                  have yg := hI.2.1.cell
                  have ygf := hI.2.1.frozen
                  go_simp
                  refine hK _ _ ?_
                  clear hK K
                  refine wpAny_ready (rs := [4]) (by kernel_rfl) (by simp) ?_
                  refine AllReady.cons rfl (fun K hK => ?_) AllReady.nil
                  · go_simp
                    refine hK _ _ ?_
                    clear hK K
                    refine wpAny_ready (rs := [8]) (by kernel_rfl) (by simp) ?_
                    refine AllReady.cons rfl (fun K hK => ?_) AllReady.nil
                    · refine step_append_bool rfl rfl (.tmp 35) (.tmp 38) rfl w2.heap.size g _ rfl hI.2.2.2.1 _ 1 true rfl tB.cell hpl2 hI.2.2.2.2.2.2 ?_
                      intro g2 cap2 Y4 ho' hg'
                      have hI := hI.app2 ho' hg'
                      clear ho' hg' yv yg yvf ygf
                      have yv := hI.1.cell
                      have yvf := hI.1.frozen
                      have yg := hI.2.1.cell
                      have ygf := hI.2.1.frozen
                      go_simp
                      refine hK _ _ ?_
                      clear hK K
                      refine wpAny_ready (rs := [9]) (by kernel_rfl) (by simp) ?_
                      refine AllReady.cons rfl (fun K hK => ?_) AllReady.nil
                      · go_simp
                        refine hK _ _ ?_
                        clear hK K
                        refine wpAny_ready (rs := [10]) (by kernel_rfl) (by simp) ?_
                        refine AllReady.cons rfl (fun K hK => ?_) AllReady.nil
                        · go_simp
                          refine hK _ _ ?_
                          clear hK K
                          refine wpAny_done (by kernel_rfl) ?_ _
                          exact rec_leaf hI Hxx.out Hbb.out Hz.out hne h6 h7 h8 hb (by omega)
                · go_simp
                  refine hK _ _ ?_
                  clear hK K
                  refine wpAny_ready (rs := [3]) (by kernel_rfl) (by simp) ?_
                  refine AllReady.cons rfl (fun K hK => ?_) AllReady.nil
                  · refine step_append_str rfl rfl (.tmp 31) (.tmp 33) rfl w2.heap.size v _ rfl hI.2.2.1 _ 1 (z.1) rfl tA.cell hpl hI.2.2.2.2.2.2 ?_
                    intro g1 cap1 Y3 ho' hg'
                    have tB := tB.kept hg' (tB.not_row (by decide) hI.2.2.1)
                    have hI := hI.app1 ho' hg'
                    clear ho' hg' yv yg yvf ygf
                    have yv := hI.1.cell
                    have yvf := hI.1.frozen
                    have yg := hI.2.1.cell
                    have ygf := hI.2.1.frozen
                    go_simp
                    refine hK _ _ ?_
                    clear hK K
                    refine wpAny_ready (rs := [8]) (by kernel_rfl) (by simp) ?_
                    refine AllReady.cons rfl (fun K hK => ?_) AllReady.nil
                    · refine step_append_bool rfl rfl (.tmp 35) (.tmp 38) rfl w2.heap.size g _ rfl hI.2.2.2.1 _ 1 true rfl tB.cell hpl2 hI.2.2.2.2.2.2 ?_
                      intro g2 cap2 Y4 ho' hg'
                      have hI := hI.app2 ho' hg'
                      clear ho' hg' yv yg yvf ygf
                      have yv := hI.1.cell
                      have yvf := hI.1.frozen
                      have yg := hI.2.1.cell
                      have ygf := hI.2.1.frozen
                      go_simp
                      refine hK _ _ ?_
                      clear hK K
                      refine wpAny_ready (rs := [9]) (by kernel_rfl) (by simp) ?_
                      refine AllReady.cons rfl (fun K hK => ?_) AllReady.nil
                      · go_simp
                        refine hK _ _ ?_
                        clear hK K
                        refine wpAny_ready (rs := [10]) (by kernel_rfl) (by simp) ?_
                        refine AllReady.cons rfl (fun K hK => ?_) AllReady.nil
                        · go_simp
                          refine hK _ _ ?_
                          clear hK K
                          refine wpAny_done (by kernel_rfl) ?_ _
                          exact rec_leaf hI Hxx.out Hbb.out Hz.out hne h6 h7 h8 hb (by omega)
            · go_simp
              refine hK _ _ ?_
              clear hK K
              refine wpAny_ready (rs := [2, 7]) (by kernel_rfl) (by simp) ?_
              refine AllReady.cons rfl (fun K hK => ?_) (AllReady.cons rfl (fun K hK => ?_) AllReady.nil)
              · have tA := Boxed.new Y0 9 (.string z.1)
                have hI := hI.alloc (.cells #[.string z.1] 9)
                go_simp
                obtain ⟨Y1, hY'⟩ : ∃ Y', Y0.alloc (.cells #[.string z.1] 9) = Y' := ⟨_, rfl⟩
                rw [hY'] at hI tA ⊢
                clear hY' yv yg yvf ygf
                have yv := hI.1.cell
                have yvf := hI.1.frozen
                have yg := hI.2.1.cell
                have ygf := hI.2.1.frozen
                refine hK _ _ ?_
                clear hK K
                refine wpAny_ready (rs := [3, 7]) (by kernel_rfl) (by simp) ?_
                refine AllReady.cons rfl (fun K hK => ?_) (AllReady.cons rfl (fun K hK => ?_) AllReady.nil)
                · refine step_append_str rfl rfl (.tmp 31) (.tmp 33) rfl w2.heap.size v _ rfl hI.2.2.1 _ 1 (z.1) rfl tA.cell hpl hI.2.2.2.2.2.2 ?_
                  intro g1 cap1 Y2 ho' hg'
                  have hI := hI.app1 ho' hg'
                  clear ho' hg' yv yg yvf ygf
                  have yv := hI.1.cell
                  have yvf := hI.1.frozen
                  have yg := hI.2.1.cell
                  have ygf := hI.2.1.frozen
                  go_simp
                  refine hK _ _ ?_
                  clear hK K
                  refine wpAny_ready (rs := [7]) (by kernel_rfl) (by simp) ?_
                  refine AllReady.cons rfl (fun K hK => ?_) AllReady.nil
                  · have tB := Boxed.new Y2 4 (.bool true)
                    have hI := hI.alloc (.cells #[.bool true] 4)
                    go_simp
                    obtain ⟨Y3, hY'⟩ : ∃ Y', Y2.alloc (.cells #[.bool true] 4) = Y' := ⟨_, rfl⟩
                    rw [hY'] at hI tB ⊢
                    clear hY' yv yg yvf ygf
                    have yv := hI.1.cell
                    have yvf := hI.1.frozen
                    have yg := hI.2.1.cell
                    have ygf := hI.2.1.frozen
                    refine hK _ _ ?_
                    clear hK K
                    refine wpAny_ready (rs := [8]) (by kernel_rfl) (by simp) ?_
                    refine AllReady.cons rfl (fun K hK => ?_) AllReady.nil
                    · refine step_append_bool rfl rfl (.tmp 35) (.tmp 38) rfl w2.heap.size g _ rfl hI.2.2.2.1 _ 1 true rfl tB.cell hpl2 hI.2.2.2.2.2.2 ?_
                      intro g2 cap2 Y4 ho' hg'
                      have hI := hI.app2 ho' hg'
                      clear ho' hg' yv yg yvf ygf
                      have yv := hI.1.cell
                      have yvf := hI.1.frozen
                      have yg := hI.2.1.cell
                      have ygf := hI.2.1.frozen
                      go_simp
                      refine hK _ _ ?_
                      clear hK K
                      refine wpAny_ready (rs := [9]) (by kernel_rfl) (by simp) ?_
                      refine AllReady.cons rfl (fun K hK => ?_) AllReady.nil
                      · go_simp
                        refine hK _ _ ?_
                        clear hK K
                        refine wpAny_ready (rs := [10]) (by kernel_rfl) (by simp) ?_
                        refine AllReady.cons rfl (fun K hK => ?_) AllReady.nil
                        · go_simp
                          refine hK _ _ ?_
                          clear hK K
                          refine wpAny_done (by kernel_rfl) ?_ _
                          exact rec_leaf hI Hxx.out Hbb.out Hz.out hne h6 h7 h8 hb (by omega)
                · have tB := Boxed.new Y1 4 (.bool true)
                  have tA := tA.alloc (.cells #[.bool true] 4)
                  have hI := hI.alloc (.cells #[.bool true] 4)
                  go_simp
                  obtain ⟨Y2, hY'⟩ : ∃ Y', Y1.alloc (.cells #[.bool true] 4) = Y' := ⟨_, rfl⟩
                  rw [hY'] at hI tB tA ⊢
                  clear hY' yv yg yvf ygf
                  have yv := hI.1.cell
                  have yvf := hI.1.frozen
                  have yg := hI.2.1.cell
                  have ygf := hI.2.1.frozen
                  refine hK _ _ ?_
                  clear hK K
                  refine wpAny_ready (rs := [3]) (by kernel_rfl) (by simp) ?_
                  refine AllReady.cons rfl (fun K hK => ?_) AllReady.nil
                  · refine step_append_str rfl rfl (.tmp 31) (.tmp 33) rfl w2.heap.size v _ rfl hI.2.2.1 _ 1 (z.1) rfl tA.cell hpl hI.2.2.2.2.2.2 ?_
                    intro g1 cap1 Y3 ho' hg'
                    have tB := tB.kept hg' (tB.not_row (by decide) hI.2.2.1)
                    have hI := hI.app1 ho' hg'
                    clear ho' hg' yv yg yvf ygf
                    have yv := hI.1.cell
                    have yvf := hI.1.frozen
                    have yg := hI.2.1.cell
                    have ygf := hI.2.1.frozen
                    go_simp
                    refine hK _ _ ?_
                    clear hK K
                    refine wpAny_ready (rs := [8]) (by kernel_rfl) (by simp) ?_
                    refine AllReady.cons rfl (fun K hK => ?_) AllReady.nil
                    · refine step_append_bool rfl rfl (.tmp 35) (.tmp 38) rfl w2.heap.size g _ rfl hI.2.2.2.1 _ 1 true rfl tB.cell hpl2 hI.2.2.2.2.2.2 ?_
                      intro g2 cap2 Y4 ho' hg'
                      have hI := hI.app2 ho' hg'
                      clear ho' hg' yv yg yvf ygf
                      have yv := hI.1.cell
                      have yvf := hI.1.frozen
                      have yg := hI.2.1.cell
                      have ygf := hI.2.1.frozen
                      go_simp
                      refine hK _ _ ?_
                      clear hK K
                      refine wpAny_ready (rs := [9]) (by kernel_rfl) (by simp) ?_
                      refine AllReady.cons rfl (fun K hK => ?_) AllReady.nil
                      · go_simp
                        refine hK _ _ ?_
                        clear hK K
                        refine wpAny_ready (rs := [10]) (by kernel_rfl) (by simp) ?_
                        refine AllReady.cons rfl (fun K hK => ?_) AllReady.nil
                        · go_simp
                          refine hK _ _ ?_
                          clear hK K
                          refine wpAny_done (by kernel_rfl) ?_ _
                          exact rec_leaf hI Hxx.out Hbb.out Hz.out hne h6 h7 h8 hb (by omega)
              · have tB := Boxed.new Y0 4 (.bool true)
                have hI := hI.alloc (.cells #[.bool true] 4)
                go_simp
                obtain ⟨Y1, hY'⟩ : ∃ Y', Y0.alloc (.cells #[.bool true] 4) = Y' := ⟨_, rfl⟩
                rw [hY'] at hI tB ⊢
                clear hY' yv yg yvf ygf
                have yv := hI.1.cell
                have yvf := hI.1.frozen
                have yg := hI.2.1.cell
                have ygf := hI.2.1.frozen
                refine hK _ _ ?_
                clear hK K
                refine wpAny_ready (rs := [2]) (by kernel_rfl) (by simp) ?_
                refine AllReady.cons rfl (fun K hK => ?_) AllReady.nil
                · have tA := Boxed.new Y1 9 (.string z.1)
                  have tB := tB.alloc (.cells #[.string z.1] 9)
                  have hI := hI.alloc (.cells #[.string z.1] 9)
                  go_simp
                  obtain ⟨Y2, hY'⟩ : ∃ Y', Y1.alloc (.cells #[.string z.1] 9) = Y' := ⟨_, rfl⟩
                  rw [hY'] at hI tA tB ⊢
                  clear hY' yv yg yvf ygf
                  have yv := hI.1.cell
                  have yvf := hI.1.frozen
                  have yg := hI.2.1.cell
                  have ygf := hI.2.1.frozen
                  refine hK _ _ ?_
                  clear hK K
                  refine wpAny_ready (rs := [3]) (by kernel_rfl) (by simp) ?_
                  refine AllReady.cons rfl (fun K hK => ?_) AllReady.nil
                  · refine step_append_str rfl rfl (.tmp 31) (.tmp 33) rfl w2.heap.size v _ rfl hI.2.2.1 _ 1 (z.1) rfl tA.cell hpl hI.2.2.2.2.2.2 ?_
                    intro g1 cap1 Y3 ho' hg'
                    have tB := tB.kept hg' (tB.not_row (by decide) hI.2.2.1)
                    have hI := hI.app1 ho' hg'
                    clear ho' hg' yv yg yvf ygf
                    have yv := hI.1.cell
                    have yvf := hI.1.frozen
                    have yg := hI.2.1.cell
                    have ygf := hI.2.1.frozen
                    go_simp
                    refine hK _ _ ?_
                    clear hK K
                    refine wpAny_ready (rs := [8]) (by kernel_rfl) (by simp) ?_
                    refine AllReady.cons rfl (fun K hK => ?_) AllReady.nil
                    · refine step_append_bool rfl rfl (.tmp 35) (.tmp 38) rfl w2.heap.size g _ rfl hI.2.2.2.1 _ 1 true rfl tB.cell hpl2 hI.2.2.2.2.2.2 ?_
                      intro g2 cap2 Y4 ho' hg'
                      have hI := hI.app2 ho' hg'
                      clear ho' hg' yv yg yvf ygf
                      have yv := hI.1.cell
                      have yvf := hI.1.frozen
                      have yg := hI.2.1.cell
                      have ygf := hI.2.1.frozen
                      go_simp
                      refine hK _ _ ?_
                      clear hK K
                      refine wpAny_ready (rs := [9]) (by kernel_rfl) (by simp) ?_
                      refine AllReady.cons rfl (fun K hK => ?_) AllReady.nil
                      · go_simp
                        refine hK _ _ ?_
                        clear hK K
                        refine wpAny_ready (rs := [10]) (by kernel_rfl) (by simp) ?_
                        refine AllReady.cons rfl (fun K hK => ?_) AllReady.nil
                        · go_simp
                          refine hK _ _ ?_
                          clear hK K
                          refine wpAny_done (by kernel_rfl) ?_ _
                          exact rec_leaf hI Hxx.out Hbb.out Hz.out hne h6 h7 h8 hb (by omega)
            · have tB := Boxed.new Y0 4 (.bool true)
              have hI := hI.alloc (.cells #[.bool true] 4)
              go_simp
              obtain ⟨Y1, hY'⟩ : ∃ Y', Y0.alloc (.cells #[.bool true] 4) = Y' := ⟨_, rfl⟩
              rw [hY'] at hI tB ⊢
              clear hY' yv yg yvf ygf
              have yv := hI.1.cell
              have yvf := hI.1.frozen
              have yg := hI.2.1.cell
              have ygf := hI.2.1.frozen
              refine hK _ _ ?_
              clear hK K
              refine wpAny_ready (rs := [2, 4]) (by kernel_rfl) (by simp) ?_
              refine AllReady.cons rfl (fun K hK => ?_) (AllReady.cons rfl (fun K hK => ?_) AllReady.nil)
              · have tA := Boxed.new Y1 9 (.string z.1)
                have tB := tB.alloc (.cells #[.string z.1] 9)
                have hI := hI.alloc (.cells #[.string z.1] 9)
                go_simp
                obtain ⟨Y2, hY'⟩ : ∃ Y', Y1.alloc (.cells #[.string z.1] 9) = Y' := ⟨_, rfl⟩
                rw [hY'] at hI tA tB ⊢
                clear hY' yv yg yvf ygf
                have yv := hI.1.cell
                have yvf := hI.1.frozen
                have yg := hI.2.1.cell
                have ygf := hI.2.1.frozen
                refine hK _ _ ?_
                clear hK K
                refine wpAny_ready (rs := [3, 4]) (by kernel_rfl) (by simp) ?_
                refine AllReady.cons rfl (fun K hK => ?_) (AllReady.cons rfl (fun K hK => ?_) AllReady.nil)
                · refine step_append_str rfl rfl (.tmp 31) (.tmp 33) rfl w2.heap.size v _ rfl hI.2.2.1 _ 1 (z.1) rfl tA.cell hpl hI.2.2.2.2.2.2 ?_
                  intro g1 cap1 Y3 ho' hg'
                  have tB := tB.kept hg' (tB.not_row (by decide) hI.2.2.1)
                  have hI := hI.app1 ho' hg'
                  clear ho' hg' yv yg yvf ygf
                  have yv := hI.1.cell
                  have yvf := hI.1.frozen
                  have yg := hI.2.1.cell
                  have ygf := hI.2.1.frozen
                  go_simp
                  refine hK _ _ ?_
                  clear hK K
                  refine wpAny_ready (rs := [4]) (by kernel_rfl) (by simp) ?_
                  refine AllReady.cons rfl (fun K hK => ?_) AllReady.nil
                  · go_simp
                    refine hK _ _ ?_
                    clear hK K
                    refine wpAny_ready (rs := [8]) (by kernel_rfl) (by simp) ?_
                    refine AllReady.cons rfl (fun K hK => ?_) AllReady.nil
                    · refine step_append_bool rfl rfl (.tmp 35) (.tmp 38) rfl w2.heap.size g _ rfl hI.2.2.2.1 _ 1 true rfl tB.cell hpl2 hI.2.2.2.2.2.2 ?_
                      intro g2 cap2 Y4 ho' hg'
                      have hI := hI.app2 ho' hg'
                      clear ho' hg' yv yg yvf ygf
                      have yv := hI.1.cell
                      have yvf := hI.1.frozen
                      have yg := hI.2.1.cell
                      have ygf := hI.2.1.frozen
                      go_simp
                      refine hK _ _ ?_
                      clear hK K
                      refine wpAny_ready (rs := [9]) (by kernel_rfl) (by simp) ?_
                      refine AllReady.cons rfl (fun K hK => ?_) AllReady.nil
                      · go_simp
                        refine hK _ _ ?_
                        clear hK K
                        refine wpAny_ready (rs := [10]) (by kernel_rfl) (by simp) ?_
                        refine AllReady.cons rfl (fun K hK => ?_) AllReady.nil
                        · go_simp
                          refine hK _ _ ?_
                          clear hK K
                          refine wpAny_done (by kernel_rfl) ?_ _
                          exact rec_leaf hI Hxx.out Hbb.out Hz.out hne h6 h7 h8 hb (by omega)
                · go_simp
                  refine hK _ _ ?_
                  clear hK K
                  refine wpAny_ready (rs := [3]) (by kernel_rfl) (by simp) ?_
                  refine AllReady.cons rfl (fun K hK => ?_) AllReady.nil
                  · refine step_append_str rfl rfl (.tmp 31) (.tmp 33) rfl w2.heap.size v _ rfl hI.2.2.1 _ 1 (z.1) rfl tA.cell hpl hI.2.2.2.2.2.2 ?_
                    intro g1 cap1 Y3 ho' hg'
                    have tB := tB.kept hg' (tB.not_row (by decide) hI.2.2.1)
                    have hI := hI.app1 ho' hg'
                    clear ho' hg' yv yg yvf ygf
                    have yv := hI.1.cell
                    have yvf := hI.1.frozen
                    have yg := hI.2.1.cell
                    have ygf := hI.2.1.frozen
                    go_simp
                    refine hK _ _ ?_
                    clear hK K
                    refine wpAny_ready (rs := [8]) (by kernel_rfl) (by simp) ?_
                    refine AllReady.cons rfl (fun K hK => ?_) AllReady.nil
                    · refine step_append_bool rfl rfl (.tmp 35) (.tmp 38) rfl w2.heap.size g _ rfl hI.2.2.2.1 _ 1 true rfl tB.cell hpl2 hI.2.2.2.2.2.2 ?_
                      intro g2 cap2 Y4 ho' hg'
                      have hI := hI.app2 ho' hg'
                      clear ho' hg' yv yg yvf ygf
                      have yv := hI.1.cell
                      have yvf := hI.1.frozen
                      have yg := hI.2.1.cell
                      have ygf := hI.2.1.frozen
                      go_simp
                      refine hK _ _ ?_
                      clear hK K
                      refine wpAny_ready (rs := [9]) (by kernel_rfl) (by simp) ?_
                      refine AllReady.cons rfl (fun K hK => ?_) AllReady.nil
                      · go_simp
                        refine hK _ _ ?_
                        clear hK K
                        refine wpAny_ready (rs := [10]) (by kernel_rfl) (by simp) ?_
                        refine AllReady.cons rfl (fun K hK => ?_) AllReady.nil
                        · go_simp
                          refine hK _ _ ?_
                          clear hK K
                          refine wpAny_done (by kernel_rfl) ?_ _
                          exact rec_leaf hI Hxx.out Hbb.out Hz.out hne h6 h7 h8 hb (by omega)
              · go_simp
                refine hK _ _ ?_
                clear hK K
                refine wpAny_ready (rs := [2]) (by kernel_rfl) (by simp) ?_
                refine AllReady.cons rfl (fun K hK => ?_) AllReady.nil
                · have tA := Boxed.new Y1 9 (.string z.1)
                  have tB := tB.alloc (.cells #[.string z.1] 9)
                  have hI := hI.alloc (.cells #[.string z.1] 9)
                  go_simp
                  obtain ⟨Y2, hY'⟩ : ∃ Y', Y1.alloc (.cells #[.string z.1] 9) = Y' := ⟨_, rfl⟩
                  rw [hY'] at hI tA tB ⊢
                  clear hY' yv yg yvf ygf
                  have yv := hI.1.cell
                  have yvf := hI.1.frozen
                  have yg := hI.2.1.cell
                  have ygf := hI.2.1.frozen
                  refine hK _ _ ?_
                  clear hK K
                  refine wpAny_ready (rs := [3]) (by kernel_rfl) (by simp) ?_
                  refine AllReady.cons rfl (fun K hK => ?_) AllReady.nil
                  · refine step_append_str rfl rfl (.tmp 31) (.tmp 33) rfl w2.heap.size v _ rfl hI.2.2.1 _ 1 (z.1) rfl tA.cell hpl hI.2.2.2.2.2.2 ?_
                    intro g1 cap1 Y3 ho' hg'
                    have tB := tB.kept hg' (tB.not_row (by decide) hI.2.2.1)
                    have hI := hI.app1 ho' hg'
                    clear ho' hg' yv yg yvf ygf
                    have yv := hI.1.cell
                    have yvf := hI.1.frozen
                    have yg := hI.2.1.cell
                    have ygf := hI.2.1.frozen
                    go_simp
                    refine hK _ _ ?_
                    clear hK K
                    refine wpAny_ready (rs := [8]) (by kernel_rfl) (by simp) ?_
                    refine AllReady.cons rfl (fun K hK => ?_) AllReady.nil
                    · refine step_append_bool rfl rfl (.tmp 35) (.tmp 38) rfl w2.heap.size g _ rfl hI.2.2.2.1 _ 1 true rfl tB.cell hpl2 hI.2.2.2.2.2.2 ?_
                      intro g2 cap2 Y4 ho' hg'
                      have hI := hI.app2 ho' hg'
                      clear ho' hg' yv yg yvf ygf
                      have yv := hI.1.cell
                      have yvf := hI.1.frozen
                      have yg := hI.2.1.cell
                      have ygf := hI.2.1.frozen
                      go_simp
                      refine hK _ _ ?_
                      clear hK K
                      refine wpAny_ready (rs := [9]) (by kernel_rfl) (by simp) ?_
                      refine AllReady.cons rfl (fun K hK => ?_) AllReady.nil
                      · go_simp
                        refine hK _ _ ?_
                        clear hK K
                        refine wpAny_ready (rs := [10]) (by kernel_rfl) (by simp) ?_
                        refine AllReady.cons rfl (fun K hK => ?_) AllReady.nil
                        · go_simp
                          refine hK _ _ ?_
                          clear hK K
                          refine wpAny_done (by kernel_rfl) ?_ _
                          exact rec_leaf hI Hxx.out Hbb.out Hz.out hne h6 h7 h8 hb (by omega)
          · have tA := Boxed.new Y0 9 (.string z.1)
            have hI := hI.alloc (.cells #[.string z.1] 9)
            go_simp
            obtain ⟨Y1, hY'⟩ : ∃ Y', Y0.alloc (.cells #[.string z.1] 9) = Y' := ⟨_, rfl⟩
            rw [hY'] at hI tA ⊢
            clear hY' yv yg yvf ygf
            have yv := hI.1.cell
            have yvf := hI.1.frozen
            have yg := hI.2.1.cell
            have ygf := hI.2.1.frozen
            refine hK _ _ ?_
            clear hK K
            refine wpAny_ready (rs := [0, 4, 7]) (by kernel_rfl) (by simp) ?_
            refine AllReady.cons rfl (fun K hK => ?_) (AllReady.cons rfl (fun K hK => ?_) (AllReady.cons rfl (fun K hK => ?_) AllReady.nil))
            · go_simp
              refine hK _ _ ?_
              clear hK K
              refine wpAny_ready (rs := [3, 4, 7]) (by kernel_rfl) (by simp) ?_
              refine AllReady.cons rfl (fun K hK => ?_) (AllReady.cons rfl (fun K hK => ?_) (AllReady.cons rfl (fun K hK => ?_) AllReady.nil))
              · refine step_append_str rfl rfl (.tmp 31) (.tmp 33) rfl w2.heap.size v _ rfl hI.2.2.1 _ 1 (z.1) rfl tA.cell hpl hI.2.2.2.2.2.2 ?_
                intro g1 cap1 Y2 ho' hg'
                have hI := hI.app1 ho' hg'
                clear ho' hg' yv yg yvf ygf
                have yv := hI.1.cell
                have yvf := hI.1.frozen
                have yg := hI.2.1.cell
                have ygf := hI.2.1.frozen
                go_simp
                refine hK _ _ ?_
                clear hK K
                refine wpAny_ready (rs := [4, 7]) (by kernel_rfl) (by simp) ?_
                refine AllReady.cons rfl (fun K hK => ?_) (AllReady.cons rfl (fun K hK => ?_) AllReady.nil)
                · go_simp
                  refine hK _ _ ?_
                  clear hK K
                  refine wpAny_ready (rs := [7]) (by kernel_rfl) (by simp) ?_
                  refine AllReady.cons rfl (fun K hK => ?_) AllReady.nil
                  · have tB := Boxed.new Y2 4 (.bool true)
                    have hI := hI.alloc (.cells #[.bool true] 4)
                    go_simp
                    obtain ⟨Y3, hY'⟩ : ∃ Y', Y2.alloc (.cells #[.bool true] 4) = Y' := ⟨_, rfl⟩
                    rw [hY'] at hI tB ⊢
                    clear hY' yv yg yvf ygf
                    have yv := hI.1.cell
                    have yvf := hI.1.frozen
                    have yg := hI.2.1.cell
                    have ygf := hI.2.1.frozen
                    refine hK _ _ ?_
                    clear hK K
                    refine wpAny_ready (rs := [8]) (by kernel_rfl) (by simp) ?_
                    refine AllReady.cons rfl (fun K hK => ?_) AllReady.nil
                    · refine step_append_bool rfl rfl (.tmp 35) (.tmp 38) rfl w2.heap.size g _ rfl hI.2.2.2.1 _ 1 true rfl tB.cell hpl2 hI.2.2.2.2.2.2 ?_
                      intro g2 cap2 Y4 ho' hg'
                      have hI := hI.app2 ho' hg'
                      clear ho' hg' yv yg yvf ygf
                      have yv := hI.1.cell
                      have yvf := hI.1.frozen
                      have yg := hI.2.1.cell
                      have ygf := hI.2.1.frozen
                      go_simp
                      refine hK _ _ ?_
                      clear hK K
                      refine wpAny_ready (rs := [9]) (by kernel_rfl) (by simp) ?_
                      refine AllReady.cons rfl (fun K hK => ?_) AllReady.nil
                      · go_simp
                        refine hK _ _ ?_
                        clear hK K
                        refine wpAny_ready (rs := [10]) (by kernel_rfl) (by simp) ?_
                        refine AllReady.cons rfl (fun K hK => ?_) AllReady.nil
                        · go_simp
                          refine hK _ _ ?_
                          clear hK K
                          refine wpAny_done (by kernel_rfl) ?_ _
                          exact rec_leaf hI Hxx.out Hbb.out Hz.out hne h6 h7 h8 hb (by omega)
                · have tB := Boxed.new Y2 4 (.bool true)
                  have hI := hI.alloc (.cells #[.bool true] 4)
                  go_simp
                  obtain ⟨Y3, hY'⟩ : ∃ Y', Y2.alloc (.cells #[.bool true] 4) = Y' := ⟨_, rfl⟩
                  rw [hY'] at hI tB ⊢
                  clear hY' yv yg yvf ygf
                  have yv := hI.1.cell
                  have yvf := hI.1.frozen
                  have yg := hI.2.1.cell
                  have ygf := hI.2.1.frozen
                  refine hK _ _ ?_
                  clear hK K
                  refine wpAny_ready (rs := [4]) (by kernel_rfl) (by simp) ?_
                  refine AllReady.cons rfl (fun K hK => ?_) AllReady.nil
                  · go_simp
                    refine hK _ _ ?_
                    clear hK K
                    refine wpAny_ready (rs := [8]) (by kernel_rfl) (by simp) ?_
                    refine AllReady.cons rfl (fun K hK => ?_) AllReady.nil
                    · refine step_append_bool rfl rfl (.tmp 35) (.tmp 38) rfl w2.heap.size g _ rfl hI.2.2.2.1 _ 1 true rfl tB.cell hpl2 hI.2.2.2.2.2.2 ?_
                      intro g2 cap2 Y4 ho' hg'
                      have hI := hI.app2 ho' hg'
                      clear ho' hg' yv yg yvf ygf
                      have yv := hI.1.cell
                      have yvf := hI.1.frozen
                      have yg := hI.2.1.cell
                      have ygf := hI.2.1.frozen
                      go_simp
                      refine hK _ _ ?_
                      clear hK K
                      refine wpAny_ready (rs := [9]) (by kernel_rfl) (by simp) ?_
                      refine AllReady.cons rfl (fun K hK => ?_) AllReady.nil
                      · go_simp
                        refine hK _ _ ?_
                        clear hK K
                        refine wpAny_ready (rs := [10]) (by kernel_rfl) (by simp) ?_
                        refine AllReady.cons rfl (fun K hK => ?_) AllReady.nil
                        · go_simp
                          refine hK _ _ ?_
                          clear hK K
                          refine wpAny_done (by kernel_rfl) ?_ _
                          exact rec_leaf hI Hxx.out Hbb.out Hz.out hne h6 h7 h8 hb (by omega)
              · go_simp
                refine hK _ _ ?_
                clear hK K
                refine wpAny_ready (rs := [3, 7]) (by kernel_rfl) (by simp) ?_
                refine AllReady.cons rfl (fun K hK => ?_) (AllReady.cons rfl (fun K hK => ?_) AllReady.nil)
                · refine step_append_str rfl rfl (.tmp 31) (.tmp 33) rfl w2.heap.size v _ rfl hI.2.2.1 _ 1 (z.1) rfl tA.cell hpl hI.2.2.2.2.2.2 ?_
                  intro g1 cap1 Y2 ho' hg'
                  have hI := hI.app1 ho' hg'
                  clear ho' hg' yv yg yvf ygf
                  have yv := hI.1.cell
                  have yvf := hI.1.frozen
                  have yg := hI.2.1.cell
                  have ygf := hI.2.1.frozen
                  go_simp
                  refine hK _ _ ?_
                  clear hK K
                  refine wpAny_ready (rs := [7]) (by kernel_rfl) (by simp) ?_
                  refine AllReady.cons rfl (fun K hK => ?_) AllReady.nil
                  · have tB := Boxed.new Y2 4 (.bool true)
                    have hI := hI.alloc (.cells #[.bool true] 4)
                    go_simp
                    obtain ⟨Y3, hY'⟩ : ∃ Y', Y2.alloc (.cells #[.bool true] 4) = Y' := ⟨_, rfl⟩
                    rw [hY'] at hI tB ⊢
                    clear hY' yv yg yvf ygf
                    have yv := hI.1.cell
                    have yvf := hI.1.frozen
                    have yg := hI.2.1.cell
                    have ygf := hI.2.1.frozen
                    refine hK _ _ ?_
                    clear hK K
                    refine wpAny_ready (rs := [8]) (by kernel_rfl) (by simp) ?_
                    refine AllReady.cons rfl (fun K hK => ?_) AllReady.nil
                    · refine step_append_bool rfl rfl (.tmp 35) (.tmp 38) rfl w2.heap.size g _ rfl hI.2.2.2.1 _ 1 true rfl tB.cell hpl2 hI.2.2.2.2.2.2 ?_
                      intro g2 cap2 Y4 ho' hg'
                      have hI := hI.app2 ho' hg'
                      clear ho' hg' yv yg yvf ygf
                      have yv := hI.1.cell
                      have yvf := hI.1.frozen
                      have yg := hI.2.1.cell
                      have ygf := hI.2.1.frozen
                      go_simp
                      refine hK _ _ ?_
                      clear hK K
                      refine wpAny_ready (rs := [9]) (by kernel_rfl) (by simp) ?_
                      refine AllReady.cons rfl (fun K hK => ?_) AllReady.nil
                      · go_simp
                        refine hK _ _ ?_
                        clear hK K
                        refine wpAny_ready (rs := [10]) (by kernel_rfl) (by simp) ?_
                        refine AllReady.cons rfl (fun K hK => ?_) AllReady.nil
                        · go_simp
                          refine hK _ _ ?_
                          clear hK K
                          refine wpAny_done (by kernel_rfl) ?_ _
                          exact rec_leaf hI Hxx.out Hbb.out Hz.out hne h6 h7 h8 hb (by omega)
                · have tB := Boxed.new Y1 4 (.bool true)
                  have tA := tA.alloc (.cells #[.bool true] 4)
                  have hI := hI.alloc (.cells #[.bool true] 4)
                  go_simp
                  obtain ⟨Y2, hY'⟩ : ∃ Y', Y1.alloc (.cells #[.bool true] 4) = Y' := ⟨_, rfl⟩
                  rw [hY'] at hI tB tA ⊢
                  clear hY' yv yg yvf ygf
                  have yv := hI.1.cell
                  have yvf := hI.1.frozen
                  have yg := hI.2.1.cell
                  have ygf := hI.2.1.frozen
                  refine hK _ _ ?_
                  clear hK K
                  refine wpAny_ready (rs := [3]) (by kernel_rfl) (by simp) ?_
                  refine AllReady.cons rfl (fun K hK => ?_) AllReady.nil
                  · refine step_append_str rfl rfl (.tmp 31) (.tmp 33) rfl w2.heap.size v _ rfl hI.2.2.1 _ 1 (z.1) rfl tA.cell hpl hI.2.2.2.2.2.2 ?_
                    intro g1 cap1 Y3 ho' hg'
                    have tB := tB.kept hg' (tB.not_row (by decide) hI.2.2.1)
                    have hI := hI.app1 ho' hg'
                    clear ho' hg' yv yg yvf ygf
                    have yv := hI.1.cell
                    have yvf := hI.1.frozen
                    have yg := hI.2.1.cell
                    have ygf := hI.2.1.frozen
                    go_simp
                    refine hK _ _ ?_
                    clear hK K
                    refine wpAny_ready (rs := [8]) (by kernel_rfl) (by simp) ?_
                    refine AllReady.cons rfl (fun K hK => ?_) AllReady.nil
                    · refine step_append_bool rfl rfl (.tmp 35) (.tmp 38) rfl w2.heap.size g _ rfl hI.2.2.2.1 _ 1 true rfl tB.cell hpl2 hI.2.2.2.2.2.2 ?_
                      intro g2 cap2 Y4 ho' hg'
                      have hI := hI.app2 ho' hg'
                      clear ho' hg' yv yg yvf ygf
                      have yv := hI.1.cell
                      have yvf := hI.1.frozen
                      have yg := hI.2.1.cell
                      have ygf := hI.2.1.frozen
                      go_simp
                      refine hK _ _ ?_
                      clear hK K
                      refine wpAny_ready (rs := [9]) (by kernel_rfl) (by simp) ?_
                      refine AllReady.cons rfl (fun K hK => ?_) AllReady.nil
                      · go_simp
                        refine hK _ _ ?_
                        clear hK K
                        refine wpAny_ready (rs := [10]) (by kernel_rfl) (by simp) ?_
                        refine AllReady.cons rfl (fun K hK => ?_) AllReady.nil
                        · go_simp
                          refine hK _ _ ?_
                          clear hK K
                          refine wpAny_done (by kernel_rfl) ?_ _
                          exact rec_leaf hI Hxx.out Hbb.out Hz.out hne h6 h7 h8 hb (by omega)
              · have tB := Boxed.new Y1 4 (.bool true)
                have tA := tA.alloc (.cells #[.bool true] 4)
                have hI := hI.alloc (.cells #[.bool true] 4)
                go_simp
                obtain ⟨Y2, hY'⟩ : ∃ Y', Y1.alloc (.cells #[.bool true] 4) = Y' := ⟨_, rfl⟩
                rw [hY'] at hI tB tA ⊢
                clear hY' yv yg yvf ygf
                have yv := hI.1.cell
                have yvf := hI.1.frozen
                have yg := hI.2.1.cell
                have ygf := hI.2.1.frozen
                refine hK _ _ ?_
                clear hK K
                refine wpAny_ready (rs := [3, 4]) (by kernel_rfl) (by simp) ?_
                refine AllReady.cons rfl (fun K hK => ?_) (AllReady.cons rfl (fun K hK => ?_) AllReady.nil)
                · refine step_append_str rfl rfl (.tmp 31) (.tmp 33) rfl w2.heap.size v _ rfl hI.2.2.1 _ 1 (z.1) rfl tA.cell hpl hI.2.2.2.2.2.2 ?_
                  intro g1 cap1 Y3 ho' hg'
                  have tB := tB.kept hg' (tB.not_row (by decide) hI.2.2.1)
                  have hI := hI.app1 ho' hg'
                  clear ho' hg' yv yg yvf ygf
                  have yv := hI.1.cell
                  have yvf := hI.1.frozen
                  have yg := hI.2.1.cell
                  have ygf := hI.2.1.frozen
                  go_simp
                  refine hK _ _ ?_
                  clear hK K
                  refine wpAny_ready (rs := [4]) (by kernel_rfl) (by simp) ?_
                  refine AllReady.cons rfl (fun K hK => ?_) AllReady.nil
                  · go_simp
                    refine hK _ _ ?_
                    clear hK K
                    refine wpAny_ready (rs := [8]) (by kernel_rfl) (by simp) ?_
                    refine AllReady.cons rfl (fun K hK => ?_) AllReady.nil
                    · refine step_append_bool rfl rfl (.tmp 35) (.tmp 38) rfl w2.heap.size g _ rfl hI.2.2.2.1 _ 1 true rfl tB.cell hpl2 hI.2.2.2.2.2.2 ?_
                      intro g2 cap2 Y4 ho' hg'
                      have hI := hI.app2 ho' hg'
                      clear ho' hg' yv yg yvf ygf
                      have yv := hI.1.cell
                      have yvf := hI.1.frozen
                      have yg := hI.2.1.cell
                      have ygf := hI.2.1.frozen
                      go_simp
                      refine hK _ _ ?_
                      clear hK K
                      refine wpAny_ready (rs := [9]) (by kernel_rfl) (by simp) ?_
                      refine AllReady.cons rfl (fun K hK => ?_) AllReady.nil
                      · go_simp
                        refine hK _ _ ?_
                        clear hK K
                        refine wpAny_ready (rs := [10]) (by kernel_rfl) (by simp) ?_
                        refine AllReady.cons rfl (fun K hK => ?_) AllReady.nil
                        · go_simp
                          refine hK _ _ ?_
                          clear hK K
                          refine wpAny_done (by kernel_rfl) ?_ _
                          exact rec_leaf hI Hxx.out Hbb.out Hz.out hne h6 h7 h8 hb (by omega)
                · go_simp
                  refine hK _ _ ?_
                  clear hK K
                  refine wpAny_ready (rs := [3]) (by kernel_rfl) (by simp) ?_
                  refine AllReady.cons rfl (fun K hK => ?_) AllReady.nil
                  · refine step_append_str rfl rfl (.tmp 31) (.tmp 33) rfl w2.heap.size v _ rfl hI.2.2.1 _ 1 (z.1) rfl tA.cell hpl hI.2.2.2.2.2.2 ?_
                    intro g1 cap1 Y3 ho' hg'
                    have tB := tB.kept hg' (tB.not_row (by decide) hI.2.2.1)
                    have hI := hI.app1 ho' hg'
                    clear ho' hg' yv yg yvf ygf
                    have yv := hI.1.cell
                    have yvf := hI.1.frozen
                    have yg := hI.2.1.cell
                    have ygf := hI.2.1.frozen
                    go_simp
                    refine hK _ _ ?_
                    clear hK K
                    refine wpAny_ready (rs := [8]) (by kernel_rfl) (by simp) ?_
                    refine AllReady.cons rfl (fun K hK => ?_) AllReady.nil
                    · refine step_append_bool rfl rfl (.tmp 35) (.tmp 38) rfl w2.heap.size g _ rfl hI.2.2.2.1 _ 1 true rfl tB.cell hpl2 hI.2.2.2.2.2.2 ?_
                      intro g2 cap2 Y4 ho' hg'
                      have hI := hI.app2 ho' hg'
                      clear ho' hg' yv yg yvf ygf
                      have yv := hI.1.cell
                      have yvf := hI.1.frozen
                      have yg := hI.2.1.cell
                      have ygf := hI.2.1.frozen
                      go_simp
                      refine hK _ _ ?_
                      clear hK K
                      refine wpAny_ready (rs := [9]) (by kernel_rfl) (by simp) ?_
                      refine AllReady.cons rfl (fun K hK => ?_) AllReady.nil
                      · go_simp
                        refine hK _ _ ?_
                        clear hK K
                        refine wpAny_ready (rs := [10]) (by kernel_rfl) (by simp) ?_
                        refine AllReady.cons rfl (fun K hK => ?_) AllReady.nil
                        · go_simp
                          refine hK _ _ ?_
                          clear hK K
                          refine wpAny_done (by kernel_rfl) ?_ _
                          exact rec_leaf hI Hxx.out Hbb.out Hz.out hne h6 h7 h8 hb (by omega)
            · go_simp
              refine hK _ _ ?_
              clear hK K
              refine wpAny_ready (rs := [0, 7]) (by kernel_rfl) (by simp) ?_
              refine AllReady.cons rfl (fun K hK => ?_) (AllReady.cons rfl (fun K hK => ?_) AllReady.nil)
              · go_simp
                refine hK _ _ ?_
                clear hK K
                refine wpAny_ready (rs := [3, 7]) (by kernel_rfl) (by simp) ?_
                refine AllReady.cons rfl (fun K hK => ?_) (AllReady.cons rfl (fun K hK => ?_) AllReady.nil)
                · refine step_append_str rfl rfl (.tmp 31) (.tmp 33) rfl w2.heap.size v _ rfl hI.2.2.1 _ 1 (z.1) rfl tA.cell hpl hI.2.2.2.2.2.2 ?_
                  intro g1 cap1 Y2 ho' hg'
                  have hI := hI.app1 ho' hg'
                  clear ho' hg' yv yg yvf ygf
                  have yv := hI.1.cell
                  have yvf := hI.1.frozen
                  have yg := hI.2.1.cell
                  have ygf := hI.2.1.frozen
                  go_simp
                  refine hK _ _ ?_
                  clear hK K
                  refine wpAny_ready (rs := [7]) (by kernel_rfl) (by simp) ?_
                  refine AllReady.cons rfl (fun K hK => ?_) AllReady.nil
                  · have tB := Boxed.new Y2 4 (.bool true)
                    have hI := hI.alloc (.cells #[.bool true] 4)
                    go_simp
                    obtain ⟨Y3, hY'⟩ : ∃ Y', Y2.alloc (.cells #[.bool true] 4) = Y' := ⟨_, rfl⟩
                    rw [hY'] at hI tB ⊢
                    clear hY' yv yg yvf ygf
                    have yv := hI.1.cell
                    have yvf := hI.1.frozen
                    have yg := hI.2.1.cell
                    have ygf := hI.2.1.frozen
                    refine hK _ _ ?_
                    clear hK K
                    refine wpAny_ready (rs := [8]) (by kernel_rfl) (by simp) ?_
                    refine AllReady.cons rfl (fun K hK => ?_) AllReady.nil
                    · refine step_append_bool rfl rfl (.tmp 35) (.tmp 38) rfl w2.heap.size g _ rfl hI.2.2.2.1 _ 1 true rfl tB.cell hpl2 hI.2.2.2.2.2.2 ?_
                      intro g2 cap2 Y4 ho' hg'
                      have hI := hI.app2 ho' hg'
                      clear ho' hg' yv yg yvf ygf
                      have yv := hI.1.cell
                      have yvf := hI.1.frozen
                      have yg := hI.2.1.cell
                      have ygf := hI.2.1.frozen
                      go_simp
                      refine hK _ _ ?_
                      clear hK K
                      refine wpAny_ready (rs := [9]) (by kernel_rfl) (by simp) ?_
                      refine AllReady.cons rfl (fun K hK => ?_) AllReady.nil
                      · go_simp
                        refine hK _ _ ?_
                        clear hK K
                        refine wpAny_ready (rs := [10]) (by kernel_rfl) (by simp) ?_
                        refine AllReady.cons rfl (fun K hK => ?_) AllReady.nil
                        · go_simp
                          refine hK _ _ ?_
                          clear hK K
                          refine wpAny_done (by kernel_rfl) ?_ _
                          exact rec_leaf hI Hxx.out Hbb.out Hz.out hne h6 h7 h8 hb (by omega)
                · have tB := Boxed.new Y1 4 (.bool true)
                  have tA := tA.alloc (.cells #[.bool true] 4)
                  have hI := hI.alloc (.cells #[.bool true] 4)
                  go_simp
                  obtain ⟨Y2, hY'⟩ : ∃ Y', Y1.alloc (.cells #[.bool true] 4) = Y' := ⟨_, rfl⟩
                  rw [hY'] at hI tB tA ⊢
                  clear hY' yv yg yvf ygf
                  have yv := hI.1.cell
                  have yvf := hI.1.frozen
                  have yg := hI.2.1.cell
                  have ygf := hI.2.1.frozen
                  refine hK _ _ ?_
                  clear hK K
                  refine wpAny_ready (rs := [3]) (by kernel_rfl) (by simp) ?_
                  refine AllReady.cons rfl (fun K hK => ?_) AllReady.nil
                  · refine step_append_str rfl rfl (.tmp 31) (.tmp 33) rfl w2.heap.size v _ rfl hI.2.2.1 _ 1 (z.1) rfl tA.cell hpl hI.2.2.2.2.2.2 ?_
                    intro g1 cap1 Y3 ho' hg'
                    have tB := tB.kept hg' (tB.not_row (by decide) hI.2.2.1)
                    have hI := hI.app1 ho' hg'
                    clear ho' hg' yv yg yvf ygf
                    have yv := hI.1.cell
                    have yvf := hI.1.frozen
                    have yg := hI.2.1.cell
                    have ygf := hI.2.1.frozen
                    go_simp
                    refine hK _ _ ?_
                    clear hK K
                    refine wpAny_ready (rs := [8]) (by kernel_rfl) (by simp) ?_
                    refine AllReady.cons rfl (fun K hK => ?_) AllReady.nil
                    · refine step_append_bool rfl rfl (.tmp 35) (.tmp 38) rfl w2.heap.size g _ rfl hI.2.2.2.1 _ 1 true rfl tB.cell hpl2 hI.2.2.2.2.2.2 ?_
                      intro g2 cap2 Y4 ho' hg'
                      have hI := hI.app2 ho' hg'
                      clear ho' hg' yv yg yvf ygf
                      have yv := hI.1.cell
                      have yvf := hI.1.frozen
                      have yg := hI.2.1.cell
                      have ygf := hI.2.1.frozen
                      go_simp
                      refine hK _ _ ?_
                      clear hK K
                      refine wpAny_ready (rs := [9]) (by kernel_rfl) (by simp) ?_
                      refine AllReady.cons rfl (fun K hK => ?_) AllReady.nil
                      · go_simp
                        refine hK _ _ ?_
                        clear hK K
                        refine wpAny_ready (rs := [10]) (by kernel_rfl) (by simp) ?_
                        refine AllReady.cons rfl (fun K hK => ?_) AllReady.nil
                        · go_simp
                          refine hK _ _ ?_
                          clear hK K
                          refine wpAny_done (by kernel_rfl) ?_ _
                          exact rec_leaf hI Hxx.out Hbb.out Hz.out hne h6 h7 h8 hb (by omega)
              · have tB := Boxed.new Y1 4 (.bool true)
                have tA := tA.alloc (.cells #[.bool true] 4)
                have hI := hI.alloc (.cells #[.bool true] 4)
                go_simp
                obtain ⟨Y2, hY'⟩ : ∃ Y', Y1.alloc (.cells #[.bool true] 4) = Y' := ⟨_, rfl⟩
                rw [hY'] at hI tB tA ⊢
                clear hY' yv yg yvf ygf
                have yv := hI.1.cell
                have yvf := hI.1.frozen
                have yg := hI.2.1.cell
                have ygf := hI.2.1.frozen
                refine hK _ _ ?_
                clear hK K
                refine wpAny_ready (rs := [0]) (by kernel_rfl) (by simp) ?_
                refine AllReady.cons rfl (fun K hK => ?_) AllReady.nil
                · go_simp
                  refine hK _ _ ?_
                  clear hK K
                  refine wpAny_ready (rs := [3]) (by kernel_rfl) (by simp) ?_
                  refine AllReady.cons rfl (fun K hK => ?_) AllReady.nil
                  · refine step_append_str rfl rfl (.tmp 31) (.tmp 33) rfl w2.heap.size v _ rfl hI.2.2.1 _ 1 (z.1) rfl tA.cell hpl hI.2.2.2.2.2.2 ?_
                    intro g1 cap1 Y3 ho' hg'
                    have tB := tB.kept hg' (tB.not_row (by decide) hI.2.2.1)
                    have hI := hI.app1 ho' hg'
                    clear ho' hg' yv yg yvf ygf
                    have yv := hI.1.cell
                    have yvf := hI.1.frozen
                    have yg := hI.2.1.cell
                    have ygf := hI.2.1.frozen
                    go_simp
                    refine hK _ _ ?_
                    clear hK K
                    refine wpAny_ready (rs := [8]) (by kernel_rfl) (by simp) ?_
                    refine AllReady.cons rfl (fun K hK => ?_) AllReady.nil
                    · refine step_append_bool rfl rfl (.tmp 35) (.tmp 38) rfl w2.heap.size g _ rfl hI.2.2.2.1 _ 1 true rfl tB.cell hpl2 hI.2.2.2.2.2.2 ?_
                      intro g2 cap2 Y4 ho' hg'
                      have hI := hI.app2 ho' hg'
                      clear ho' hg' yv yg yvf ygf
                      have yv := hI.1.cell
                      have yvf := hI.1.frozen
                      have yg := hI.2.1.cell
                      have ygf := hI.2.1.frozen
                      go_simp
                      refine hK _ _ ?_
                      clear hK K
                      refine wpAny_ready (rs := [9]) (by kernel_rfl) (by simp) ?_
                      refine AllReady.cons rfl (fun K hK => ?_) AllReady.nil
                      · go_simp
                        refine hK _ _ ?_
                        clear hK K
                        refine wpAny_ready (rs := [10]) (by kernel_rfl) (by simp) ?_
                        refine AllReady.cons rfl (fun K hK => ?_) AllReady.nil
                        · go_simp
                          refine hK _ _ ?_
                          clear hK K
                          refine wpAny_done (by kernel_rfl) ?_ _
                          exact rec_leaf hI Hxx.out Hbb.out Hz.out hne h6 h7 h8 hb (by omega)
            · have tB := Boxed.new Y1 4 (.bool true)
              have tA := tA.alloc (.cells #[.bool true] 4)
              have hI := hI.alloc (.cells #[.bool true] 4)
              go_simp
              obtain ⟨Y2, hY'⟩ : ∃ Y', Y1.alloc (.cells #[.bool true] 4) = Y' := ⟨_, rfl⟩
              rw [hY'] at hI tB tA ⊢
              clear hY' yv yg yvf ygf
              have yv := hI.1.cell
              have yvf := hI.1.frozen
              have yg := hI.2.1.cell
              have ygf := hI.2.1.frozen
              refine hK _ _ ?_
              clear hK K
              refine wpAny_ready (rs := [0, 4]) (by kernel_rfl) (by simp) ?_
              refine AllReady.cons rfl (fun K hK => ?_) (AllReady.cons rfl (fun K hK => ?_) AllReady.nil)
              · go_simp
                refine hK _ _ ?_
                clear hK K
                refine wpAny_ready (rs := [3, 4]) (by kernel_rfl) (by simp) ?_
                refine AllReady.cons rfl (fun K hK => ?_) (AllReady.cons rfl (fun K hK => ?_) AllReady.nil)
                · refine step_append_str rfl rfl (.tmp 31) (.tmp 33) rfl w2.heap.size v _ rfl hI.2.2.1 _ 1 (z.1) rfl tA.cell hpl hI.2.2.2.2.2.2 ?_
                  intro g1 cap1 Y3 ho' hg'
                  have tB := tB.kept hg' (tB.not_row (by decide) hI.2.2.1)
                  have hI := hI.app1 ho' hg'
                  clear ho' hg' yv yg yvf ygf
                  have yv := hI.1.cell
                  have yvf := hI.1.frozen
                  have yg := hI.2.1.cell
                  have ygf := hI.2.1.frozen
                  go_simp
                  refine hK _ _ ?_
                  clear hK K
                  refine wpAny_ready (rs := [4]) (by kernel_rfl) (by simp) ?_
                  refine AllReady.cons rfl (fun K hK => ?_) AllReady.nil
                  · go_simp
                    refine hK _ _ ?_
                    clear hK K
                    refine wpAny_ready (rs := [8]) (by kernel_rfl) (by simp) ?_
                    refine AllReady.cons rfl (fun K hK => ?_) AllReady.nil
                    · refine step_append_bool rfl rfl (.tmp 35) (.tmp 38) rfl w2.heap.size g _ rfl hI.2.2.2.1 _ 1 true rfl tB.cell hpl2 hI.2.2.2.2.2.2 ?_
                      intro g2 cap2 Y4 ho' hg'
                      have hI := hI.app2 ho' hg'
                      clear ho' hg' yv yg yvf ygf
                      have yv := hI.1.cell
                      have yvf := hI.1.frozen
                      have yg := hI.2.1.cell
                      have ygf := hI.2.1.frozen
                      go_simp
                      refine hK _ _ ?_
                      clear hK K
                      refine wpAny_ready (rs := [9]) (by kernel_rfl) (by simp) ?_
                      refine AllReady.cons rfl (fun K hK => ?_) AllReady.nil
                      · go_simp
                        refine hK _ _ ?_
                        clear hK K
                        refine wpAny_ready (rs := [10]) (by kernel_rfl) (by simp) ?_
                        refine AllReady.cons rfl (fun K hK => ?_) AllReady.nil
                        · go_simp
                          refine hK _ _ ?_
                          clear hK K
                          refine wpAny_done (by kernel_rfl) ?_ _
                          exact rec_leaf hI Hxx.out Hbb.out Hz.out hne h6 h7 h8 hb (by omega)
                · go_simp
                  refine hK _ _ ?_
                  clear hK K
                  refine wpAny_ready (rs := [3]) (by kernel_rfl) (by simp) ?_
                  refine AllReady.cons rfl (fun K hK => ?_) AllReady.nil
                  · refine step_append_str rfl rfl (.tmp 31) (.tmp 33) rfl w2.heap.size v _ rfl hI.2.2.1 _ 1 (z.1) rfl tA.cell hpl hI.2.2.2.2.2.2 ?_
                    intro g1 cap1 Y3 ho' hg'
                    have tB := tB.kept hg' (tB.not_row (by decide) hI.2.2.1)
                    have hI := hI.app1 ho' hg'
                    clear ho' hg' yv yg yvf ygf
                    have yv := hI.1.cell
                    have yvf := hI.1.frozen
                    have yg := hI.2.1.cell
                    have ygf := hI.2.1.frozen
                    go_simp
                    refine hK _ _ ?_
                    clear hK K
                    refine wpAny_ready (rs := [8]) (by kernel_rfl) (by simp) ?_
                    refine AllReady.cons rfl (fun K hK => ?_) AllReady.nil
                    · refine step_append_bool rfl rfl (.tmp 35) (.tmp 38) rfl w2.heap.size g _ rfl hI.2.2.2.1 _ 1 true rfl tB.cell hpl2 hI.2.2.2.2.2.2 ?_
                      intro g2 cap2 Y4 ho' hg'
                      have hI := hI.app2 ho' hg'
                      clear ho' hg' yv yg yvf ygf
                      have yv := hI.1.cell
                      have yvf := hI.1.frozen
                      have yg := hI.2.1.cell
                      have ygf := hI.2.1.frozen
                      go_simp
                      refine hK _ _ ?_
                      clear hK K
                      refine wpAny_ready (rs := [9]) (by kernel_rfl) (by simp) ?_
                      refine AllReady.cons rfl (fun K hK => ?_) AllReady.nil
                      · go_simp
                        refine hK _ _ ?_
                        clear hK K
                        refine wpAny_ready (rs := [10]) (by kernel_rfl) (by simp) ?_
                        refine AllReady.cons rfl (fun K hK => ?_) AllReady.nil
                        · go_simp
                          refine hK _ _ ?_
                          clear hK K
                          refine wpAny_done (by kernel_rfl) ?_ _
                          exact rec_leaf hI Hxx.out Hbb.out Hz.out hne h6 h7 h8 hb (by omega)
              · go_simp
                refine hK _ _ ?_
                clear hK K
                refine wpAny_ready (rs := [0]) (by kernel_rfl) (by simp) ?_
                refine AllReady.cons rfl (fun K hK => ?_) AllReady.nil
                · go_simp
                  refine hK _ _ ?_
                  clear hK K
                  refine wpAny_ready (rs := [3]) (by kernel_rfl) (by simp) ?_
                  refine AllReady.cons rfl (fun K hK => ?_) AllReady.nil
                  · refine step_append_str rfl rfl (.tmp 31) (.tmp 33) rfl w2.heap.size v _ rfl hI.2.2.1 _ 1 (z.1) rfl tA.cell hpl hI.2.2.2.2.2.2 ?_
                    intro g1 cap1 Y3 ho' hg'
                    have tB := tB.kept hg' (tB.not_row (by decide) hI.2.2.1)
                    have hI := hI.app1 ho' hg'
                    clear ho' hg' yv yg yvf ygf
                    have yv := hI.1.cell
                    have yvf := hI.1.frozen
                    have yg := hI.2.1.cell
                    have ygf := hI.2.1.frozen
                    go_simp
                    refine hK _ _ ?_
                    clear hK K
                    refine wpAny_ready (rs := [8]) (by kernel_rfl) (by simp) ?_
                    refine AllReady.cons rfl (fun K hK => ?_) AllReady.nil
                    · refine step_append_bool rfl rfl (.tmp 35) (.tmp 38) rfl w2.heap.size g _ rfl hI.2.2.2.1 _ 1 true rfl tB.cell hpl2 hI.2.2.2.2.2.2 ?_
                      intro g2 cap2 Y4 ho' hg'
                      have hI := hI.app2 ho' hg'
                      clear ho' hg' yv yg yvf ygf
                      have yv := hI.1.cell
                      have yvf := hI.1.frozen
                      have yg := hI.2.1.cell
                      have ygf := hI.2.1.frozen
                      go_simp
                      refine hK _ _ ?_
                      clear hK K
                      refine wpAny_ready (rs := [9]) (by kernel_rfl) (by simp) ?_
                      refine AllReady.cons rfl (fun K hK => ?_) AllReady.nil
                      · go_simp
                        refine hK _ _ ?_
                        clear hK K
                        refine wpAny_ready (rs := [10]) (by kernel_rfl) (by simp) ?_
                        refine AllReady.cons rfl (fun K hK => ?_) AllReady.nil
                        · go_simp
                          refine hK _ _ ?_
                          clear hK K
                          refine wpAny_done (by kernel_rfl) ?_ _
                          exact rec_leaf hI Hxx.out Hbb.out Hz.out hne h6 h7 h8 hb (by omega)
          · go_simp
            refine hK _ _ ?_
            clear hK K
            refine wpAny_ready (rs := [0, 2, 7]) (by kernel_rfl) (by simp) ?_
            refine AllReady.cons rfl (fun K hK => ?_) (AllReady.cons rfl (fun K hK => ?_) (AllReady.cons rfl (fun K hK => ?_) AllReady.nil))
            · go_simp
              refine hK _ _ ?_
              clear hK K
              refine wpAny_ready (rs := [2, 7]) (by kernel_rfl) (by simp) ?_
              refine AllReady.cons rfl (fun K hK => ?_) (AllReady.cons rfl (fun K hK => ?_) AllReady.nil)
              · have tA := Boxed.new Y0 9 (.string z.1)
                have hI := hI.alloc (.cells #[.string z.1] 9)
                go_simp
                obtain ⟨Y1, hY'⟩ : ∃ Y', Y0.alloc (.cells #[.string z.1] 9) = Y' := ⟨_, rfl⟩
                rw [hY'] at hI tA ⊢
                clear hY' yv yg yvf ygf
                have yv := hI.1.cell
                have yvf := hI.1.frozen
                have yg := hI.2.1.cell
                have ygf := hI.2.1.frozen
                refine hK _ _ ?_
                clear hK K
                refine wpAny_ready (rs := [3, 7]) (by kernel_rfl) (by simp) ?_
                refine AllReady.cons rfl (fun K hK => ?_) (AllReady.cons rfl (fun K hK => ?_) AllReady.nil)
                · refine step_append_str rfl rfl (.tmp 31) (.tmp 33) rfl w2.heap.size v _ rfl hI.2.2.1 _ 1 (z.1) rfl tA.cell hpl hI.2.2.2.2.2.2 ?_
                  intro g1 cap1 Y2 ho' hg'
                  have hI := hI.app1 ho' hg'
                  clear ho' hg' yv yg yvf ygf
                  have yv := hI.1.cell
                  have yvf := hI.1.frozen
                  have yg := hI.2.1.cell
                  have ygf := hI.2.1.frozen
                  go_simp
                  refine hK _ _ ?_
                  clear hK K
                  refine wpAny_ready (rs := [7]) (by kernel_rfl) (by simp) ?_
                  refine AllReady.cons rfl (fun K hK => ?_) AllReady.nil
                  · have tB := Boxed.new Y2 4 (.bool true)
                    have hI := hI.alloc (.cells #[.bool true] 4)
                    go_simp
                    obtain ⟨Y3, hY'⟩ : ∃ Y', Y2.alloc (.cells #[.bool true] 4) = Y' := ⟨_, rfl⟩
                    rw [hY'] at hI tB ⊢
                    clear hY' yv yg yvf ygf
                    have yv := hI.1.cell
                    have yvf := hI.1.frozen
                    have yg := hI.2.1.cell
                    have ygf := hI.2.1.frozen
                    refine hK _ _ ?_
                    clear hK K
                    refine wpAny_ready (rs := [8]) (by kernel_rfl) (by simp) ?_
                    refine AllReady.cons rfl (fun K hK => ?_) AllReady.nil
                    · refine step_append_bool rfl rfl (.tmp 35) (.tmp 38) rfl w2.heap.size g _ rfl hI.2.2.2.1 _ 1 true rfl tB.cell hpl2 hI.2.2.2.2.2.2 ?_
                      intro g2 cap2 Y4 ho' hg'
                      have hI := hI.app2 ho' hg'
                      clear ho' hg' yv yg yvf ygf
                      have yv := hI.1.cell
                      have yvf := hI.1.frozen
                      have yg := hI.2.1.cell
                      have ygf := hI.2.1.frozen
                      go_simp
                      refine hK _ _ ?_
                      clear hK K
                      refine wpAny_ready (rs := [9]) (by kernel_rfl) (by simp) ?_
                      refine AllReady.cons rfl (fun K hK => ?_) AllReady.nil
                      · go_simp
                        refine hK _ _ ?_
                        clear hK K
                        refine wpAny_ready (rs := [10]) (by kernel_rfl) (by simp) ?_
                        refine AllReady.cons rfl (fun K hK => ?_) AllReady.nil
                        · go_simp
                          refine hK _ _ ?_
                          clear hK K
                          refine wpAny_done (by kernel_rfl) ?_ _
                          exact rec_leaf hI Hxx.out Hbb.out Hz.out hne h6 h7 h8 hb (by omega)
                · have tB := Boxed.new Y1 4 (.bool true)
                  have tA := tA.alloc (.cells #[.bool true] 4)
                  have hI := hI.alloc (.cells #[.bool true] 4)
                  go_simp
                  obtain ⟨Y2, hY'⟩ : ∃ Y', Y1.alloc (.cells #[.bool true] 4) = Y' := ⟨_, rfl⟩
                  rw [hY'] at hI tB tA ⊢
                  clear hY' yv yg yvf ygf
                  have yv := hI.1.cell
                  have yvf := hI.1.frozen
                  have yg := hI.2.1.cell
                  have ygf := hI.2.1.frozen
                  refine hK _ _ ?_
                  clear hK K
                  refine wpAny_ready (rs := [3]) (by kernel_rfl) (by simp) ?_
                  refine AllReady.cons rfl (fun K hK => ?_) AllReady.nil
                  · refine step_append_str rfl rfl (.tmp 31) (.tmp 33) rfl w2.heap.size v _ rfl hI.2.2.1 _ 1 (z.1) rfl tA.cell hpl hI.2.2.2.2.2.2 ?_
                    intro g1 cap1 Y3 ho' hg'
                    have tB := tB.kept hg' (tB.not_row (by decide) hI.2.2.1)
                    have hI := hI.app1 ho' hg'
                    clear ho' hg' yv yg yvf ygf
                    have yv := hI.1.cell
                    have yvf := hI.1.frozen
                    have yg := hI.2.1.cell
                    have ygf := hI.2.1.frozen
                    go_simp
                    refine hK _ _ ?_
                    clear hK K
                    refine wpAny_ready (rs := [8]) (by kernel_rfl) (by simp) ?_
                    refine AllReady.cons rfl (fun K hK => ?_) AllReady.nil
                    · refine step_append_bool rfl rfl (.tmp 35) (.tmp 38) rfl w2.heap.size g _ rfl hI.2.2.2.1 _ 1 true rfl tB.cell hpl2 hI.2.2.2.2.2.2 ?_
                      intro g2 cap2 Y4 ho' hg'
                      have hI := hI.app2 ho' hg'
                      clear ho' hg' yv yg yvf ygf
                      have yv := hI.1.cell
                      have yvf := hI.1.frozen
                      have yg := hI.2.1.cell
                      have ygf := hI.2.1.frozen
                      go_simp
                      refine hK _ _ ?_
                      clear hK K
                      refine wpAny_ready (rs := [9]) (by kernel_rfl) (by simp) ?_
                      refine AllReady.cons rfl (fun K hK => ?_) AllReady.nil
                      · go_simp
                        refine hK _ _ ?_
                        clear hK K
                        refine wpAny_ready (rs := [10]) (by kernel_rfl) (by simp) ?_
                        refine AllReady.cons rfl (fun K hK => ?_) AllReady.nil
                        · go_simp
                          refine hK _ _ ?_
                          clear hK K
                          refine wpAny_done (by kernel_rfl) ?_ _
                          exact rec_leaf hI Hxx.out Hbb.out Hz.out hne h6 h7 h8 hb (by omega)
              · have tB := Boxed.new Y0 4 (.bool true)
                have hI := hI.alloc (.cells #[.bool true] 4)
                go_simp
                obtain ⟨Y1, hY'⟩ : ∃ Y', Y0.alloc (.cells #[.bool true] 4) = Y' := ⟨_, rfl⟩
                rw [hY'] at hI tB ⊢
                clear hY' yv yg yvf ygf
                have yv := hI.1.cell
                have yvf := hI.1.frozen
                have yg := hI.2.1.cell
                have ygf := hI.2.1.frozen
                refine hK _ _ ?_
                clear hK K
                refine wpAny_ready (rs := [2]) (by kernel_rfl) (by simp) ?_
                refine AllReady.cons rfl (fun K hK => ?_) AllReady.nil
                · have tA := Boxed.new Y1 9 (.string z.1)
                  have tB := tB.alloc (.cells #[.string z.1] 9)
                  have hI := hI.alloc (.cells #[.string z.1] 9)
                  go_simp
                  obtain ⟨Y2, hY'⟩ : ∃ Y', Y1.alloc (.cells #[.string z.1] 9) = Y' := ⟨_, rfl⟩
                  rw [hY'] at hI tA tB ⊢
                  clear hY' yv yg yvf ygf
                  have yv := hI.1.cell
                  have yvf := hI.1.frozen
                  have yg := hI.2.1.cell
                  have ygf := hI.2.1.frozen
                  refine hK _ _ ?_
                  clear hK K
                  refine wpAny_ready (rs := [3]) (by kernel_rfl) (by simp) ?_
                  refine AllReady.cons rfl (fun K hK => ?_) AllReady.nil
                  · refine step_append_str rfl rfl (.tmp 31) (.tmp 33) rfl w2.heap.size v _ rfl hI.2.2.1 _ 1 (z.1) rfl tA.cell hpl hI.2.2.2.2.2.2 ?_
                    intro g1 cap1 Y3 ho' hg'
                    have tB := tB.kept hg' (tB.not_row (by decide) hI.2.2.1)
                    have hI := hI.app1 ho' hg'
                    clear ho' hg' yv yg yvf ygf
                    have yv := hI.1.cell
                    have yvf := hI.1.frozen
                    have yg := hI.2.1.cell
                    have ygf := hI.2.1.frozen
                    go_simp
                    refine hK _ _ ?_
                    clear hK K
                    refine wpAny_ready (rs := [8]) (by kernel_rfl) (by simp) ?_
                    refine AllReady.cons rfl (fun K hK => ?_) AllReady.nil
                    · refine step_append_bool rfl rfl (.tmp 35) (.tmp 38) rfl w2.heap.size g _ rfl hI.2.2.2.1 _ 1 true rfl tB.cell hpl2 hI.2.2.2.2.2.2 ?_
                      intro g2 cap2 Y4 ho' hg'
                      have hI := hI.app2 ho' hg'
                      clear ho' hg' yv yg yvf ygf
                      have yv := hI.1.cell
                      have yvf := hI.1.frozen
                      have yg := hI.2.1.cell
                      have ygf := hI.2.1.frozen
                      go_simp
                      refine hK _ _ ?_
                      clear hK K
                      refine wpAny_ready (rs := [9]) (by kernel_rfl) (by simp) ?_
                      refine AllReady.cons rfl (fun K hK => ?_) AllReady.nil
                      · go_simp
                        refine hK _ _ ?_
                        clear hK K
                        refine wpAny_ready (rs := [10]) (by kernel_rfl) (by simp) ?_
                        refine AllReady.cons rfl (fun K hK => ?_) AllReady.nil
                        · go_simp
                          refine hK _ _ ?_
                          clear hK K
                          refine wpAny_done (by kernel_rfl) ?_ _
                          exact rec_leaf hI Hxx.out Hbb.out Hz.out hne h6 h7 h8 hb (by omega)
            · have tA := Boxed.new Y0 9 (.string z.1)
              have hI := hI.alloc (.cells #[.string z.1] 9)
              go_simp
              obtain ⟨Y1, hY'⟩ : ∃ Y', Y0.alloc (.cells #[.string z.1] 9) = Y' := ⟨_, rfl⟩
              rw [hY'] at hI tA ⊢
              clear hY' yv yg yvf ygf
              have yv := hI.1.cell
              have yvf := hI.1.frozen
              have yg := hI.2.1.cell
              have ygf := hI.2.1.frozen
              refine hK _ _ ?_
              clear hK K
              refine wpAny_ready (rs := [0, 7]) (by kernel_rfl) (by simp) ?_
              refine AllReady.cons rfl (fun K hK => ?_) (AllReady.cons rfl (fun K hK => ?_) AllReady.nil)
              · go_simp
                refine hK _ _ ?_
                clear hK K
                refine wpAny_ready (rs := [3, 7]) (by kernel_rfl) (by simp) ?_
                refine AllReady.cons rfl (fun K hK => ?_) (AllReady.cons rfl (fun K hK => ?_) AllReady.nil)
                · refine step_append_str rfl rfl (.tmp 31) (.tmp 33) rfl w2.heap.size v _ rfl hI.2.2.1 _ 1 (z.1) rfl tA.cell hpl hI.2.2.2.2.2.2 ?_
                  intro g1 cap1 Y2 ho' hg'
                  have hI := hI.app1 ho' hg'
                  clear ho' hg' yv yg yvf ygf
                  have yv := hI.1.cell
                  have yvf := hI.1.frozen
                  have yg := hI.2.1.cell
                  have ygf := hI.2.1.frozen
                  go_simp
                  refine hK _ _ ?_
                  clear hK K
                  refine wpAny_ready (rs := [7]) (by kernel_rfl) (by simp) ?_
                  refine AllReady.cons rfl (fun K hK => ?_) AllReady.nil
                  · have tB := Boxed.new Y2 4 (.bool true)
                    have hI := hI.alloc (.cells #[.bool true] 4)
                    go_simp
                    obtain ⟨Y3, hY'⟩ : ∃ Y', Y2.alloc (.cells #[.bool true] 4) = Y' := ⟨_, rfl⟩
                    rw [hY'] at hI tB ⊢
                    clear hY' yv yg yvf ygf
                    have yv := hI.1.cell
                    have yvf := hI.1.frozen
                    have yg := hI.2.1.cell
                    have ygf := hI.2.1.frozen
                    refine hK _ _ ?_
                    clear hK K
                    refine wpAny_ready (rs := [8]) (by kernel_rfl) (by simp) ?_
                    refine AllReady.cons rfl (fun K hK => ?_) AllReady.nil
                    · refine step_append_bool rfl rfl (.tmp 35) (.tmp 38) rfl w2.heap.size g _ rfl hI.2.2.2.1 _ 1 true rfl tB.cell hpl2 hI.2.2.2.2.2.2 ?_
                      intro g2 cap2 Y4 ho' hg'
                      have hI := hI.app2 ho' hg'
                      clear ho' hg' yv yg yvf ygf
                      have yv := hI.1.cell
                      have yvf := hI.1.frozen
                      have yg := hI.2.1.cell
                      have ygf := hI.2.1.frozen
                      go_simp
                      refine hK _ _ ?_
                      clear hK K
                      refine wpAny_ready (rs := [9]) (by kernel_rfl) (by simp) ?_
                      refine AllReady.cons rfl (fun K hK => ?_) AllReady.nil
                      · go_simp
                        refine hK _ _ ?_
                        clear hK K
                        refine wpAny_ready (rs := [10]) (by kernel_rfl) (by simp) ?_
                        refine AllReady.cons rfl (fun K hK => ?_) AllReady.nil
                        · go_simp
                          refine hK _ _ ?_
                          clear hK K
                          refine wpAny_done (by kernel_rfl) ?_ _
                          exact rec_leaf hI Hxx.out Hbb.out Hz.out hne h6 h7 h8 hb (by omega)
                · have tB := Boxed.new Y1 4 (.bool true)
                  have tA := tA.alloc (.cells #[.bool true] 4)
                  have hI := hI.alloc (.cells #[.bool true] 4)
                  go_simp
                  obtain ⟨Y2, hY'⟩ : ∃ Y', Y1.alloc (.cells #[.bool true] 4) = Y' := ⟨_, rfl⟩
                  rw [hY'] at hI tB tA ⊢
                  clear hY' yv yg yvf ygf
                  have yv := hI.1.cell
                  have yvf := hI.1.frozen
                  have yg := hI.2.1.cell
                  have ygf := hI.2.1.frozen
                  refine hK _ _ ?_
                  clear hK K
                  refine wpAny_ready (rs := [3]) (by kernel_rfl) (by simp) ?_
                  refine AllReady.cons rfl (fun K hK => ?_) AllReady.nil
                  · refine step_append_str rfl rfl (.tmp 31) (.tmp 33) rfl w2.heap.size v _ rfl hI.2.2.1 _ 1 (z.1) rfl tA.cell hpl hI.2.2.2.2.2.2 ?_
                    intro g1 cap1 Y3 ho' hg'
                    have tB := tB.kept hg' (tB.not_row (by decide) hI.2.2.1)
                    have hI := hI.app1 ho' hg'
                    clear ho' hg' yv yg yvf ygf
                    have yv := hI.1.cell
                    have yvf := hI.1.frozen
                    have yg := hI.2.1.cell
                    have ygf := hI.2.1.frozen
                    go_simp
                    refine hK _ _ ?_
                    clear hK K
                    refine wpAny_ready (rs := [8]) (by kernel_rfl) (by simp) ?_
                    refine AllReady.cons rfl (fun K hK => ?_) AllReady.nil
                    · refine step_append_bool rfl rfl (.tmp 35) (.tmp 38) rfl w2.heap.size g _ rfl hI.2.2.2.1 _ 1 true rfl tB.cell hpl2 hI.2.2.2.2.2.2 ?_
                      intro g2 cap2 Y4 ho' hg'
                      have hI := hI.app2 ho' hg'
                      clear ho' hg' yv yg yvf ygf
                      have yv := hI.1.cell
                      have yvf := hI.1.frozen
                      have yg := hI.2.1.cell
                      have ygf := hI.2.1.frozen
                      go_simp
                      refine hK _ _ ?_
                      clear hK K
                      refine wpAny_ready (rs := [9]) (by kernel_rfl) (by simp) ?_
                      refine AllReady.cons rfl (fun K hK => ?_) AllReady.nil
                      · go_simp
                        refine hK _ _ ?_
                        clear hK K
                        refine wpAny_ready (rs := [10]) (by kernel_rfl) (by simp) ?_
                        refine AllReady.cons rfl (fun K hK => ?_) AllReady.nil
                        · go_simp
                          refine hK _ _ ?_
                          clear hK K
                          refine wpAny_done (by kernel_rfl) ?_ _
                          exact rec_leaf hI Hxx.out Hbb.out Hz.out hne h6 h7 h8 hb (by omega)
              · have tB := Boxed.new Y1 4 (.bool true)
                have tA := tA.alloc (.cells #[.bool true] 4)
                have hI := hI.alloc (.cells #[.bool true] 4)
                go_simp
                obtain ⟨Y2, hY'⟩ : ∃ Y', Y1.alloc (.cells #[.bool true] 4) = Y' := ⟨_, rfl⟩
                rw [hY'] at hI tB tA ⊢
                clear hY' yv yg yvf ygf
                have yv := hI.1.cell
                have yvf := hI.1.frozen
                have yg := hI.2.1.cell
                have ygf := hI.2.1.frozen
                refine hK _ _ ?_
                clear hK K
                refine wpAny_ready (rs := [0]) (by kernel_rfl) (by simp) ?_
                refine AllReady.cons rfl (fun K hK => ?_) AllReady.nil
                · go_simp
                  refine hK _ _ ?_
                  clear hK K
                  refine wpAny_ready (rs := [3]) (by kernel_rfl) (by simp) ?_
                  refine AllReady.cons rfl (fun K hK => ?_) AllReady.nil
                  · refine step_append_str rfl rfl (.tmp 31) (.tmp 33) rfl w2.heap.size v _ rfl hI.2.2.1 _ 1 (z.1) rfl tA.cell hpl hI.2.2.2.2.2.2 ?_
                    intro g1 cap1 Y3 ho' hg'
                    have tB := tB.kept hg' (tB.not_row (by decide) hI.2.2.1)
                    have hI := hI.app1 ho' hg'
                    clear ho' hg' yv yg yvf ygf
                    have yv := hI.1.cell
                    have yvf := hI.1.frozen
                    have yg := hI.2.1.cell
                    have ygf := hI.2.1.frozen
                    go_simp
                    refine hK _ _ ?_
                    clear hK K
                    refine wpAny_ready (rs := [8]) (by kernel_rfl) (by simp) ?_
                    refine AllReady.cons rfl (fun K hK => ?_) AllReady.nil
                    · refine step_append_bool rfl rfl (.tmp 35) (.tmp 38) rfl w2.heap.size g _ rfl hI.2.2.2.1 _ 1 true rfl tB.cell hpl2 hI.2.2.2.2.2.2 ?_
                      intro g2 cap2 Y4 ho' hg'
                      have hI := hI.app2 ho' hg'
                      clear ho' hg' yv yg yvf ygf
                      have yv := hI.1.cell
                      have yvf := hI.1.frozen
                      have yg := hI.2.1.cell
                      have ygf := hI.2.1.frozen
                      go_simp
                      refine hK _ _ ?_
                      clear hK K
                      refine wpAny_ready (rs := [9]) (by kernel_rfl) (by simp) ?_
                      refine AllReady.cons rfl (fun K hK => ?_) AllReady.nil
                      · go_simp
                        refine hK _ _ ?_
                        clear hK K
                        refine wpAny_ready (rs := [10]) (by kernel_rfl) (by simp) ?_
                        refine AllReady.cons rfl (fun K hK => ?_) AllReady.nil
                        · go_simp
                          refine hK _ _ ?_
                          clear hK K
                          refine wpAny_done (by kernel_rfl) ?_ _
                          exact rec_leaf hI Hxx.out Hbb.out Hz.out hne h6 h7 h8 hb (by omega)
            · have tB := Boxed.new Y0 4 (.bool true)
              have hI := hI.alloc (.cells #[.bool true] 4)
              go_simp
              obtain ⟨Y1, hY'⟩ : ∃ Y', Y0.alloc (.cells #[.bool true] 4) = Y' := ⟨_, rfl⟩
              rw [hY'] at hI tB ⊢
              clear hY' yv yg yvf ygf
              have yv := hI.1.cell
              have yvf := hI.1.frozen
              have yg := hI.2.1.cell
              have ygf := hI.2.1.frozen
              refine hK _ _ ?_
              clear hK K
              refine wpAny_ready (rs := [0, 2]) (by kernel_rfl) (by simp) ?_
              refine AllReady.cons rfl (fun K hK => ?_) (AllReady.cons rfl (fun K hK => ?_) AllReady.nil)
              · go_simp
                refine hK _ _ ?_
                clear hK K
                refine wpAny_ready (rs := [2]) (by kernel_rfl) (by simp) ?_
                refine AllReady.cons rfl (fun K hK => ?_) AllReady.nil
                · have tA := Boxed.new Y1 9 (.string z.1)
                  have tB := tB.alloc (.cells #[.string z.1] 9)
                  have hI := hI.alloc (.cells #[.string z.1] 9)
                  go_simp
                  obtain ⟨Y2, hY'⟩ : ∃ Y', Y1.alloc (.cells #[.string z.1] 9) = Y' := ⟨_, rfl⟩
                  rw [hY'] at hI tA tB ⊢
                  clear hY' yv yg yvf ygf
                  have yv := hI.1.cell
                  have yvf := hI.1.frozen
                  have yg := hI.2.1.cell
                  have ygf := hI.2.1.frozen
                  refine hK _ _ ?_
                  clear hK K
                  refine wpAny_ready (rs := [3]) (by kernel_rfl) (by simp) ?_
                  refine AllReady.cons rfl (fun K hK => ?_) AllReady.nil
                  · refine step_append_str rfl rfl (.tmp 31) (.tmp 33) rfl w2.heap.size v _ rfl hI.2.2.1 _ 1 (z.1) rfl tA.cell hpl hI.2.2.2.2.2.2 ?_
                    intro g1 cap1 Y3 ho' hg'
                    have tB := tB.kept hg' (tB.not_row (by decide) hI.2.2.1)
                    have hI := hI.app1 ho' hg'
                    clear ho' hg' yv yg yvf ygf
                    have yv := hI.1.cell
                    have yvf := hI.1.frozen
                    have yg := hI.2.1.cell
                    have ygf := hI.2.1.frozen
                    go_simp
                    refine hK _ _ ?_
                    clear hK K
                    refine wpAny_ready (rs := [8]) (by kernel_rfl) (by simp) ?_
                    refine AllReady.cons rfl (fun K hK => ?_) AllReady.nil
                    · refine step_append_bool rfl rfl (.tmp 35) (.tmp 38) rfl w2.heap.size g _ rfl hI.2.2.2.1 _ 1 true rfl tB.cell hpl2 hI.2.2.2.2.2.2 ?_
                      intro g2 cap2 Y4 ho' hg'
                      have hI := hI.app2 ho' hg'
                      clear ho' hg' yv yg yvf ygf
                      have yv := hI.1.cell
                      have yvf := hI.1.frozen
                      have yg := hI.2.1.cell
                      have ygf := hI.2.1.frozen
                      go_simp
                      refine hK _ _ ?_
                      clear hK K
                      refine wpAny_ready (rs := [9]) (by kernel_rfl) (by simp) ?_
                      refine AllReady.cons rfl (fun K hK => ?_) AllReady.nil
                      · go_simp
                        refine hK _ _ ?_
                        clear hK K
                        refine wpAny_ready (rs := [10]) (by kernel_rfl) (by simp) ?_
                        refine AllReady.cons rfl (fun K hK => ?_) AllReady.nil
                        · go_simp
                          refine hK _ _ ?_
                          clear hK K
                          refine wpAny_done (by kernel_rfl) ?_ _
                          exact rec_leaf hI Hxx.out Hbb.out Hz.out hne h6 h7 h8 hb (by omega)
              · have tA := Boxed.new Y1 9 (.string z.1)
                have tB := tB.alloc (.cells #[.string z.1] 9)
                have hI := hI.alloc (.cells #[.string z.1] 9)
                go_simp
                obtain ⟨Y2, hY'⟩ : ∃ Y', Y1.alloc (.cells #[.string z.1] 9) = Y' := ⟨_, rfl⟩
                rw [hY'] at hI tA tB ⊢
                clear hY' yv yg yvf ygf
                have yv := hI.1.cell
                have yvf := hI.1.frozen
                have yg := hI.2.1.cell
                have ygf := hI.2.1.frozen
                refine hK _ _ ?_
                clear hK K
                refine wpAny_ready (rs := [0]) (by kernel_rfl) (by simp) ?_
                refine AllReady.cons rfl (fun K hK => ?_) AllReady.nil
                · go_simp
                  refine hK _ _ ?_
                  clear hK K
                  refine wpAny_ready (rs := [3]) (by kernel_rfl) (by simp) ?_
                  refine AllReady.cons rfl (fun K hK => ?_) AllReady.nil
                  · refine step_append_str rfl rfl (.tmp 31) (.tmp 33) rfl w2.heap.size v _ rfl hI.2.2.1 _ 1 (z.1) rfl tA.cell hpl hI.2.2.2.2.2.2 ?_
                    intro g1 cap1 Y3 ho' hg'
                    have tB := tB.kept hg' (tB.not_row (by decide) hI.2.2.1)
                    have hI := hI.app1 ho' hg'
                    clear ho' hg' yv yg yvf ygf
                    have yv := hI.1.cell
                    have yvf := hI.1.frozen
                    have yg := hI.2.1.cell
                    have ygf := hI.2.1.frozen
                    go_simp
                    refine hK _ _ ?_
                    clear hK K
                    refine wpAny_ready (rs := [8]) (by kernel_rfl) (by simp) ?_
                    refine AllReady.cons rfl (fun K hK => ?_) AllReady.nil
                    · refine step_append_bool rfl rfl (.tmp 35) (.tmp 38) rfl w2.heap.size g _ rfl hI.2.2.2.1 _ 1 true rfl tB.cell hpl2 hI.2.2.2.2.2.2 ?_
                      intro g2 cap2 Y4 ho' hg'
                      have hI := hI.app2 ho' hg'
                      clear ho' hg' yv yg yvf ygf
                      have yv := hI.1.cell
                      have yvf := hI.1.frozen
                      have yg := hI.2.1.cell
                      have ygf := hI.2.1.frozen
                      go_simp
                      refine hK _ _ ?_
                      clear hK K
                      refine wpAny_ready (rs := [9]) (by kernel_rfl) (by simp) ?_
                      refine AllReady.cons rfl (fun K hK => ?_) AllReady.nil
                      · go_simp
                        refine hK _ _ ?_
                        clear hK K
                        refine wpAny_ready (rs := [10]) (by kernel_rfl) (by simp) ?_
                        refine AllReady.cons rfl (fun K hK => ?_) AllReady.nil
                        · go_simp
                          refine hK _ _ ?_
                          clear hK K
                          refine wpAny_done (by kernel_rfl) ?_ _
                          exact rec_leaf hI Hxx.out Hbb.out Hz.out hne h6 h7 h8 hb (by omega)
          · have tB := Boxed.new Y0 4 (.bool true)
            have hI := hI.alloc (.cells #[.bool true] 4)
            go_simp
            obtain ⟨Y1, hY'⟩ : ∃ Y', Y0.alloc (.cells #[.bool true] 4) = Y' := ⟨_, rfl⟩
            rw [hY'] at hI tB ⊢
            clear hY' yv yg yvf ygf
            have yv := hI.1.cell
            have yvf := hI.1.frozen
            have yg := hI.2.1.cell
            have ygf := hI.2.1.frozen
            refine hK _ _ ?_
            clear hK K
            refine wpAny_ready (rs := [0, 2, 4]) (by kernel_rfl) (by simp) ?_
            refine AllReady.cons rfl (fun K hK => ?_) (AllReady.cons rfl (fun K hK => ?_) (AllReady.cons rfl (fun K hK => ?_) AllReady.nil))
            · go_simp
              refine hK _ _ ?_
              clear hK K
              refine wpAny_ready (rs := [2, 4]) (by kernel_rfl) (by simp) ?_
              refine AllReady.cons rfl (fun K hK => ?_) (AllReady.cons rfl (fun K hK => ?_) AllReady.nil)
              · have tA := Boxed.new Y1 9 (.string z.1)
                have tB := tB.alloc (.cells #[.string z.1] 9)
                have hI := hI.alloc (.cells #[.string z.1] 9)
                go_simp
                obtain ⟨Y2, hY'⟩ : ∃ Y', Y1.alloc (.cells #[.string z.1] 9) = Y' := ⟨_, rfl⟩
                rw [hY'] at hI tA tB ⊢
                clear hY' yv yg yvf ygf
                have yv := hI.1.cell
                have yvf := hI.1.frozen
                have yg := hI.2.1.cell
                have ygf := hI.2.1.frozen
                refine hK _ _ ?_
                clear hK K
                refine wpAny_ready (rs := [3, 4]) (by kernel_rfl) (by simp) ?_
                refine AllReady.cons rfl (fun K hK => ?_) (AllReady.cons rfl (fun K hK => ?_) AllReady.nil)
                · refine step_append_str rfl rfl (.tmp 31) (.tmp 33) rfl w2.heap.size v _ rfl hI.2.2.1 _ 1 (z.1) rfl tA.cell hpl hI.2.2.2.2.2.2 ?_
                  intro g1 cap1 Y3 ho' hg'
                  have tB := tB.kept hg' (tB.not_row (by decide) hI.2.2.1)
                  have hI := hI.app1 ho' hg'
                  clear ho' hg' yv yg yvf ygf
                  have yv := hI.1.cell
                  have yvf := hI.1.frozen
                  have yg := hI.2.1.cell
                  have ygf := hI.2.1.frozen
                  go_simp
                  refine hK _ _ ?_
                  clear hK K
                  refine wpAny_ready (rs := [4]) (by kernel_rfl) (by simp) ?_
                  refine AllReady.cons rfl (fun K hK => ?_) AllReady.nil
                  · go_simp
                    refine hK _ _ ?_
                    clear hK K
                    refine wpAny_ready (rs := [8]) (by kernel_rfl) (by simp) ?_
                    refine AllReady.cons rfl (fun K hK => ?_) AllReady.nil
                    · refine step_append_bool rfl rfl (.tmp 35) (.tmp 38) rfl w2.heap.size g _ rfl hI.2.2.2.1 _ 1 true rfl tB.cell hpl2 hI.2.2.2.2.2.2 ?_
                      intro g2 cap2 Y4 ho' hg'
                      have hI := hI.app2 ho' hg'
                      clear ho' hg' yv yg yvf ygf
                      have yv := hI.1.cell
                      have yvf := hI.1.frozen
                      have yg := hI.2.1.cell
                      have ygf := hI.2.1.frozen
                      go_simp
                      refine hK _ _ ?_
                      clear hK K
                      refine wpAny_ready (rs := [9]) (by kernel_rfl) (by simp) ?_
                      refine AllReady.cons rfl (fun K hK => ?_) AllReady.nil
                      · go_simp
                        refine hK _ _ ?_
                        clear hK K
                        refine wpAny_ready (rs := [10]) (by kernel_rfl) (by simp) ?_
                        refine AllReady.cons rfl (fun K hK => ?_) AllReady.nil
                        · go_simp
                          refine hK _ _ ?_
                          clear hK K
                          refine wpAny_done (by kernel_rfl) ?_ _
                          exact rec_leaf hI Hxx.out Hbb.out Hz.out hne h6 h7 h8 hb (by omega)
                · go_simp
                  refine hK _ _ ?_
                  clear hK K
                  refine wpAny_ready (rs := [3]) (by kernel_rfl) (by simp) ?_
                  refine AllReady.cons rfl (fun K hK => ?_) AllReady.nil
                  · refine step_append_str rfl rfl (.tmp 31) (.tmp 33) rfl w2.heap.size v _ rfl hI.2.2.1 _ 1 (z.1) rfl tA.cell hpl hI.2.2.2.2.2.2 ?_
                    intro g1 cap1 Y3 ho' hg'
                    have tB := tB.kept hg' (tB.not_row (by decide) hI.2.2.1)
                    have hI := hI.app1 ho' hg'
                    clear ho' hg' yv yg yvf ygf
                    have yv := hI.1.cell
                    have yvf := hI.1.frozen
                    have yg := hI.2.1.cell
                    have ygf := hI.2.1.frozen
                    go_simp
                    refine hK _ _ ?_
                    clear hK K
                    refine wpAny_ready (rs := [8]) (by kernel_rfl) (by simp) ?_
                    refine AllReady.cons rfl (fun K hK => ?_) AllReady.nil
                    · refine step_append_bool rfl rfl (.tmp 35) (.tmp 38) rfl w2.heap.size g _ rfl hI.2.2.2.1 _ 1 true rfl tB.cell hpl2 hI.2.2.2.2.2.2 ?_
                      intro g2 cap2 Y4 ho' hg'
                      have hI := hI.app2 ho' hg'
                      clear ho' hg' yv yg yvf ygf
                      have yv := hI.1.cell
                      have yvf := hI.1.frozen
                      have yg := hI.2.1.cell
                      have ygf := hI.2.1.frozen
                      go_simp
                      refine hK _ _ ?_
                      clear hK K
                      refine wpAny_ready (rs := [9]) (by kernel_rfl) (by simp) ?_
                      refine AllReady.cons rfl (fun K hK => ?_) AllReady.nil
                      · go_simp
                        refine hK _ _ ?_
                        clear hK K
                        refine wpAny_ready (rs := [10]) (by kernel_rfl) (by simp) ?_
                        refine AllReady.cons rfl (fun K hK => ?_) AllReady.nil
                        · go_simp
                          refine hK _ _ ?_
                          clear hK K
                          refine wpAny_done (by kernel_rfl) ?_ _
                          exact rec_leaf hI Hxx.out Hbb.out Hz.out hne h6 h7 h8 hb (by omega)
              · go_simp
                refine hK _ _ ?_
                clear hK K
                refine wpAny_ready (rs := [2]) (by kernel_rfl) (by simp) ?_
                refine AllReady.cons rfl (fun K hK => ?_) AllReady.nil
                · have tA := Boxed.new Y1 9 (.string z.1)
                  have tB := tB.alloc (.cells #[.string z.1] 9)
                  have hI := hI.alloc (.cells #[.string z.1] 9)
                  go_simp
                  obtain ⟨Y2, hY'⟩ : ∃ Y', Y1.alloc (.cells #[.string z.1] 9) = Y' := ⟨_, rfl⟩
                  rw [hY'] at hI tA tB ⊢
                  clear hY' yv yg yvf ygf
                  have yv := hI.1.cell
                  have yvf := hI.1.frozen
                  have yg := hI.2.1.cell
                  have ygf := hI.2.1.frozen
                  refine hK _ _ ?_
                  clear hK K
                  refine wpAny_ready (rs := [3]) (by kernel_rfl) (by simp) ?_
                  refine AllReady.cons rfl (fun K hK => ?_) AllReady.nil
                  · refine step_append_str rfl rfl (.tmp 31) (.tmp 33) rfl w2.heap.size v _ rfl hI.2.2.1 _ 1 (z.1) rfl tA.cell hpl hI.2.2.2.2.2.2 ?_
                    intro g1 cap1 Y3 ho' hg'
                    have tB := tB.kept hg' (tB.not_row (by decide) hI.2.2.1)
                    have hI := hI.app1 ho' hg'
                    clear ho' hg' yv yg yvf ygf
                    have yv := hI.1.cell
                    have yvf := hI.1.frozen
                    have yg := hI.2.1.cell
                    have ygf := hI.2.1.frozen
                    go_simp
                    refine hK _ _ ?_
                    clear hK K
                    refine wpAny_ready (rs := [8]) (by kernel_rfl) (by simp) ?_
                    refine AllReady.cons rfl (fun K hK => ?_) AllReady.nil
                    · refine step_append_bool rfl rfl (.tmp 35) (.tmp 38) rfl w2.heap.size g _ rfl hI.2.2.2.1 _ 1 true rfl tB.cell hpl2 hI.2.2.2.2.2.2 ?_
                      intro g2 cap2 Y4 ho' hg'
                      have hI := hI.app2 ho' hg'
                      clear ho' hg' yv yg yvf ygf
                      have yv := hI.1.cell
                      have yvf := hI.1.frozen
                      have yg := hI.2.1.cell
                      have ygf := hI.2.1.frozen
                      go_simp
                      refine hK _ _ ?_
                      clear hK K
                      refine wpAny_ready (rs := [9]) (by kernel_rfl) (by simp) ?_
                      refine AllReady.cons rfl (fun K hK => ?_) AllReady.nil
                      · go_simp
                        refine hK _ _ ?_
                        clear hK K
                        refine wpAny_ready (rs := [10]) (by kernel_rfl) (by simp) ?_
                        refine AllReady.cons rfl (fun K hK => ?_) AllReady.nil
                        · go_simp
                          refine hK _ _ ?_
                          clear hK K
                          refine wpAny_done (by kernel_rfl) ?_ _
                          exact rec_leaf hI Hxx.out Hbb.out Hz.out hne h6 h7 h8 hb (by omega)
            · have tA := Boxed.new Y1 9 (.string z.1)
              have tB := tB.alloc (.cells #[.string z.1] 9)
              have hI := hI.alloc (.cells #[.string z.1] 9)
              go_simp
              obtain ⟨Y2, hY'⟩ : ∃ Y', Y1.alloc (.cells #[.string z.1] 9) = Y' := ⟨_, rfl⟩
              rw [hY'] at hI tA tB ⊢
              clear hY' yv yg yvf ygf
              have yv := hI.1.cell
              have yvf := hI.1.frozen
              have yg := hI.2.1.cell
              have ygf := hI.2.1.frozen
              refine hK _ _ ?_
              clear hK K
              refine wpAny_ready (rs := [0, 4]) (by kernel_rfl) (by simp) ?_
              refine AllReady.cons rfl (fun K hK => ?_) (AllReady.cons rfl (fun K hK => ?_) AllReady.nil)
              · go_simp
                refine hK _ _ ?_
                clear hK K
                refine wpAny_ready (rs := [3, 4]) (by kernel_rfl) (by simp) ?_
                refine AllReady.cons rfl (fun K hK => ?_) (AllReady.cons rfl (fun K hK => ?_) AllReady.nil)
                · refine step_append_str rfl rfl (.tmp 31) (.tmp 33) rfl w2.heap.size v _ rfl hI.2.2.1 _ 1 (z.1) rfl tA.cell hpl hI.2.2.2.2.2.2 ?_
                  intro g1 cap1 Y3 ho' hg'
                  have tB := tB.kept hg' (tB.not_row (by decide) hI.2.2.1)
                  have hI := hI.app1 ho' hg'
                  clear ho' hg' yv yg yvf ygf
                  have yv := hI.1.cell
                  have yvf := hI.1.frozen
                  have yg := hI.2.1.cell
                  have ygf := hI.2.1.frozen
                  go_simp
                  refine hK _ _ ?_
                  clear hK K
                  refine wpAny_ready (rs := [4]) (by kernel_rfl) (by simp) ?_
                  refine AllReady.cons rfl (fun K hK => ?_) AllReady.nil
                  · go_simp
                    refine hK _ _ ?_
                    clear hK K
                    refine wpAny_ready (rs := [8]) (by kernel_rfl) (by simp) ?_
                    refine AllReady.cons rfl (fun K hK => ?_) AllReady.nil
                    · refine step_append_bool rfl rfl (.tmp 35) (.tmp 38) rfl w2.heap.size g _ rfl hI.2.2.2.1 _ 1 true rfl tB.cell hpl2 hI.2.2.2.2.2.2 ?_
                      intro g2 cap2 Y4 ho' hg'
                      have hI := hI.app2 ho' hg'
                      clear ho' hg' yv yg yvf ygf
                      have yv := hI.1.cell
                      have yvf := hI.1.frozen
                      have yg := hI.2.1.cell
                      have ygf := hI.2.1.frozen
                      go_simp
                      refine hK _ _ ?_
                      clear hK K
                      refine wpAny_ready (rs := [9]) (by kernel_rfl) (by simp) ?_
                      refine AllReady.cons rfl (fun K hK => ?_) AllReady.nil
                      · go_simp
                        refine hK _ _ ?_
                        clear hK K
                        refine wpAny_ready (rs := [10]) (by kernel_rfl) (by simp) ?_
                        refine AllReady.cons rfl (fun K hK => ?_) AllReady.nil
                        · go_simp
                          refine hK _ _ ?_
                          clear hK K
                          refine wpAny_done (by kernel_rfl) ?_ _
                          exact rec_leaf hI Hxx.out Hbb.out Hz.out hne h6 h7 h8 hb (by omega)
                · go_simp
                  refine hK _ _ ?_
                  clear hK K
                  refine wpAny_ready (rs := [3]) (by kernel_rfl) (by simp) ?_
                  refine AllReady.cons rfl (fun K hK => ?_) AllReady.nil
                  · refine step_append_str rfl rfl (.tmp 31) (.tmp 33) rfl w2.heap.size v _ rfl hI.2.2.1 _ 1 (z.1) rfl tA.cell hpl hI.2.2.2.2.2.2 ?_
                    intro g1 cap1 Y3 ho' hg'
                    have tB := tB.kept hg' (tB.not_row (by decide) hI.2.2.1)
                    have hI := hI.app1 ho' hg'
                    clear ho' hg' yv yg yvf ygf
                    have yv := hI.1.cell
                    have yvf := hI.1.frozen
                    have yg := hI.2.1.cell
                    have ygf := hI.2.1.frozen
                    go_simp
                    refine hK _ _ ?_
                    clear hK K
                    refine wpAny_ready (rs := [8]) (by kernel_rfl) (by simp) ?_
                    refine AllReady.cons rfl (fun K hK => ?_) AllReady.nil
                    · refine step_append_bool rfl rfl (.tmp 35) (.tmp 38) rfl w2.heap.size g _ rfl hI.2.2.2.1 _ 1 true rfl tB.cell hpl2 hI.2.2.2.2.2.2 ?_
                      intro g2 cap2 Y4 ho' hg'
                      have hI := hI.app2 ho' hg'
                      clear ho' hg' yv yg yvf ygf
                      have yv := hI.1.cell
                      have yvf := hI.1.frozen
                      have yg := hI.2.1.cell
                      have ygf := hI.2.1.frozen
                      go_simp
                      refine hK _ _ ?_
                      clear hK K
                      refine wpAny_ready (rs := [9]) (by kernel_rfl) (by simp) ?_
                      refine AllReady.cons rfl (fun K hK => ?_) AllReady.nil
                      · go_simp
                        refine hK _ _ ?_
                        clear hK K
                        refine wpAny_ready (rs := [10]) (by kernel_rfl) (by simp) ?_
                        refine AllReady.cons rfl (fun K hK => ?_) AllReady.nil
                        · go_simp
                          refine hK _ _ ?_
                          clear hK K
                          refine wpAny_done (by kernel_rfl) ?_ _
                          exact rec_leaf hI Hxx.out Hbb.out Hz.out hne h6 h7 h8 hb (by omega)
              · go_simp
                refine hK _ _ ?_
                clear hK K
                refine wpAny_ready (rs := [0]) (by kernel_rfl) (by simp) ?_
                refine AllReady.cons rfl (fun K hK => ?_) AllReady.nil
                · go_simp
                  refine hK _ _ ?_
                  clear hK K
                  refine wpAny_ready (rs := [3]) (by kernel_rfl) (by simp) ?_
                  refine AllReady.cons rfl (fun K hK => ?_) AllReady.nil
                  · refine step_append_str rfl rfl (.tmp 31) (.tmp 33) rfl w2.heap.size v _ rfl hI.2.2.1 _ 1 (z.1) rfl tA.cell hpl hI.2.2.2.2.2.2 ?_
                    intro g1 cap1 Y3 ho' hg'
                    have tB := tB.kept hg' (tB.not_row (by decide) hI.2.2.1)
                    have hI := hI.app1 ho' hg'
                    clear ho' hg' yv yg yvf ygf
                    have yv := hI.1.cell
                    have yvf := hI.1.frozen
                    have yg := hI.2.1.cell
                    have ygf := hI.2.1.frozen
                    go_simp
                    refine hK _ _ ?_
                    clear hK K
                    refine wpAny_ready (rs := [8]) (by kernel_rfl) (by simp) ?_
                    refine AllReady.cons rfl (fun K hK => ?_) AllReady.nil
                    · refine step_append_bool rfl rfl (.tmp 35) (.tmp 38) rfl w2.heap.size g _ rfl hI.2.2.2.1 _ 1 true rfl tB.cell hpl2 hI.2.2.2.2.2.2 ?_
                      intro g2 cap2 Y4 ho' hg'
                      have hI := hI.app2 ho' hg'
                      clear ho' hg' yv yg yvf ygf
                      have yv := hI.1.cell
                      have yvf := hI.1.frozen
                      have yg := hI.2.1.cell
                      have ygf := hI.2.1.frozen
                      go_simp
                      refine hK _ _ ?_
                      clear hK K
                      refine wpAny_ready (rs := [9]) (by kernel_rfl) (by simp) ?_
                      refine AllReady.cons rfl (fun K hK => ?_) AllReady.nil
                      · go_simp
                        refine hK _ _ ?_
                        clear hK K
                        refine wpAny_ready (rs := [10]) (by kernel_rfl) (by simp) ?_
                        refine AllReady.cons rfl (fun K hK => ?_) AllReady.nil
                        · go_simp
                          refine hK _ _ ?_
                          clear hK K
                          refine wpAny_done (by kernel_rfl) ?_ _
                          exact rec_leaf hI Hxx.out Hbb.out Hz.out hne h6 h7 h8 hb (by omega)
            · go_simp
              refine hK _ _ ?_
              clear hK K
              refine wpAny_ready (rs := [0, 2]) (by kernel_rfl) (by simp) ?_
              refine AllReady.cons rfl (fun K hK => ?_) (AllReady.cons rfl (fun K hK => ?_) AllReady.nil)
              · go_simp
                refine hK _ _ ?_
                clear hK K
                refine wpAny_ready (rs := [2]) (by kernel_rfl) (by simp) ?_
                refine AllReady.cons rfl (fun K hK => ?_) AllReady.nil
                · have tA := Boxed.new Y1 9 (.string z.1)
                  have tB := tB.alloc (.cells #[.string z.1] 9)
                  have hI := hI.alloc (.cells #[.string z.1] 9)
                  go_simp
                  obtain ⟨Y2, hY'⟩ : ∃ Y', Y1.alloc (.cells #[.string z.1] 9) = Y' := ⟨_, rfl⟩
                  rw [hY'] at hI tA tB ⊢
                  clear hY' yv yg yvf ygf
                  have yv := hI.1.cell
                  have yvf := hI.1.frozen
                  have yg := hI.2.1.cell
                  have ygf := hI.2.1.frozen
                  refine hK _ _ ?_
                  clear hK K
                  refine wpAny_ready (rs := [3]) (by kernel_rfl) (by simp) ?_
                  refine AllReady.cons rfl (fun K hK => ?_) AllReady.nil
                  · refine step_append_str rfl rfl (.tmp 31) (.tmp 33) rfl w2.heap.size v _ rfl hI.2.2.1 _ 1 (z.1) rfl tA.cell hpl hI.2.2.2.2.2.2 ?_
                    intro g1 cap1 Y3 ho' hg'
                    have tB := tB.kept hg' (tB.not_row (by decide) hI.2.2.1)
                    have hI := hI.app1 ho' hg'
                    clear ho' hg' yv yg yvf ygf
                    have yv := hI.1.cell
                    have yvf := hI.1.frozen
                    have yg := hI.2.1.cell
                    have ygf := hI.2.1.frozen
                    go_simp
                    refine hK _ _ ?_
                    clear hK K
                    refine wpAny_ready (rs := [8]) (by kernel_rfl) (by simp) ?_
                    refine AllReady.cons rfl (fun K hK => ?_) AllReady.nil
                    · refine step_append_bool rfl rfl (.tmp 35) (.tmp 38) rfl w2.heap.size g _ rfl hI.2.2.2.1 _ 1 true rfl tB.cell hpl2 hI.2.2.2.2.2.2 ?_
                      intro g2 cap2 Y4 ho' hg'
                      have hI := hI.app2 ho' hg'
                      clear ho' hg' yv yg yvf ygf
                      have yv := hI.1.cell
                      have yvf := hI.1.frozen
                      have yg := hI.2.1.cell
                      have ygf := hI.2.1.frozen
                      go_simp
                      refine hK _ _ ?_
                      clear hK K
                      refine wpAny_ready (rs := [9]) (by kernel_rfl) (by simp) ?_
                      refine AllReady.cons rfl (fun K hK => ?_) AllReady.nil
                      · go_simp
                        refine hK _ _ ?_
                        clear hK K
                        refine wpAny_ready (rs := [10]) (by kernel_rfl) (by simp) ?_
                        refine AllReady.cons rfl (fun K hK => ?_) AllReady.nil
                        · go_simp
                          refine hK _ _ ?_
                          clear hK K
                          refine wpAny_done (by kernel_rfl) ?_ _
                          exact rec_leaf hI Hxx.out Hbb.out Hz.out hne h6 h7 h8 hb (by omega)
              · have tA := Boxed.new Y1 9 (.string z.1)
                have tB := tB.alloc (.cells #[.string z.1] 9)
                have hI := hI.alloc (.cells #[.string z.1] 9)
                go_simp
                obtain ⟨Y2, hY'⟩ : ∃ Y', Y1.alloc (.cells #[.string z.1] 9) = Y' := ⟨_, rfl⟩
                rw [hY'] at hI tA tB ⊢
                clear hY' yv yg yvf ygf
                have yv := hI.1.cell
                have yvf := hI.1.frozen
                have yg := hI.2.1.cell
                have ygf := hI.2.1.frozen
                refine hK _ _ ?_
                clear hK K
                refine wpAny_ready (rs := [0]) (by kernel_rfl) (by simp) ?_
                refine AllReady.cons rfl (fun K hK => ?_) AllReady.nil
                · go_simp
                  refine hK _ _ ?_
                  clear hK K
                  refine wpAny_ready (rs := [3]) (by kernel_rfl) (by simp) ?_
                  refine AllReady.cons rfl (fun K hK => ?_) AllReady.nil
                  · refine step_append_str rfl rfl (.tmp 31) (.tmp 33) rfl w2.heap.size v _ rfl hI.2.2.1 _ 1 (z.1) rfl tA.cell hpl hI.2.2.2.2.2.2 ?_
                    intro g1 cap1 Y3 ho' hg'
                    have tB := tB.kept hg' (tB.not_row (by decide) hI.2.2.1)
                    have hI := hI.app1 ho' hg'
                    clear ho' hg' yv yg yvf ygf
                    have yv := hI.1.cell
                    have yvf := hI.1.frozen
                    have yg := hI.2.1.cell
                    have ygf := hI.2.1.frozen
                    go_simp
                    refine hK _ _ ?_
                    clear hK K
                    refine wpAny_ready (rs := [8]) (by kernel_rfl) (by simp) ?_
                    refine AllReady.cons rfl (fun K hK => ?_) AllReady.nil
                    · refine step_append_bool rfl rfl (.tmp 35) (.tmp 38) rfl w2.heap.size g _ rfl hI.2.2.2.1 _ 1 true rfl tB.cell hpl2 hI.2.2.2.2.2.2 ?_
                      intro g2 cap2 Y4 ho' hg'
                      have hI := hI.app2 ho' hg'
                      clear ho' hg' yv yg yvf ygf
                      have yv := hI.1.cell
                      have yvf := hI.1.frozen
                      have yg := hI.2.1.cell
                      have ygf := hI.2.1.frozen
                      go_simp
                      refine hK _ _ ?_
                      clear hK K
                      refine wpAny_ready (rs := [9]) (by kernel_rfl) (by simp) ?_
                      refine AllReady.cons rfl (fun K hK => ?_) AllReady.nil
                      · go_simp
                        refine hK _ _ ?_
                        clear hK K
                        refine wpAny_ready (rs := [10]) (by kernel_rfl) (by simp) ?_
                        refine AllReady.cons rfl (fun K hK => ?_) AllReady.nil
                        · go_simp
                          refine hK _ _ ?_
                          clear hK K
                          refine wpAny_done (by kernel_rfl) ?_ _
                          exact rec_leaf hI Hxx.out Hbb.out Hz.out hne h6 h7 h8 hb (by omega)
          --REGIONEND
        · have h0b : (z.2 != 0) = true := by rw [bne_iff_ne]; exact h0
          have h0c : (z.2 == 0) = false := by rw [beq_eq_false_iff_ne]; exact h0
          have Hxx := Lib.hid (show (⟨#[]⟩ : ByteArray) = if z.2 = 0 then z.1 else ⟨#[]⟩ by rw [if_neg h0])
          have Hbb := Lib.hid (show false = (z.2 == 0) by rw [h0c])
          clear h0
          gi_wp2
          --REGION2
          refine region_lift (by kernel_rfl) (by kernel_rfl) (by rintro ⟨_, _, h⟩; exact h) ?_
          have hI : RInv X w2.heap.size (w.heap.size + 1 + 1 + 1) (w.heap.size + 1 + 1 + 1 + 1) v g X.drew v g (recW pre) (recG pre) := ⟨hv, hg, ho, hog, KeepsOthers.drew X, (Below.refl _ _).drew, hX2⟩
          generalize X.drew = Y0 at *
          clear hvc hvf hgc hgf h6c h6f h7c h7f h8c h8f
          have yv := hI.1.cell
          have yvf := hI.1.frozen
          have yg := hI.2.1.cell
          have ygf := hI.2.1.frozen
          refine wpAny_take (i := 1) (v := .string ⟨#[]⟩) rfl (by kernel_rfl) (by kernel_rfl) (by kernel_rfl) (fun _ _ _ h => h) (.inl ⟨by rfl, ?_⟩) ?_
          · intro W
            go_simp
          refine wpAny_take (i := 5) (v := .int .i64 z.2) rfl (by kernel_rfl) (by kernel_rfl) (by kernel_rfl) (fun _ _ _ h => h) (.inl ⟨by rfl, ?_⟩) ?_
          · intro W
            go_simp
          refine wpAny_take (i := 6) (v := .bool false) rfl (by kernel_rfl) (by kernel_rfl) (by kernel_rfl) (fun _ _ _ h => h) (.inl ⟨by rfl, ?_⟩) ?_
          · intro W
            go_simp
          refine wpAny_ready (rs := [0, 2, 4, 7]) (by kernel_rfl) (by simp) ?_
          refine AllReady.cons rfl (fun K hK => ?_) (AllReady.cons rfl (fun K hK => ?_) (AllReady.cons rfl (fun K hK => ?_) (AllReady.cons rfl (fun K hK => ?_) AllReady.nil)))
          · go_simp
            refine hK _ _ ?_
            clear hK K
            refine wpAny_ready (rs := [2, 4, 7]) (by kernel_rfl) (by simp) ?_
            refine AllReady.cons rfl (fun K hK => ?_) (AllReady.cons rfl (fun K hK => ?_) (AllReady.cons rfl (fun K hK => ?_) AllReady.nil))
            · have tA := Boxed.new Y0 9 (.string ⟨#[]⟩)
              have hI := hI.alloc (.cells #[.string ⟨#[]⟩] 9)
              go_simp
              obtain ⟨Y1, hY'⟩ : ∃ Y', Y0.alloc (.cells #[.string ⟨#[]⟩] 9) = Y' := ⟨_, rfl⟩
              rw [hY'] at hI tA ⊢
              clear hY' yv yg yvf ygf
              have yv := hI.1.cell
              have yvf := hI.1.frozen
              have yg := hI.2.1.cell
              have ygf := hI.2.1.frozen
              refine hK _ _ ?_
              clear hK K
              refine wpAny_ready (rs := [3, 4, 7]) (by kernel_rfl) (by simp) ?_
              refine AllReady.cons rfl (fun K hK => ?_) (AllReady.cons rfl (fun K hK => ?_) (AllReady.cons rfl (fun K hK => ?_) AllReady.nil))
              · refine step_append_str rfl rfl (.tmp 31) (.tmp 33) rfl w2.heap.size v _ rfl hI.2.2.1 _ 1 (⟨#[]⟩) rfl tA.cell hpl hI.2.2.2.2.2.2 ?_
                intro g1 cap1 Y2 ho' hg'
                have hI := hI.app1 ho' hg'
                clear ho' hg' yv yg yvf ygf
                have yv := hI.1.cell
                have yvf := hI.1.frozen
                have yg := hI.2.1.cell
                have ygf := hI.2.1.frozen
                go_simp
                refine hK _ _ ?_
                clear hK K
                refine wpAny_ready (rs := [4, 7]) (by kernel_rfl) (by simp) ?_
                refine AllReady.cons rfl (fun K hK => ?_) (AllReady.cons rfl (fun K hK => ?_) AllReady.nil)
                · go_simp
                  refine hK _ _ ?_
                  clear hK K
                  refine wpAny_ready (rs := [7]) (by kernel_rfl) (by simp) ?_
                  refine AllReady.cons rfl (fun K hK => ?_) AllReady.nil
                  · have tB := Boxed.new Y2 4 (.bool false)
                    have hI := hI.alloc (.cells #[.bool false] 4)
                    go_simp
                    obtain ⟨Y3, hY'⟩ : ∃ Y', Y2.alloc (.cells #[.bool false] 4) = Y' := ⟨_, rfl⟩
                    rw [hY'] at hI tB ⊢
                    clear hY' yv yg yvf ygf
                    have yv := hI.1.cell
                    have yvf := hI.1.frozen
                    have yg := hI.2.1.cell
                    have ygf := hI.2.1.frozen
                    refine hK _ _ ?_
                    clear hK K
                    refine wpAny_ready (rs := [8]) (by kernel_rfl) (by simp) ?_
                    refine AllReady.cons rfl (fun K hK => ?_) AllReady.nil
                    · refine step_append_bool rfl rfl (.tmp 35) (.tmp 38) rfl w2.heap.size g _ rfl hI.2.2.2.1 _ 1 false rfl tB.cell hpl2 hI.2.2.2.2.2.2 ?_
                      intro g2 cap2 Y4 ho' hg'
                      have hI := hI.app2 ho' hg'
                      clear ho' hg' yv yg yvf ygf
                      have yv := hI.1.cell
                      have yvf := hI.1.frozen
                      have yg := hI.2.1.cell
                      have ygf := hI.2.1.frozen
                      go_simp
                      refine hK _ _ ?_
                      clear hK K
                      refine wpAny_ready (rs := [9]) (by kernel_rfl) (by simp) ?_
                      refine AllReady.cons rfl (fun K hK => ?_) AllReady.nil
                      · go_simp
                        refine hK _ _ ?_
                        clear hK K
                        refine wpAny_ready (rs := [10]) (by kernel_rfl) (by simp) ?_
                        refine AllReady.cons rfl (fun K hK => ?_) AllReady.nil
                        · go_simp
                          refine hK _ _ ?_
                          clear hK K
                          refine wpAny_done (by kernel_rfl) ?_ _
                          exact rec_leaf hI Hxx.out Hbb.out Hz.out hne h6 h7 h8 hb (by omega)
                · have tB := Boxed.new Y2 4 (.bool false)
                  have hI := hI.alloc (.cells #[.bool false] 4)
                  go_simp
                  obtain ⟨Y3, hY'⟩ : ∃ Y', Y2.alloc (.cells #[.bool false] 4) = Y' := ⟨_, rfl⟩
                  rw [hY'] at hI tB ⊢
                  clear hY' yv yg yvf ygf
                  have yv := hI.1.cell
                  have yvf := hI.1.frozen
                  have yg := hI.2.1.cell
                  have ygf := hI.2.1.frozen
                  refine hK _ _ ?_
                  clear hK K
                  refine wpAny_ready (rs := [4]) (by kernel_rfl) (by simp) ?_
                  refine AllReady.cons rfl (fun K hK => ?_) AllReady.nil
                  · go_simp
                    refine hK _ _ ?_
                    clear hK K
                    refine wpAny_ready (rs := [8]) (by kernel_rfl) (by simp) ?_
                    refine AllReady.cons rfl (fun K hK => ?_) AllReady.nil
                    · refine step_append_bool rfl rfl (.tmp 35) (.tmp 38) rfl w2.heap.size g _ rfl hI.2.2.2.1 _ 1 false rfl tB.cell hpl2 hI.2.2.2.2.2.2 ?_
                      intro g2 cap2 Y4 ho' hg'
                      have hI := hI.app2 ho' hg'
                      clear ho' hg' yv yg yvf ygf
                      have yv := hI.1.cell
                      have yvf := hI.1.frozen
                      have yg := hI.2.1.cell
                      have ygf := hI.2.1.frozen
                      go_simp
                      refine hK _ _ ?_
                      clear hK K
                      refine wpAny_ready (rs := [9]) (by kernel_rfl) (by simp) ?_
                      refine AllReady.cons rfl (fun K hK => ?_) AllReady.nil
                      · go_simp
                        refine hK _ _ ?_
                        clear hK K
                        refine wpAny_ready (rs := [10]) (by kernel_rfl) (by simp) ?_
                        refine AllReady.cons rfl (fun K hK => ?_) AllReady.nil
                        · go_simp
                          refine hK _ _ ?_
                          clear hK K
                          refine wpAny_done (by kernel_rfl) ?_ _
                          exact rec_leaf hI Hxx.out Hbb.out Hz.out hne h6 h7 h8 hb (by omega)
              · go_simp
                refine hK _ _ ?_
                clear hK K
                refine wpAny_ready (rs := [3, 7]) (by kernel_rfl) (by simp) ?_
                refine AllReady.cons rfl (fun K hK => ?_) (AllReady.cons rfl (fun K hK => ?_) AllReady.nil)
                · refine step_append_str rfl rfl (.tmp 31) (.tmp 33) rfl w2.heap.size v _ rfl hI.2.2.1 _ 1 (⟨#[]⟩) rfl tA.cell hpl hI.2.2.2.2.2.2 ?_
                  intro g1 cap1 Y2 ho' hg'
                  have hI := hI.app1 ho' hg'
                  clear ho' hg' yv yg yvf ygf
                  have yv := hI.1.cell
                  have yvf := hI.1.frozen
                  have yg := hI.2.1.cell
                  have ygf := hI.2.1.frozen
                  go_simp
                  refine hK _ _ ?_
                  clear hK K
                  refine wpAny_ready (rs := [7]) (by kernel_rfl) (by simp) ?_
                  refine AllReady.cons rfl (fun K hK => ?_) AllReady.nil
                  · have tB := Boxed.new Y2 4 (.bool false)
                    have hI := hI.alloc (.cells #[.bool false] 4)
                    go_simp
                    obtain ⟨Y3, hY'⟩ : ∃ Y', Y2.alloc (.cells #[.bool false] 4) = Y' := ⟨_, rfl⟩
                    rw [hY'] at hI tB ⊢
                    clear hY' yv yg yvf ygf
                    have yv := hI.1.cell
                    have yvf := hI.1.frozen
                    have yg := hI.2.1.cell
                    have ygf := hI.2.1.frozen
                    refine hK _ _ ?_
                    clear hK K
                    refine wpAny_ready (rs := [8]) (by kernel_rfl) (by simp) ?_
                    refine AllReady.cons rfl (fun K hK => ?_) AllReady.nil
                    · refine step_append_bool rfl rfl (.tmp 35) (.tmp 38) rfl w2.heap.size g _ rfl hI.2.2.2.1 _ 1 false rfl tB.cell hpl2 hI.2.2.2.2.2.2 ?_
                      intro g2 cap2 Y4 ho' hg'
                      have hI := hI.app2 ho' hg'
                      clear ho' hg' yv yg yvf ygf
                      have yv := hI.1.cell
                      have yvf := hI.1.frozen
                      have yg := hI.2.1.cell
                      have ygf := hI.2.1.frozen
                      go_simp
                      refine hK _ _ ?_
                      clear hK K
                      refine wpAny_ready (rs := [9]) (by kernel_rfl) (by simp) ?_
                      refine AllReady.cons rfl (fun K hK => ?_) AllReady.nil
                      · go_simp
                        refine hK _ _ ?_
                        clear hK K
                        refine wpAny_ready (rs := [10]) (by kernel_rfl) (by simp) ?_
                        refine AllReady.cons rfl (fun K hK => ?_) AllReady.nil
                        · go_simp
                          refine hK _ _ ?_
                          clear hK K
                          refine wpAny_done (by kernel_rfl) ?_ _
                          exact rec_leaf hI Hxx.out Hbb.out Hz.out hne h6 h7 h8 hb (by omega)
                · have tB := Boxed.new Y1 4 (.bool false)
                  have tA := tA.alloc (.cells #[.bool false] 4)
                  have hI := hI.alloc (.cells #[.bool false] 4)
                  go_simp
                  obtain ⟨Y2, hY'⟩ : ∃ Y', Y1.alloc (.cells #[.bool false] 4) = Y' := ⟨_, rfl⟩
                  rw [hY'] at hI tB tA ⊢
                  clear hY' yv yg yvf ygf
                  have yv := hI.1.cell
                  have yvf := hI.1.frozen
                  have yg := hI.2.1.cell
                  have ygf := hI.2.1.frozen
                  refine hK _ _ ?_
                  clear hK K
                  refine wpAny_ready (rs := [3]) (by kernel_rfl) (by simp) ?_
                  refine AllReady.cons rfl (fun K hK => ?_) AllReady.nil
                  · refine step_append_str rfl rfl (.tmp 31) (.tmp 33) rfl w2.heap.size v _ rfl hI.2.2.1 _ 1 (⟨#[]⟩) rfl tA.cell hpl hI.2.2.2.2.2.2 ?_
                    intro g1 cap1 Y3 ho' hg'
                    have tB := tB.kept hg' (tB.not_row (by decide) hI.2.2.1)
                    have hI := hI.app1 ho' hg'
                    clear ho' hg' yv yg yvf ygf
                    have yv := hI.1.cell
                    have yvf := hI.1.frozen
                    have yg := hI.2.1.cell
                    have ygf := hI.2.1.frozen
                    go_simp
                    refine hK _ _ ?_
                    clear hK K
                    refine wpAny_ready (rs := [8]) (by kernel_rfl) (by simp) ?_
                    refine AllReady.cons rfl (fun K hK => ?_) AllReady.nil
                    · refine step_append_bool rfl rfl (.tmp 35) (.tmp 38) rfl w2.heap.size g _ rfl hI.2.2.2.1 _ 1 false rfl tB.cell hpl2 hI.2.2.2.2.2.2 ?_
                      intro g2 cap2 Y4 ho' hg'
                      have hI := hI.app2 ho' hg'
                      clear ho' hg' yv yg yvf ygf
                      have yv := hI.1.cell
                      have yvf := hI.1.frozen
                      have yg := hI.2.1.cell
                      have ygf := hI.2.1.frozen
                      go_simp
                      refine hK _ _ ?_
                      clear hK K
                      refine wpAny_ready (rs := [9]) (by kernel_rfl) (by simp) ?_
                      refine AllReady.cons rfl (fun K hK => ?_) AllReady.nil
                      · go_simp
                        refine hK _ _ ?_
                        clear hK K
                        refine wpAny_ready (rs := [10]) (by kernel_rfl) (by simp) ?_
                        refine AllReady.cons rfl (fun K hK => ?_) AllReady.nil
                        · go_simp
                          refine hK _ _ ?_
                          clear hK K
                          refine wpAny_done (by kernel_rfl) ?_ _
                          exact rec_leaf hI Hxx.out Hbb.out Hz.out hne h6 h7 h8 hb (by omega)
              · have tB := Boxed.new Y1 4 (.bool false)
                have tA := tA.alloc (.cells #[.bool false] 4)
                have hI := hI.alloc (.cells #[.bool false] 4)
                go_simp
                obtain ⟨Y2, hY'⟩ : ∃ Y', Y1.alloc (.cells #[.bool false] 4) = Y' := ⟨_, rfl⟩
                rw [hY'] at hI tB tA ⊢
                clear hY' yv yg yvf ygf
                have yv := hI.1.cell
                have yvf := hI.1.frozen
                have yg := hI.2.1.cell
                have ygf := hI.2.1.frozen
                refine hK _ _ ?_
                clear hK K
                refine wpAny_ready (rs := [3, 4]) (by kernel_rfl) (by simp) ?_
                refine AllReady.cons rfl (fun K hK => ?_) (AllReady.cons rfl (fun K hK => ?_) AllReady.nil)
                · refine step_append_str rfl rfl (.tmp 31) (.tmp 33) rfl w2.heap.size v _ rfl hI.2.2.1 _ 1 (⟨#[]⟩) rfl tA.cell hpl hI.2.2.2.2.2.2 ?_
                  intro g1 cap1 Y3 ho' hg'
                  have tB := tB.kept hg' (tB.not_row (by decide) hI.2.2.1)
                  have hI := hI.app1 ho' hg'
                  clear ho' hg' yv yg yvf ygf
                  have yv := hI.1.cell
                  have yvf := hI.1.frozen
                  have yg := hI.2.1.cell
                  have ygf := hI.2.1.frozen
                  go_simp
                  refine hK _ _ ?_
                  clear hK K
                  refine wpAny_ready (rs := [4]) (by kernel_rfl) (by simp) ?_
                  refine AllReady.cons rfl (fun K hK => ?_) AllReady.nil
                  · go_simp
                    refine hK _ _ ?_
                    clear hK K
                    refine wpAny_ready (rs := [8]) (by kernel_rfl) (by simp) ?_
                    refine AllReady.cons rfl (fun K hK => ?_) AllReady.nil
                    · refine step_append_bool rfl rfl (.tmp 35) (.tmp 38) rfl w2.heap.size g _ rfl hI.2.2.2.1 _ 1 false rfl tB.cell hpl2 hI.2.2.2.2.2.2 ?_
                      intro g2 cap2 Y4 ho' hg'
                      have hI := hI.app2 ho' hg'
                      clear ho' hg' yv yg yvf ygf
                      have yv := hI.1.cell
                      have yvf := hI.1.frozen
                      have yg := hI.2.1.cell
                      have ygf := hI.2.1.frozen
                      go_simp
                      refine hK _ _ ?_
                      clear hK K
                      refine wpAny_ready (rs := [9]) (by kernel_rfl) (by simp) ?_
                      refine AllReady.cons rfl (fun K hK => ?_) AllReady.nil
                      · go_simp
                        refine hK _ _ ?_
                        clear hK K
                        refine wpAny_ready (rs := [10]) (by kernel_rfl) (by simp) ?_
                        refine AllReady.cons rfl (fun K hK => ?_) AllReady.nil
                        · go_simp
                          refine hK _ _ ?_
                          clear hK K
                          refine wpAny_done (by kernel_rfl) ?_ _
                          exact rec_leaf hI Hxx.out Hbb.out Hz.out hne h6 h7 h8 hb (by omega)
                · go_simp
                  refine hK _ _ ?_
                  clear hK K
                  refine wpAny_ready (rs := [3]) (by kernel_rfl) (by simp) ?_
                  refine AllReady.cons rfl (fun K hK => ?_) AllReady.nil
                  · refine step_append_str rfl rfl (.tmp 31) (.tmp 33) rfl w2.heap.size v _ rfl hI.2.2.1 _ 1 (⟨#[]⟩) rfl tA.cell hpl hI.2.2.2.2.2.2 ?_
                    intro g1 cap1 Y3 ho' hg'
                    have tB := tB.kept hg' (tB.not_row (by decide) hI.2.2.1)
                    have hI := hI.app1 ho' hg'
                    clear ho' hg' yv yg yvf ygf
                    have yv := hI.1.cell
                    have yvf := hI.1.frozen
                    have yg := hI.2.1.cell
                    have ygf := hI.2.1.frozen
                    go_simp
                    refine hK _ _ ?_
                    clear hK K
                    refine wpAny_ready (rs := [8]) (by kernel_rfl) (by simp) ?_
                    refine AllReady.cons rfl (fun K hK => ?_) AllReady.nil
                    · refine step_append_bool rfl rfl (.tmp 35) (.tmp 38) rfl w2.heap.size g _ rfl hI.2.2.2.1 _ 1 false rfl tB.cell hpl2 hI.2.2.2.2.2.2 ?_
                      intro g2 cap2 Y4 ho' hg'
                      have hI := hI.app2 ho' hg'
                      clear ho' hg' yv yg yvf ygf
                      have yv := hI.1.cell
                      have yvf := hI.1.frozen
                      have yg := hI.2.1.cell
                      have ygf := hI.2.1.frozen
                      go_simp
                      refine hK _ _ ?_
                      clear hK K
                      refine wpAny_ready (rs := [9]) (by kernel_rfl) (by simp) ?_
                      refine AllReady.cons rfl (fun K hK => ?_) AllReady.nil
                      · go_simp
                        refine hK _ _ ?_
                        clear hK K
                        refine wpAny_ready (rs := [10]) (by kernel_rfl) (by simp) ?_
                        refine AllReady.cons rfl (fun K hK => ?_) AllReady.nil
                        · go_simp
                          refine hK _ _ ?_
                          clear hK K
                          refine wpAny_done (by kernel_rfl) ?_ _
                          exact rec_leaf hI Hxx.out Hbb.out Hz.out hne h6 h7 h8 hb (by omega)
            · go_simp
              refine hK _ _ ?_
              clear hK K
              refine wpAny_ready (rs := [2, 7]) (by kernel_rfl) (by simp) ?_
              refine AllReady.cons rfl (fun K hK => ?_) (AllReady.cons rfl (fun K hK => ?_) AllReady.nil)
              · have tA := Boxed.new Y0 9 (.string ⟨#[]⟩)
                have hI := hI.alloc (.cells #[.string ⟨#[]⟩] 9)
                go_simp
                obtain ⟨Y1, hY'⟩ : ∃ Y', Y0.alloc (.cells #[.string ⟨#[]⟩] 9) = Y' := ⟨_, rfl⟩
                rw [hY'] at hI tA ⊢
                clear hY' yv yg yvf ygf
                have yv := hI.1.cell
                have yvf := hI.1.frozen
                have yg := hI.2.1.cell
                have ygf := hI.2.1.frozen
                refine hK _ _ ?_
                clear hK K
                refine wpAny_ready (rs := [3, 7]) (by kernel_rfl) (by simp) ?_
                refine AllReady.cons rfl (fun K hK => ?_) (AllReady.cons rfl (fun K hK => ?_) AllReady.nil)
                · refine step_append_str rfl rfl (.tmp 31) (.tmp 33) rfl w2.heap.size v _ rfl hI.2.2.1 _ 1 (⟨#[]⟩) rfl tA.cell hpl hI.2.2.2.2.2.2 ?_
                  intro g1 cap1 Y2 ho' hg'
                  have hI := hI.app1 ho' hg'
                  clear ho' hg' yv yg yvf ygf
                  have yv := hI.1.cell
                  have yvf := hI.1.frozen
                  have yg := hI.2.1.cell
                  have ygf := hI.2.1.frozen
                  go_simp
                  refine hK _ _ ?_
                  clear hK K
                  refine wpAny_ready (rs := [7]) (by kernel_rfl) (by simp) ?_
                  refine AllReady.cons rfl (fun K hK => ?_) AllReady.nil
                  · have tB := Boxed.new Y2 4 (.bool false)
                    have hI := hI.alloc (.cells #[.bool false] 4)
                    go_simp
                    obtain ⟨Y3, hY'⟩ : ∃ Y', Y2.alloc (.cells #[.bool false] 4) = Y' := ⟨_, rfl⟩
                    rw [hY'] at hI tB ⊢
                    clear hY' yv yg yvf ygf
                    have yv := hI.1.cell
                    have yvf := hI.1.frozen
                    have yg := hI.2.1.cell
                    have ygf := hI.2.1.frozen
                    refine hK _ _ ?_
                    clear hK K
                    refine wpAny_ready (rs := [8]) (by kernel_rfl) (by simp) ?_
                    refine AllReady.cons rfl (fun K hK => ?_) AllReady.nil
                    · refine step_append_bool rfl rfl (.tmp 35) (.tmp 38) rfl w2.heap.size g _ rfl hI.2.2.2.1 _ 1 false rfl tB.cell hpl2 hI.2.2.2.2.2.2 ?_
                      intro g2 cap2 Y4 ho' hg'
                      have hI := hI.app2 ho' hg'
                      clear ho' hg' yv yg yvf ygf
                      have yv := hI.1.cell
                      have yvf := hI.1.frozen
                      have yg := hI.2.1.cell
                      have ygf := hI.2.1.frozen
                      go_simp
                      refine hK _ _ ?_
                      clear hK K
                      refine wpAny_ready (rs := [9]) (by kernel_rfl) (by simp) ?_
                      refine AllReady.cons rfl (fun K hK => ?_) AllReady.nil
                      · go_simp
                        refine hK _ _ ?_
                        clear hK K
                        refine wpAny_ready (rs := [10]) (by kernel_rfl) (by simp) ?_
                        refine AllReady.cons rfl (fun K hK => ?_) AllReady.nil
                        · go_simp
                          refine hK _ _ ?_
                          clear hK K
                          refine wpAny_done (by kernel_rfl) ?_ _
                          exact rec_leaf hI Hxx.out Hbb.out Hz.out hne h6 h7 h8 hb (by omega)
                · have tB := Boxed.new Y1 4 (.bool false)
                  have tA := tA.alloc (.cells #[.bool false] 4)
                  have hI := hI.alloc (.cells #[.bool false] 4)
                  go_simp
                  obtain ⟨Y2, hY'⟩ : ∃ Y', Y1.alloc (.cells #[.bool false] 4) = Y' := ⟨_, rfl⟩
                  rw [hY'] at hI tB tA ⊢
                  clear hY' yv yg yvf ygf
                  have yv := hI.1.cell
                  have yvf := hI.1.frozen
                  have yg := hI.2.1.cell
                  have ygf := hI.2.1.frozen
                  refine hK _ _ ?_
                  clear hK K
                  refine wpAny_ready (rs := [3]) (by kernel_rfl) (by simp) ?_
                  refine AllReady.cons rfl (fun K hK => ?_) AllReady.nil
                  · refine step_append_str rfl rfl (.tmp 31) (.tmp 33) rfl w2.heap.size v _ rfl hI.2.2.1 _ 1 (⟨#[]⟩) rfl tA.cell hpl hI.2.2.2.2.2.2 ?_
                    intro g1 cap1 Y3 ho' hg'
                    have tB := tB.kept hg' (tB.not_row (by decide) hI.2.2.1)
                    have hI := hI.app1 ho' hg'
                    clear ho' hg' yv yg yvf ygf
                    have yv := hI.1.cell
                    have yvf := hI.1.frozen
                    have yg := hI.2.1.cell
                    have ygf := hI.2.1.frozen
                    go_simp
                    refine hK _ _ ?_
                    clear hK K
                    refine wpAny_ready (rs := [8]) (by kernel_rfl) (by simp) ?_
                    refine AllReady.cons rfl (fun K hK => ?_) AllReady.nil
                    · refine step_append_bool rfl rfl (.tmp 35) (.tmp 38) rfl w2.heap.size g _ rfl hI.2.2.2.1 _ 1 false rfl tB.cell hpl2 hI.2.2.2.2.2.2 ?_
                      intro g2 cap2 Y4 ho' hg'
                      have hI := hI.app2 ho' hg'
                      clear ho' hg' yv yg yvf ygf
                      have yv := hI.1.cell
                      have yvf := hI.1.frozen
                      have yg := hI.2.1.cell
                      have ygf := hI.2.1.frozen
                      go_simp
                      refine hK _ _ ?_
                      clear hK K
                      refine wpAny_ready (rs := [9]) (by kernel_rfl) (by simp) ?_
                      refine AllReady.cons rfl (fun K hK => ?_) AllReady.nil
                      · go_simp
                        refine hK _ _ ?_
                        clear hK K
                        refine wpAny_ready (rs := [10]) (by kernel_rfl) (by simp) ?_
                        refine AllReady.cons rfl (fun K hK => ?_) AllReady.nil
                        · go_simp
                          refine hK _ _ ?_
                          clear hK K
                          refine wpAny_done (by kernel_rfl) ?_ _
                          exact rec_leaf hI Hxx.out Hbb.out Hz.out hne h6 h7 h8 hb (by omega)
              · have tB := Boxed.new Y0 4 (.bool false)
                have hI := hI.alloc (.cells #[.bool false] 4)
                go_simp
                obtain ⟨Y1, hY'⟩ : ∃ Y', Y0.alloc (.cells #[.bool false] 4) = Y' := ⟨_, rfl⟩
                rw [hY'] at hI tB ⊢
                clear hY' yv yg yvf ygf
                have yv := hI.1.cell
                have yvf := hI.1.frozen
                have yg := hI.2.1.cell
                have ygf := hI.2.1.frozen
                refine hK _ _ ?_
                clear hK K
                refine wpAny_ready (rs := [2]) (by kernel_rfl) (by simp) ?_
                refine AllReady.cons rfl (fun K hK => ?_) AllReady.nil
                · have tA := Boxed.new Y1 9 (.string ⟨#[]⟩)
                  have tB := tB.alloc (.cells #[.string ⟨#[]⟩] 9)
                  have hI := hI.alloc (.cells #[.string ⟨#[]⟩] 9)
                  go_simp
                  obtain ⟨Y2, hY'⟩ : ∃ Y', Y1.alloc (.cells #[.string ⟨#[]⟩] 9) = Y' := ⟨_, rfl⟩
                  rw [hY'] at hI tA tB ⊢
                  clear hY' yv yg yvf ygf
                  have yv := hI.1.cell
                  have yvf := hI.1.frozen
                  have yg := hI.2.1.cell
                  have ygf := hI.2.1.frozen
                  refine hK _ _ ?_
                  clear hK K
                  refine wpAny_ready (rs := [3]) (by kernel_rfl) (by simp) ?_
                  refine AllReady.cons rfl (fun K hK => ?_) AllReady.nil
                  · refine step_append_str rfl rfl (.tmp 31) (.tmp 33) rfl w2.heap.size v _ rfl hI.2.2.1 _ 1 (⟨#[]⟩) rfl tA.cell hpl hI.2.2.2.2.2.2 ?_
                    intro g1 cap1 Y3 ho' hg'
                    have tB := tB.kept hg' (tB.not_row (by decide) hI.2.2.1)
                    have hI := hI.app1 ho' hg'
                    clear ho' hg' yv yg yvf ygf
                    have yv := hI.1.cell
                    have yvf := hI.1.frozen
                    have yg := hI.2.1.cell
                    have ygf := hI.2.1.frozen
                    go_simp
                    refine hK _ _ ?_
                    clear hK K
                    refine wpAny_ready (rs := [8]) (by kernel_rfl) (by simp) ?_
                    refine AllReady.cons rfl (fun K hK => ?_) AllReady.nil
                    · refine step_append_bool rfl rfl (.tmp 35) (.tmp 38) rfl w2.heap.size g _ rfl hI.2.2.2.1 _ 1 false rfl tB.cell hpl2 hI.2.2.2.2.2.2 ?_
                      intro g2 cap2 Y4 ho' hg'
                      have hI := hI.app2 ho' hg'
                      clear ho' hg' yv yg yvf ygf
                      have yv := hI.1.cell
                      have yvf := hI.1.frozen
                      have yg := hI.2.1.cell
                      have ygf := hI.2.1.frozen
                      go_simp
                      refine hK _ _ ?_
                      clear hK K
                      refine wpAny_ready (rs := [9]) (by kernel_rfl) (by simp) ?_
                      refine AllReady.cons rfl (fun K hK => ?_) AllReady.nil
                      · go_simp
                        refine hK _ _ ?_
                        clear hK K
                        refine wpAny_ready (rs := [10]) (by kernel_rfl) (by simp) ?_
                        refine AllReady.cons rfl (fun K hK => ?_) AllReady.nil
                        · go_simp
                          refine hK _ _ ?_
                          clear hK K
                          refine wpAny_done (by kernel_rfl) ?_ _
                          exact rec_leaf hI Hxx.out Hbb.out Hz.out hne h6 h7 h8 hb (by omega)
            · have tB := Boxed.new Y0 4 (.bool false)
              have hI := hI.alloc (.cells #[.bool false] 4)
              go_simp
              obtain ⟨Y1, hY'⟩ : ∃ Y', Y0.alloc (.cells #[.bool false] 4) = Y' := ⟨_, rfl⟩
              rw [hY'] at hI tB ⊢
              clear hY' yv yg yvf ygf
              have yv := hI.1.cell
              have yvf := hI.1.frozen
              have yg := hI.2.1.cell
              have ygf := hI.2.1.frozen
              refine hK _ _ ?_
              clear hK K
              refine wpAny_ready (rs := [2, 4]) (by kernel_rfl) (by simp) ?_
              refine AllReady.cons rfl (fun K hK => ?_) (AllReady.cons rfl (fun K hK => ?_) AllReady.nil)
              · have tA := Boxed.new Y1 9 (.string ⟨#[]⟩)
                have tB := tB.alloc (.cells #[.string ⟨#[]⟩] 9)
                have hI := hI.alloc (.cells #[.string ⟨#[]⟩] 9)
                go_simp
                obtain ⟨Y2, hY'⟩ : ∃ Y', Y1.alloc (.cells #[.string ⟨#[]⟩] 9) = Y' := ⟨_, rfl⟩
                rw [hY'] at hI tA tB ⊢
                clear hY' yv yg yvf ygf
                have yv := hI.1.cell
                have yvf := hI.1.frozen
                have yg := hI.2.1.cell
                have ygf := hI.2.1.frozen
                refine hK _ _ ?_
                clear hK K
                refine wpAny_ready (rs := [3, 4]) (by kernel_rfl) (by simp) ?_
                refine AllReady.cons rfl (fun K hK => ?_) (AllReady.cons rfl (fun K hK => ?_) AllReady.nil)
                · refine step_append_str rfl rfl (.tmp 31) (.tmp 33) rfl w2.heap.size v _ rfl hI.2.2.1 _ 1 (⟨#[]⟩) rfl tA.cell hpl hI.2.2.2.2.2.2 ?_
                  intro g1 cap1 Y3 ho' hg'
                  have tB := tB.kept hg' (tB.not_row (by decide) hI.2.2.1)
                  have hI := hI.app1 ho' hg'
                  clear ho' hg' yv yg yvf ygf
                  have yv := hI.1.cell
                  have yvf := hI.1.frozen
                  have yg := hI.2.1.cell
                  have ygf := hI.2.1.frozen
                  go_simp
                  refine hK _ _ ?_
                  clear hK K
                  refine wpAny_ready (rs := [4]) (by kernel_rfl) (by simp) ?_
                  refine AllReady.cons rfl (fun K hK => ?_) AllReady.nil
                  · go_simp
                    refine hK _ _ ?_
                    clear hK K
                    refine wpAny_ready (rs := [8]) (by kernel_rfl) (by simp) ?_
                    refine AllReady.cons rfl (fun K hK => ?_) AllReady.nil
                    · refine step_append_bool rfl rfl (.tmp 35) (.tmp 38) rfl w2.heap.size g _ rfl hI.2.2.2.1 _ 1 false rfl tB.cell hpl2 hI.2.2.2.2.2.2 ?_
                      intro g2 cap2 Y4 ho' hg'
                      have hI := hI.app2 ho' hg'
                      clear ho' hg' yv yg yvf ygf
                      have yv := hI.1.cell
                      have yvf := hI.1.frozen
                      have yg := hI.2.1.cell
                      have ygf := hI.2.1.frozen
                      go_simp
                      refine hK _ _ ?_
                      clear hK K
                      refine wpAny_ready (rs := [9]) (by kernel_rfl) (by simp) ?_
                      refine AllReady.cons rfl (fun K hK => ?_) AllReady.nil
                      · go_simp
                        refine hK _ _ ?_
                        clear hK K
                        refine wpAny_ready (rs := [10]) (by kernel_rfl) (by simp) ?_
                        refine AllReady.cons rfl (fun K hK => ?_) AllReady.nil
                        · go_simp
                          refine hK _ _ ?_
                          clear hK K
                          refine wpAny_done (by kernel_rfl) ?_ _
                          exact rec_leaf hI Hxx.out Hbb.out Hz.out hne h6 h7 h8 hb (by omega)
                · go_simp
                  refine hK _ _ ?_
                  clear hK K
                  refine wpAny_ready (rs := [3]) (by kernel_rfl) (by simp) ?_
                  refine AllReady.cons rfl (fun K hK => ?_) AllReady.nil
                  · refine step_append_str rfl rfl (.tmp 31) (.tmp 33) rfl w2.heap.size v _ rfl hI.2.2.1 _ 1 (⟨#[]⟩) rfl tA.cell hpl hI.2.2.2.2.2.2 ?_
                    intro g1 cap1 Y3 ho' hg'
                    have tB := tB.kept hg' (tB.not_row (by decide) hI.2.2.1)
                    have hI := hI.app1 ho' hg'
                    clear ho' hg' yv yg yvf ygf
                    have yv := hI.1.cell
                    have yvf := hI.1.frozen
                    have yg := hI.2.1.cell
                    have ygf := hI.2.1.frozen
                    go_simp
                    refine hK _ _ ?_
                    clear hK K
                    refine wpAny_ready (rs := [8]) (by kernel_rfl) (by simp) ?_
                    refine AllReady.cons rfl (fun K hK => ?_) AllReady.nil
                    · refine step_append_bool rfl rfl (.tmp 35) (.tmp 38) rfl w2.heap.size g _ rfl hI.2.2.2.1 _ 1 false rfl tB.cell hpl2 hI.2.2.2.2.2.2 ?_
                      intro g2 cap2 Y4 ho' hg'
                      have hI := hI.app2 ho' hg'
                      clear ho' hg' yv yg yvf ygf
                      have yv := hI.1.cell
                      have yvf := hI.1.frozen
                      have yg := hI.2.1.cell
                      have ygf := hI.2.1.frozen
                      go_simp
                      refine hK _ _ ?_
                      clear hK K
                      refine wpAny_ready (rs := [9]) (by kernel_rfl) (by simp) ?_
                      refine AllReady.cons rfl (fun K hK => ?_) AllReady.nil
                      · go_simp
                        refine hK _ _ ?_
                        clear hK K
                        refine wpAny_ready (rs := [10]) (by kernel_rfl) (by simp) ?_
                        refine AllReady.cons rfl (fun K hK => ?_) AllReady.nil
                        · go_simp
                          refine hK _ _ ?_
                          clear hK K
                          refine wpAny_done (by kernel_rfl) ?_ _
                          exact rec_leaf hI Hxx.out Hbb.out Hz.out hne h6 h7 h8 hb (by omega)
              · go_simp
                refine hK _ _ ?_
                clear hK K
                refine wpAny_ready (rs := [2]) (by kernel_rfl) (by simp) ?_
                refine AllReady.cons rfl (fun K hK => ?_) AllReady.nil
                · have tA := Boxed.new Y1 9 (.string ⟨#[]⟩)
                  have tB := tB.alloc (.cells #[.string ⟨#[]⟩] 9)
                  have hI := hI.alloc (.cells #[.string ⟨#[]⟩] 9)
                  go_simp
                  obtain ⟨Y2, hY'⟩ : ∃ Y', Y1.alloc (.cells #[.string ⟨#[]⟩] 9) = Y' := ⟨_, rfl⟩
                  rw [hY'] at hI tA tB ⊢
                  clear hY' yv yg yvf ygf
                  have yv := hI.1.cell
                  have yvf := hI.1.frozen
                  have yg := hI.2.1.cell
                  have ygf := hI.2.1.frozen
                  refine hK _ _ ?_
                  clear hK K
                  refine wpAny_ready (rs := [3]) (by kernel_rfl) (by simp) ?_
                  refine AllReady.cons rfl (fun K hK => ?_) AllReady.nil
                  · refine step_append_str rfl rfl (.tmp 31) (.tmp 33) rfl w2.heap.size v _ rfl hI.2.2.1 _ 1 (⟨#[]⟩) rfl tA.cell hpl hI.2.2.2.2.2.2 ?_
                    intro g1 cap1 Y3 ho' hg'
                    have tB := tB.kept hg' (tB.not_row (by decide) hI.2.2.1)
                    have hI := hI.app1 ho' hg'
                    clear ho' hg' yv yg yvf ygf
                    have yv := hI.1.cell
                    have yvf := hI.1.frozen
                    have yg := hI.2.1.cell
                    have ygf := hI.2.1.frozen
                    go_simp
                    refine hK _ _ ?_
                    clear hK K
                    refine wpAny_ready (rs := [8]) (by kernel_rfl) (by simp) ?_
                    refine AllReady.cons rfl (fun K hK => ?_) AllReady.nil
                    · refine step_append_bool rfl rfl (.tmp 35) (.tmp 38) rfl w2.heap.size g _ rfl hI.2.2.2.1 _ 1 false rfl tB.cell hpl2 hI.2.2.2.2.2.2 ?_
                      intro g2 cap2 Y4 ho' hg'
                      have hI := hI.app2 ho' hg'
                      clear ho' hg' yv yg yvf ygf
                      have yv := hI.1.cell
                      have yvf := hI.1.frozen
                      have yg := hI.2.1.cell
                      have ygf := hI.2.1.frozen
                      go_simp
                      refine hK _ _ ?_
                      clear hK K
                      refine wpAny_ready (rs := [9]) (by kernel_rfl) (by simp) ?_
                      refine AllReady.cons rfl (fun K hK => ?_) AllReady.nil
                      · go_simp
                        refine hK _ _ ?_
                        clear hK K
                        refine wpAny_ready (rs := [10]) (by kernel_rfl) (by simp) ?_
                        refine AllReady.cons rfl (fun K hK => ?_) AllReady.nil
                        · go_simp
                          refine hK _ _ ?_
                          clear hK K
                          refine wpAny_done (by kernel_rfl) ?_ _
                          exact rec_leaf hI Hxx.out Hbb.out Hz.out hne h6 h7 h8 hb (by omega)
          · have tA := Boxed.new Y0 9 (.string ⟨#[]⟩)
            have hI := hI.alloc (.cells #[.string ⟨#[]⟩] 9)
            go_simp
            obtain ⟨Y1, hY'⟩ : ∃ Y', Y0.alloc (.cells #[.string ⟨#[]⟩] 9) = Y' := ⟨_, rfl⟩
            rw [hY'] at hI tA ⊢
            clear hY' yv yg yvf ygf
            have yv := hI.1.cell
            have yvf := hI.1.frozen
            have yg := hI.2.1.cell
            have ygf := hI.2.1.frozen
            refine hK _ _ ?_
            clear hK K
            refine wpAny_ready (rs := [0, 4, 7]) (by kernel_rfl) (by simp) ?_
            refine AllReady.cons rfl (fun K hK => ?_) (AllReady.cons rfl (fun K hK => ?_) (AllReady.cons rfl (fun K hK => ?_) AllReady.nil))
            · go_simp
              refine hK _ _ ?_
              clear hK K
              refine wpAny_ready (rs := [3, 4, 7]) (by kernel_rfl) (by simp) ?_
              refine AllReady.cons rfl (fun K hK => ?_) (AllReady.cons rfl (fun K hK => ?_) (AllReady.cons rfl (fun K hK => ?_) AllReady.nil))
              · refine step_append_str rfl rfl (.tmp 31) (.tmp 33) rfl w2.heap.size v _ rfl hI.2.2.1 _ 1 (⟨#[]⟩) rfl tA.cell hpl hI.2.2.2.2.2.2 ?_
                intro g1 cap1 Y2 ho' hg'
                have hI := hI.app1 ho' hg'
                clear ho' hg' yv yg yvf ygf
                have yv := hI.1.cell
                have yvf := hI.1.frozen
                have yg := hI.2.1.cell
                have ygf := hI.2.1.frozen
                go_simp
                refine hK _ _ ?_
                clear hK K
                refine wpAny_ready (rs := [4, 7]) (by kernel_rfl) (by simp) ?_
                refine AllReady.cons rfl (fun K hK => ?_) (AllReady.cons rfl (fun K hK => ?_) AllReady.nil)
                · go_simp
                  refine hK _ _ ?_
                  clear hK K
                  refine wpAny_ready (rs := [7]) (by kernel_rfl) (by simp) ?_
                  refine AllReady.cons rfl (fun K hK => ?_) AllReady.nil
                  · have tB := Boxed.new Y2 4 (.bool false)
                    have hI := hI.alloc (.cells #[.bool false] 4)
                    go_simp
                    obtain ⟨Y3, hY'⟩ : ∃ Y', Y2.alloc (.cells #[.bool false] 4) = Y' := ⟨_, rfl⟩
                    rw [hY'] at hI tB ⊢
                    clear hY' yv yg yvf ygf
                    have yv := hI.1.cell
                    have yvf := hI.1.frozen
                    have yg := hI.2.1.cell
                    have ygf := hI.2.1.frozen
                    refine hK _ _ ?_
                    clear hK K
                    refine wpAny_ready (rs := [8]) (by kernel_rfl) (by simp) ?_
                    refine AllReady.cons rfl (fun K hK => ?_) AllReady.nil
                    · refine step_append_bool rfl rfl (.tmp 35) (.tmp 38) rfl w2.heap.size g _ rfl hI.2.2.2.1 _ 1 false rfl tB.cell hpl2 hI.2.2.2.2.2.2 ?_
                      intro g2 cap2 Y4 ho' hg'
                      have hI := hI.app2 ho' hg'
                      clear ho' hg' yv yg yvf ygf
                      have yv := hI.1.cell
                      have yvf := hI.1.frozen
                      have yg := hI.2.1.cell
                      have ygf := hI.2.1.frozen
                      go_simp
                      refine hK _ _ ?_
                      clear hK K
                      refine wpAny_ready (rs := [9]) (by kernel_rfl) (by simp) ?_
                      refine AllReady.cons rfl (fun K hK => ?_) AllReady.nil
                      · go_simp
                        refine hK _ _ ?_
                        clear hK K
                        refine wpAny_ready (rs := [10]) (by kernel_rfl) (by simp) ?_
                        refine AllReady.cons rfl (fun K hK => ?_) AllReady.nil
                        · go_simp
                          refine hK _ _ ?_
                          clear hK K
                          refine wpAny_done (by kernel_rfl) ?_ _
                          exact rec_leaf hI Hxx.out Hbb.out Hz.out hne h6 h7 h8 hb (by omega)
                · have tB := Boxed.new Y2 4 (.bool false)
                  have hI := hI.alloc (.cells #[.bool false] 4)
                  go_simp
                  obtain ⟨Y3, hY'⟩ : ∃ Y', Y2.alloc (.cells #[.bool false] 4) = Y' := ⟨_, rfl⟩
                  rw [hY'] at hI tB ⊢
                  clear hY' yv yg yvf ygf
                  have yv := hI.1.cell
                  have yvf := hI.1.frozen
                  have yg := hI.2.1.cell
                  have ygf := hI.2.1.frozen
                  refine hK _ _ ?_
                  clear hK K
                  refine wpAny_ready (rs := [4]) (by kernel_rfl) (by simp) ?_
                  refine AllReady.cons rfl (fun K hK => ?_) AllReady.nil
                  · go_simp
                    refine hK _ _ ?_
                    clear hK K
                    refine wpAny_ready (rs := [8]) (by kernel_rfl) (by simp) ?_
                    refine AllReady.cons rfl (fun K hK => ?_) AllReady.nil
                    · refine step_append_bool rfl rfl (.tmp 35) (.tmp 38) rfl w2.heap.size g _ rfl hI.2.2.2.1 _ 1 false rfl tB.cell hpl2 hI.2.2.2.2.2.2 ?_
                      intro g2 cap2 Y4 ho' hg'
                      have hI := hI.app2 ho' hg'
                      clear ho' hg' yv yg yvf ygf
                      have yv := hI.1.cell
                      have yvf := hI.1.frozen
                      have yg := hI.2.1.cell
                      have ygf := hI.2.1.frozen
                      go_simp
                      refine hK _ _ ?_
                      clear hK K
                      refine wpAny_ready (rs := [9]) (by kernel_rfl) (by simp) ?_
                      refine AllReady.cons rfl (fun K hK => ?_) AllReady.nil
                      · go_simp
                        refine hK _ _ ?_
                        clear hK K
                        refine wpAny_ready (rs := [10]) (by kernel_rfl) (by simp) ?_
                        refine AllReady.cons rfl (fun K hK => ?_) AllReady.nil
                        · go_simp
                          refine hK _ _ ?_
                          clear hK K
                          refine wpAny_done (by kernel_rfl) ?_ _
                          exact rec_leaf hI Hxx.out Hbb.out Hz.out hne h6 h7 h8 hb (by omega)
              · go_simp
                refine hK _ _ ?_
                clear hK K
                refine wpAny_ready (rs := [3, 7]) (by kernel_rfl) (by simp) ?_
                refine AllReady.cons rfl (fun K hK => ?_) (AllReady.cons rfl (fun K hK => ?_) AllReady.nil)
                · refine step_append_str rfl rfl (.tmp 31) (.tmp 33) rfl w2.heap.size v _ rfl hI.2.2.1 _ 1 (⟨#[]⟩) rfl tA.cell hpl hI.2.2.2.2.2.2 ?_
                  intro g1 cap1 Y2 ho' hg'
                  have hI := hI.app1 ho' hg'
                  clear ho' hg' yv yg yvf ygf
                  have yv := hI.1.cell
                  have yvf := hI.1.frozen
                  have yg := hI.2.1.cell
                  have ygf := hI.2.1.frozen
                  go_simp
                  refine hK _ _ ?_
                  clear hK K
                  refine wpAny_ready (rs := [7]) (by kernel_rfl) (by simp) ?_
                  refine AllReady.cons rfl (fun K hK => ?_) AllReady.nil
                  · have tB := Boxed.new Y2 4 (.bool false)
                    have hI := hI.alloc (.cells #[.bool false] 4)
                    go_simp
                    obtain ⟨Y3, hY'⟩ : ∃ Y', Y2.alloc (.cells #[.bool false] 4) = Y' := ⟨_, rfl⟩
                    rw [hY'] at hI tB ⊢
                    clear hY' yv yg yvf ygf
                    have yv := hI.1.cell
                    have yvf := hI.1.frozen
                    have yg := hI.2.1.cell
                    have ygf := hI.2.1.frozen
                    refine hK _ _ ?_
                    clear hK K
                    refine wpAny_ready (rs := [8]) (by kernel_rfl) (by simp) ?_
                    refine AllReady.cons rfl (fun K hK => ?_) AllReady.nil
                    · refine step_append_bool rfl rfl (.tmp 35) (.tmp 38) rfl w2.heap.size g _ rfl hI.2.2.2.1 _ 1 false rfl tB.cell hpl2 hI.2.2.2.2.2.2 ?_
                      intro g2 cap2 Y4 ho' hg'
                      have hI := hI.app2 ho' hg'
                      clear ho' hg' yv yg yvf ygf
                      have yv := hI.1.cell
                      have yvf := hI.1.frozen
                      have yg := hI.2.1.cell
                      have ygf := hI.2.1.frozen
                      go_simp
                      refine hK _ _ ?_
                      clear hK K
                      refine wpAny_ready (rs := [9]) (by kernel_rfl) (by simp) ?_
                      refine AllReady.cons rfl (fun K hK => ?_) AllReady.nil
                      · go_simp
                        refine hK _ _ ?_
                        clear hK K
                        refine wpAny_ready (rs := [10]) (by kernel_rfl) (by simp) ?_
                        refine AllReady.cons rfl (fun K hK => ?_) AllReady.nil
                        · go_simp
                          refine hK _ _ ?_
                          clear hK K
                          refine wpAny_done (by kernel_rfl) ?_ _
                          exact rec_leaf hI Hxx.out Hbb.out Hz.out hne h6 h7 h8 hb (by omega)
                · have tB := Boxed.new Y1 4 (.bool false)
                  have tA := tA.alloc (.cells #[.bool false] 4)
                  have hI := hI.alloc (.cells #[.bool false] 4)
                  go_simp
                  obtain ⟨Y2, hY'⟩ : ∃ Y', Y1.alloc (.cells #[.bool false] 4) = Y' := ⟨_, rfl⟩
                  rw [hY'] at hI tB tA ⊢
                  clear hY' yv yg yvf ygf
                  have yv := hI.1.cell
                  have yvf := hI.1.frozen
                  have yg := hI.2.1.cell
                  have ygf := hI.2.1.frozen
                  refine hK _ _ ?_
                  clear hK K
                  refine wpAny_ready (rs := [3]) (by kernel_rfl) (by simp) ?_
                  refine AllReady.cons rfl (fun K hK => ?_) AllReady.nil
                  · refine step_append_str rfl rfl (.tmp 31) (.tmp 33) rfl w2.heap.size v _ rfl hI.2.2.1 _ 1 (⟨#[]⟩) rfl tA.cell hpl hI.2.2.2.2.2.2 ?_
                    intro g1 cap1 Y3 ho' hg'
                    have tB := tB.kept hg' (tB.not_row (by decide) hI.2.2.1)
                    have hI := hI.app1 ho' hg'
                    clear ho' hg' yv yg yvf ygf
                    have yv := hI.1.cell
                    have yvf := hI.1.frozen
                    have yg := hI.2.1.cell
                    have ygf := hI.2.1.frozen
                    go_simp
                    refine hK _ _ ?_
                    clear hK K
                    refine wpAny_ready (rs := [8]) (by kernel_rfl) (by simp) ?_
                    refine AllReady.cons rfl (fun K hK => ?_) AllReady.nil
                    · refine step_append_bool rfl rfl (.tmp 35) (.tmp 38) rfl w2.heap.size g _ rfl hI.2.2.2.1 _ 1 false rfl tB.cell hpl2 hI.2.2.2.2.2.2 ?_
                      intro g2 cap2 Y4 ho' hg'
                      have hI := hI.app2 ho' hg'
                      clear ho' hg' yv yg yvf ygf
                      have yv := hI.1.cell
                      have yvf := hI.1.frozen
                      have yg := hI.2.1.cell
                      have ygf := hI.2.1.frozen
                      go_simp
                      refine hK _ _ ?_
                      clear hK K
                      refine wpAny_ready (rs := [9]) (by kernel_rfl) (by simp) ?_
                      refine AllReady.cons rfl (fun K hK => ?_) AllReady.nil
                      · go_simp
                        refine hK _ _ ?_
                        clear hK K
                        refine wpAny_ready (rs := [10]) (by kernel_rfl) (by simp) ?_
                        refine AllReady.cons rfl (fun K hK => ?_) AllReady.nil
                        · go_simp
                          refine hK _ _ ?_
                          clear hK K
                          refine wpAny_done (by kernel_rfl) ?_ _
                          exact rec_leaf hI Hxx.out Hbb.out Hz.out hne h6 h7 h8 hb (by omega)
              · have tB := Boxed.new Y1 4 (.bool false)
                have tA := tA.alloc (.cells #[.bool false] 4)
                have hI := hI.alloc (.cells #[.bool false] 4)
                go_simp
                obtain ⟨Y2, hY'⟩ : ∃ Y', Y1.alloc (.cells #[.bool false] 4) = Y' := ⟨_, rfl⟩
                rw [hY'] at hI tB tA ⊢
                clear hY' yv yg yvf ygf
                have yv := hI.1.cell
                have yvf := hI.1.frozen
                have yg := hI.2.1.cell
                have ygf := hI.2.1.frozen
                refine hK _ _ ?_
                clear hK K
                refine wpAny_ready (rs := [3, 4]) (by kernel_rfl) (by simp) ?_
                refine AllReady.cons rfl (fun K hK => ?_) (AllReady.cons rfl (fun K hK => ?_) AllReady.nil)
                · refine step_append_str rfl rfl (.tmp 31) (.tmp 33) rfl w2.heap.size v _ rfl hI.2.2.1 _ 1 (⟨#[]⟩) rfl tA.cell hpl hI.2.2.2.2.2.2 ?_
                  intro g1 cap1 Y3 ho' hg'
                  have tB := tB.kept hg' (tB.not_row (by decide) hI.2.2.1)
                  have hI := hI.app1 ho' hg'
                  clear ho' hg' yv yg yvf ygf
                  have yv := hI.1.cell
                  have yvf := hI.1.frozen
                  have yg := hI.2.1.cell
                  have ygf := hI.2.1.frozen
                  go_simp
                  refine hK _ _ ?_
                  clear hK K
                  refine wpAny_ready (rs := [4]) (by kernel_rfl) (by simp) ?_
                  refine AllReady.cons rfl (fun K hK => ?_) AllReady.nil
                  · go_simp
                    refine hK _ _ ?_
                    clear hK K
                    refine wpAny_ready (rs := [8]) (by kernel_rfl) (by simp) ?_
                    refine AllReady.cons rfl (fun K hK => ?_) AllReady.nil
                    · refine step_append_bool rfl rfl (.tmp 35) (.tmp 38) rfl w2.heap.size g _ rfl hI.2.2.2.1 _ 1 false rfl tB.cell hpl2 hI.2.2.2.2.2.2 ?_
                      intro g2 cap2 Y4 ho' hg'
                      have hI := hI.app2 ho' hg'
                      clear ho' hg' yv yg yvf ygf
                      have yv := hI.1.cell
                      have yvf := hI.1.frozen
                      have yg := hI.2.1.cell
                      have ygf := hI.2.1.frozen
                      go_simp
                      refine hK _ _ ?_
                      clear hK K
                      refine wpAny_ready (rs := [9]) (by kernel_rfl) (by simp) ?_
                      refine AllReady.cons rfl (fun K hK => ?_) AllReady.nil
                      · go_simp
                        refine hK _ _ ?_
                        clear hK K
                        refine wpAny_ready (rs := [10]) (by kernel_rfl) (by simp) ?_
                        refine AllReady.cons rfl (fun K hK => ?_) AllReady.nil
                        · go_simp
                          refine hK _ _ ?_
                          clear hK K
                          refine wpAny_done (by kernel_rfl) ?_ _
                          exact rec_leaf hI Hxx.out Hbb.out Hz.out hne h6 h7 h8 hb (by omega)
                · go_simp
                  refine hK _ _ ?_
                  clear hK K
                  refine wpAny_ready (rs := [3]) (by kernel_rfl) (by simp) ?_
                  refine AllReady.cons rfl (fun K hK => ?_) AllReady.nil
                  · refine step_append_str rfl rfl (.tmp 31) (.tmp 33) rfl w2.heap.size v _ rfl hI.2.2.1 _ 1 (⟨#[]⟩) rfl tA.cell hpl hI.2.2.2.2.2.2 ?_
                    intro g1 cap1 Y3 ho' hg'
                    have tB := tB.kept hg' (tB.not_row (by decide) hI.2.2.1)
                    have hI := hI.app1 ho' hg'
                    clear ho' hg' yv yg yvf ygf
                    have yv := hI.1.cell
                    have yvf := hI.1.frozen
                    have yg := hI.2.1.cell
                    have ygf := hI.2.1.frozen
                    go_simp
                    refine hK _ _ ?_
                    clear hK K
                    refine wpAny_ready (rs := [8]) (by kernel_rfl) (by simp) ?_
                    refine AllReady.cons rfl (fun K hK => ?_) AllReady.nil
                    · refine step_append_bool rfl rfl (.tmp 35) (.tmp 38) rfl w2.heap.size g _ rfl hI.2.2.2.1 _ 1 false rfl tB.cell hpl2 hI.2.2.2.2.2.2 ?_
                      intro g2 cap2 Y4 ho' hg'
                      have hI := hI.app2 ho' hg'
                      clear ho' hg' yv yg yvf ygf
                      have yv := hI.1.cell
                      have yvf := hI.1.frozen
                      have yg := hI.2.1.cell
                      have ygf := hI.2.1.frozen
                      go_simp
                      refine hK _ _ ?_
                      clear hK K
                      refine wpAny_ready (rs := [9]) (by kernel_rfl) (by simp) ?_
                      refine AllReady.cons rfl (fun K hK => ?_) AllReady.nil
                      · go_simp
                        refine hK _ _ ?_
                        clear hK K
                        refine wpAny_ready (rs := [10]) (by kernel_rfl) (by simp) ?_
                        refine AllReady.cons rfl (fun K hK => ?_) AllReady.nil
                        · go_simp
                          refine hK _ _ ?_
                          clear hK K
                          refine wpAny_done (by kernel_rfl) ?_ _
                          exact rec_leaf hI Hxx.out Hbb.out Hz.out hne h6 h7 h8 hb (by omega)
            · go_simp
              refine hK _ _ ?_
              clear hK K
              refine wpAny_ready (rs := [0, 7]) (by kernel_rfl) (by simp) ?_
              refine AllReady.cons rfl (fun K hK => ?_) (AllReady.cons rfl (fun K hK => ?_) AllReady.nil)
              · go_simp
                refine hK _ _ ?_
                clear hK K
                refine wpAny_ready (rs := [3, 7]) (by kernel_rfl) (by simp) ?_
                refine AllReady.cons rfl (fun K hK => ?_) (AllReady.cons rfl (fun K hK => ?_) AllReady.nil)
                · refine step_append_str rfl rfl (.tmp 31) (.tmp 33) rfl w2.heap.size v _ rfl hI.2.2.1 _ 1 (⟨#[]⟩) rfl tA.cell hpl hI.2.2.2.2.2.2 ?_
                  intro g1 cap1 Y2 ho' hg'
                  have hI := hI.app1 ho' hg'
                  clear ho' hg' yv yg yvf ygf
                  have yv := hI.1.cell
                  have yvf := hI.1.frozen
                  have yg := hI.2.1.cell
                  have ygf := hI.2.1.frozen
                  go_simp
                  refine hK _ _ ?_
                  clear hK K
                  refine wpAny_ready (rs := [7]) (by kernel_rfl) (by simp) ?_
                  refine AllReady.cons rfl (fun K hK => ?_) AllReady.nil
                  · have tB := Boxed.new Y2 4 (.bool false)
                    have hI := hI.alloc (.cells #[.bool false] 4)
                    go_simp
                    obtain ⟨Y3, hY'⟩ : ∃ Y', Y2.alloc (.cells #[.bool false] 4) = Y' := ⟨_, rfl⟩
                    rw [hY'] at hI tB ⊢
                    clear hY' yv yg yvf ygf
                    have yv := hI.1.cell
                    have yvf := hI.1.frozen
                    have yg := hI.2.1.cell
                    have ygf := hI.2.1.frozen
                    refine hK _ _ ?_
                    clear hK K
                    refine wpAny_ready (rs := [8]) (by kernel_rfl) (by simp) ?_
                    refine AllReady.cons rfl (fun K hK => ?_) AllReady.nil
                    · refine step_append_bool rfl rfl (.tmp 35) (.tmp 38) rfl w2.heap.size g _ rfl hI.2.2.2.1 _ 1 false rfl tB.cell hpl2 hI.2.2.2.2.2.2 ?_
                      intro g2 cap2 Y4 ho' hg'
                      have hI := hI.app2 ho' hg'
                      clear ho' hg' yv yg yvf ygf
                      have yv := hI.1.cell
                      have yvf := hI.1.frozen
                      have yg := hI.2.1.cell
                      have ygf := hI.2.1.frozen
                      go_simp
                      refine hK _ _ ?_
                      clear hK K
                      refine wpAny_ready (rs := [9]) (by kernel_rfl) (by simp) ?_
                      refine AllReady.cons rfl (fun K hK => ?_) AllReady.nil
                      · go_simp
                        refine hK _ _ ?_
                        clear hK K
                        refine wpAny_ready (rs := [10]) (by kernel_rfl) (by simp) ?_
                        refine AllReady.cons rfl (fun K hK => ?_) AllReady.nil
                        · go_simp
                          refine hK _ _ ?_
                          clear hK K
                          refine wpAny_done (by kernel_rfl) ?_ _
                          exact rec_leaf hI Hxx.out Hbb.out Hz.out hne h6 h7 h8 hb (by omega)
                · have tB := Boxed.new Y1 4 (.bool false)
                  have tA := tA.alloc (.cells #[.bool false] 4)
                  have hI := hI.alloc (.cells #[.bool false] 4)
                  go_simp
                  obtain ⟨Y2, hY'⟩ : ∃ Y', Y1.alloc (.cells #[.bool false] 4) = Y' := ⟨_, rfl⟩
                  rw [hY'] at hI tB tA ⊢
                  clear hY' yv yg yvf ygf
                  have yv := hI.1.cell
                  have yvf := hI.1.frozen
                  have yg := hI.2.1.cell
                  have ygf := hI.2.1.frozen
                  refine hK _ _ ?_
                  clear hK K
                  refine wpAny_ready (rs := [3]) (by kernel_rfl) (by simp) ?_
                  refine AllReady.cons rfl (fun K hK => ?_) AllReady.nil
                  · refine step_append_str rfl rfl (.tmp 31) (.tmp 33) rfl w2.heap.size v _ rfl hI.2.2.1 _ 1 (⟨#[]⟩) rfl tA.cell hpl hI.2.2.2.2.2.2 ?_
                    intro g1 cap1 Y3 ho' hg'
                    have tB := tB.kept hg' (tB.not_row (by decide) hI.2.2.1)
                    have hI := hI.app1 ho' hg'
                    clear ho' hg' yv yg yvf ygf
                    have yv := hI.1.cell
                    have yvf := hI.1.frozen
                    have yg := hI.2.1.cell
                    have ygf := hI.2.1.frozen
                    go_simp
                    refine hK _ _ ?_
                    clear hK K
                    refine wpAny_ready (rs := [8]) (by kernel_rfl) (by simp) ?_
                    refine AllReady.cons rfl (fun K hK => ?_) AllReady.nil
                    · refine step_append_bool rfl rfl (.tmp 35) (.tmp 38) rfl w2.heap.size g _ rfl hI.2.2.2.1 _ 1 false rfl tB.cell hpl2 hI.2.2.2.2.2.2 ?_
                      intro g2 cap2 Y4 ho' hg'
                      have hI := hI.app2 ho' hg'
                      clear ho' hg' yv yg yvf ygf
                      have yv := hI.1.cell
                      have yvf := hI.1.frozen
                      have yg := hI.2.1.cell
                      have ygf := hI.2.1.frozen
                      go_simp
                      refine hK _ _ ?_
                      clear hK K
                      refine wpAny_ready (rs := [9]) (by kernel_rfl) (by simp) ?_
                      refine AllReady.cons rfl (fun K hK => ?_) AllReady.nil
                      · go_simp
                        refine hK _ _ ?_
                        clear hK K
                        refine wpAny_ready (rs := [10]) (by kernel_rfl) (by simp) ?_
                        refine AllReady.cons rfl (fun K hK => ?_) AllReady.nil
                        · go_simp
                          refine hK _ _ ?_
                          clear hK K
                          refine wpAny_done (by kernel_rfl) ?_ _
                          exact rec_leaf hI Hxx.out Hbb.out Hz.out hne h6 h7 h8 hb (by omega)
              · have tB := Boxed.new Y1 4 (.bool false)
                have tA := tA.alloc (.cells #[.bool false] 4)
                have hI := hI.alloc (.cells #[.bool false] 4)
                go_simp
                obtain ⟨Y2, hY'⟩ : ∃ Y', Y1.alloc (.cells #[.bool false] 4) = Y' := ⟨_, rfl⟩
                rw [hY'] at hI tB tA ⊢
                clear hY' yv yg yvf ygf
                have yv := hI.1.cell
                have yvf := hI.1.frozen
                have yg := hI.2.1.cell
                have ygf := hI.2.1.frozen
                refine hK _ _ ?_
                clear hK K
                refine wpAny_ready (rs := [0]) (by kernel_rfl) (by simp) ?_
                refine AllReady.cons rfl (fun K hK => ?_) AllReady.nil
                · go_simp
                  refine hK _ _ ?_
                  clear hK K
                  refine wpAny_ready (rs := [3]) (by kernel_rfl) (by simp) ?_
                  refine AllReady.cons rfl (fun K hK => ?_) AllReady.nil
                  · refine step_append_str rfl rfl (.tmp 31) (.tmp 33) rfl w2.heap.size v _ rfl hI.2.2.1 _ 1 (⟨#[]⟩) rfl tA.cell hpl hI.2.2.2.2.2.2 ?_
                    intro g1 cap1 Y3 ho' hg'
                    have tB := tB.kept hg' (tB.not_row (by decide) hI.2.2.1)
                    have hI := hI.app1 ho' hg'
                    clear ho' hg' yv yg yvf ygf
                    have yv := hI.1.cell
                    have yvf := hI.1.frozen
                    have yg := hI.2.1.cell
                    have ygf := hI.2.1.frozen
                    go_simp
                    refine hK _ _ ?_
                    clear hK K
                    refine wpAny_ready (rs := [8]) (by kernel_rfl) (by simp) ?_
                    refine AllReady.cons rfl (fun K hK => ?_) AllReady.nil
                    · refine step_append_bool rfl rfl (.tmp 35) (.tmp 38) rfl w2.heap.size g _ rfl hI.2.2.2.1 _ 1 false rfl tB.cell hpl2 hI.2.2.2.2.2.2 ?_
                      intro g2 cap2 Y4 ho' hg'
                      have hI := hI.app2 ho' hg'
                      clear ho' hg' yv yg yvf ygf
                      have yv := hI.1.cell
                      have yvf := hI.1.frozen
                      have yg := hI.2.1.cell
                      have ygf := hI.2.1.frozen
                      go_simp
                      refine hK _ _ ?_
                      clear hK K
                      refine wpAny_ready (rs := [9]) (by kernel_rfl) (by simp) ?_
                      refine AllReady.cons rfl (fun K hK => ?_) AllReady.nil
                      · go_simp
                        refine hK _ _ ?_
                        clear hK K
                        refine wpAny_ready (rs := [10]) (by kernel_rfl) (by simp) ?_
                        refine AllReady.cons rfl (fun K hK => ?_) AllReady.nil
                        · go_simp
                          refine hK _ _ ?_
                          clear hK K
                          refine wpAny_done (by kernel_rfl) ?_ _
                          exact rec_leaf hI Hxx.out Hbb.out Hz.out hne h6 h7 h8 hb (by omega)
            · have tB := Boxed.new Y1 4 (.bool false)
              have tA := tA.alloc (.cells #[.bool false] 4)
              have hI := hI.alloc (.cells #[.bool false] 4)
              go_simp
              obtain ⟨Y2, hY'⟩ : ∃ Y', Y1.alloc (.cells #[.bool false] 4) = Y' := ⟨_, rfl⟩
              rw [hY'] at hI tB tA ⊢
              clear hY' yv yg yvf ygf
              have yv := hI.1.cell
              have yvf := hI.1.frozen
              have yg := hI.2.1.cell
              have ygf := hI.2.1.frozen
              refine hK _ _ ?_
              clear hK K
              refine wpAny_ready (rs := [0, 4]) (by kernel_rfl) (by simp) ?_
              refine AllReady.cons rfl (fun K hK => ?_) (AllReady.cons rfl (fun K hK => ?_) AllReady.nil)
              · go_simp
                refine hK _ _ ?_
                clear hK K
                refine wpAny_ready (rs := [3, 4]) (by kernel_rfl) (by simp) ?_
                refine AllReady.cons rfl (fun K hK => ?_) (AllReady.cons rfl (fun K hK => ?_) AllReady.nil)
                · refine step_append_str rfl rfl (.tmp 31) (.tmp 33) rfl w2.heap.size v _ rfl hI.2.2.1 _ 1 (⟨#[]⟩) rfl tA.cell hpl hI.2.2.2.2.2.2 ?_
                  intro g1 cap1 Y3 ho' hg'
                  have tB := tB.kept hg' (tB.not_row (by decide) hI.2.2.1)
                  have hI := hI.app1 ho' hg'
                  clear ho' hg' yv yg yvf ygf
                  have yv := hI.1.cell
                  have yvf := hI.1.frozen
                  have yg := hI.2.1.cell
                  have ygf := hI.2.1.frozen
                  go_simp
                  refine hK _ _ ?_
                  clear hK K
                  refine wpAny_ready (rs := [4]) (by kernel_rfl) (by simp) ?_
                  refine AllReady.cons rfl (fun K hK => ?_) AllReady.nil
                  · go_simp
                    refine hK _ _ ?_
                    clear hK K
                    refine wpAny_ready (rs := [8]) (by kernel_rfl) (by simp) ?_
                    refine AllReady.cons rfl (fun K hK => ?_) AllReady.nil
                    · refine step_append_bool rfl rfl (.tmp 35) (.tmp 38) rfl w2.heap.size g _ rfl hI.2.2.2.1 _ 1 false rfl tB.cell hpl2 hI.2.2.2.2.2.2 ?_
                      intro g2 cap2 Y4 ho' hg'
                      have hI := hI.app2 ho' hg'
                      clear ho' hg' yv yg yvf ygf
                      have yv := hI.1.cell
                      have yvf := hI.1.frozen
                      have yg := hI.2.1.cell
                      have ygf := hI.2.1.frozen
                      go_simp
                      refine hK _ _ ?_
                      clear hK K
                      refine wpAny_ready (rs := [9]) (by kernel_rfl) (by simp) ?_
                      refine AllReady.cons rfl (fun K hK => ?_) AllReady.nil
                      · go_simp
                        refine hK _ _ ?_
                        clear hK K
                        refine wpAny_ready (rs := [10]) (by kernel_rfl) (by simp) ?_
                        refine AllReady.cons rfl (fun K hK => ?_) AllReady.nil
                        · go_simp
                          refine hK _ _ ?_
                          clear hK K
                          refine wpAny_done (by kernel_rfl) ?_ _
                          exact rec_leaf hI Hxx.out Hbb.out Hz.out hne h6 h7 h8 hb (by omega)
                · go_simp
                  refine hK _ _ ?_
                  clear hK K
                  refine wpAny_ready (rs := [3]) (by kernel_rfl) (by simp) ?_
                  refine AllReady.cons rfl (fun K hK => ?_) AllReady.nil
                  · refine step_append_str rfl rfl (.tmp 31) (.tmp 33) rfl w2.heap.size v _ rfl hI.2.2.1 _ 1 (⟨#[]⟩) rfl tA.cell hpl hI.2.2.2.2.2.2 ?_
                    intro g1 cap1 Y3 ho' hg'
                    have tB := tB.kept hg' (tB.not_row (by decide) hI.2.2.1)
                    have hI := hI.app1 ho' hg'
                    clear ho' hg' yv yg yvf ygf
                    have yv := hI.1.cell
                    have yvf := hI.1.frozen
                    have yg := hI.2.1.cell
                    have ygf := hI.2.1.frozen
                    go_simp
                    refine hK _ _ ?_
                    clear hK K
                    refine wpAny_ready (rs := [8]) (by kernel_rfl) (by simp) ?_
                    refine AllReady.cons rfl (fun K hK => ?_) AllReady.nil
                    · refine step_append_bool rfl rfl (.tmp 35) (.tmp 38) rfl w2.heap.size g _ rfl hI.2.2.2.1 _ 1 false rfl tB.cell hpl2 hI.2.2.2.2.2.2 ?_
                      intro g2 cap2 Y4 ho' hg'
                      have hI := hI.app2 ho' hg'
                      clear ho' hg' yv yg yvf ygf
                      have yv := hI.1.cell
                      have yvf := hI.1.frozen
                      have yg := hI.2.1.cell
                      have ygf := hI.2.1.frozen
                      go_simp
                      refine hK _ _ ?_
                      clear hK K
                      refine wpAny_ready (rs := [9]) (by kernel_rfl) (by simp) ?_
                      refine AllReady.cons rfl (fun K hK => ?_) AllReady.nil
                      · go_simp
                        refine hK _ _ ?_
                        clear hK K
                        refine wpAny_ready (rs := [10]) (by kernel_rfl) (by simp) ?_
                        refine AllReady.cons rfl (fun K hK => ?_) AllReady.nil
                        · go_simp
                          refine hK _ _ ?_
                          clear hK K
                          refine wpAny_done (by kernel_rfl) ?_ _
                          exact rec_leaf hI Hxx.out Hbb.out Hz.out hne h6 h7 h8 hb (by omega)
              · go_simp
                refine hK _ _ ?_
                clear hK K
                refine wpAny_ready (rs := [0]) (by kernel_rfl) (by simp) ?_
                refine AllReady.cons rfl (fun K hK => ?_) AllReady.nil
                · go_simp
                  refine hK _ _ ?_
                  clear hK K
                  refine wpAny_ready (rs := [3]) (by kernel_rfl) (by simp) ?_
                  refine AllReady.cons rfl (fun K hK => ?_) AllReady.nil
                  · refine step_append_str rfl rfl (.tmp 31) (.tmp 33) rfl w2.heap.size v _ rfl hI.2.2.1 _ 1 (⟨#[]⟩) rfl tA.cell hpl hI.2.2.2.2.2.2 ?_
                    intro g1 cap1 Y3 ho' hg'
                    have tB := tB.kept hg' (tB.not_row (by decide) hI.2.2.1)
                    have hI := hI.app1 ho' hg'
                    clear ho' hg' yv yg yvf ygf
                    have yv := hI.1.cell
                    have yvf := hI.1.frozen
                    have yg := hI.2.1.cell
                    have ygf := hI.2.1.frozen
                    go_simp
                    refine hK _ _ ?_
                    clear hK K
                    refine wpAny_ready (rs := [8]) (by kernel_rfl) (by simp) ?_
                    refine AllReady.cons rfl (fun K hK => ?_) AllReady.nil
                    · refine step_append_bool rfl rfl (.tmp 35) (.tmp 38) rfl w2.heap.size g _ rfl hI.2.2.2.1 _ 1 false rfl tB.cell hpl2 hI.2.2.2.2.2.2 ?_
                      intro g2 cap2 Y4 ho' hg'
                      have hI := hI.app2 ho' hg'
                      clear ho' hg' yv yg yvf ygf
                      have yv := hI.1.cell
                      have yvf := hI.1.frozen
                      have yg := hI.2.1.cell
                      have ygf := hI.2.1.frozen
                      go_simp
                      refine hK _ _ ?_
                      clear hK K
                      refine wpAny_ready (rs := [9]) (by kernel_rfl) (by simp) ?_
                      refine AllReady.cons rfl (fun K hK => ?_) AllReady.nil
                      · go_simp
                        refine hK _ _ ?_
                        clear hK K
                        refine wpAny_ready (rs := [10]) (by kernel_rfl) (by simp) ?_
                        refine AllReady.cons rfl (fun K hK => ?_) AllReady.nil
                        · go_simp
                          refine hK _ _ ?_
                          clear hK K
                          refine wpAny_done (by kernel_rfl) ?_ _
                          exact rec_leaf hI Hxx.out Hbb.out Hz.out hne h6 h7 h8 hb (by omega)
          · go_simp
            refine hK _ _ ?_
            clear hK K
            refine wpAny_ready (rs := [0, 2, 7]) (by kernel_rfl) (by simp) ?_
            refine AllReady.cons rfl (fun K hK => ?_) (AllReady.cons rfl (fun K hK => ?_) (AllReady.cons rfl (fun K hK => ?_) AllReady.nil))
            · go_simp
              refine hK _ _ ?_
              clear hK K
              refine wpAny_ready (rs := [2, 7]) (by kernel_rfl) (by simp) ?_
              refine AllReady.cons rfl (fun K hK => ?_) (AllReady.cons rfl (fun K hK => ?_) AllReady.nil)
              · have tA := Boxed.new Y0 9 (.string ⟨#[]⟩)
                have hI := hI.alloc (.cells #[.string ⟨#[]⟩] 9)
                go_simp
                obtain ⟨Y1, hY'⟩ : ∃ Y', Y0.alloc (.cells #[.string ⟨#[]⟩] 9) = Y' := ⟨_, rfl⟩
                rw [hY'] at hI tA ⊢
                clear hY' yv yg yvf ygf
                have yv := hI.1.cell
                have yvf := hI.1.frozen
                have yg := hI.2.1.cell
                have ygf := hI.2.1.frozen
                refine hK _ _ ?_
                clear hK K
                refine wpAny_ready (rs := [3, 7]) (by kernel_rfl) (by simp) ?_
                refine AllReady.cons rfl (fun K hK => ?_) (AllReady.cons rfl (fun K hK => ?_) AllReady.nil)
                · refine step_append_str rfl rfl (.tmp 31) (.tmp 33) rfl w2.heap.size v _ rfl hI.2.2.1 _ 1 (⟨#[]⟩) rfl tA.cell hpl hI.2.2.2.2.2.2 ?_
                  intro g1 cap1 Y2 ho' hg'
                  have hI := hI.app1 ho' hg'
                  clear ho' hg' yv yg yvf ygf
                  have yv := hI.1.cell
                  have yvf := hI.1.frozen
                  have yg := hI.2.1.cell
                  have ygf := hI.2.1.frozen
                  go_simp
                  refine hK _ _ ?_
                  clear hK K
                  refine wpAny_ready (rs := [7]) (by kernel_rfl) (by simp) ?_
                  refine AllReady.cons rfl (fun K hK => ?_) AllReady.nil
                  · have tB := Boxed.new Y2 4 (.bool false)
                    have hI := hI.alloc (.cells #[.bool false] 4)
                    go_simp
                    obtain ⟨Y3, hY'⟩ : ∃ Y', Y2.alloc (.cells #[.bool false] 4) = Y' := ⟨_, rfl⟩
                    rw [hY'] at hI tB ⊢
                    clear hY' yv yg yvf ygf
                    have yv := hI.1.cell
                    have yvf := hI.1.frozen
                    have yg := hI.2.1.cell
                    have ygf := hI.2.1.frozen
                    refine hK _ _ ?_
                    clear hK K
                    refine wpAny_ready (rs := [8]) (by kernel_rfl) (by simp) ?_
                    refine AllReady.cons rfl (fun K hK => ?_) AllReady.nil
                    · refine step_append_bool rfl rfl (.tmp 35) (.tmp 38) rfl w2.heap.size g _ rfl hI.2.2.2.1 _ 1 false rfl tB.cell hpl2 hI.2.2.2.2.2.2 ?_
                      intro g2 cap2 Y4 ho' hg'
                      have hI := hI.app2 ho' hg'
                      clear ho' hg' yv yg yvf ygf
                      have yv := hI.1.cell
                      have yvf := hI.1.frozen
                      have yg := hI.2.1.cell
                      have ygf := hI.2.1.frozen
                      go_simp
                      refine hK _ _ ?_
                      clear hK K
                      refine wpAny_ready (rs := [9]) (by kernel_rfl) (by simp) ?_
                      refine AllReady.cons rfl (fun K hK => ?_) AllReady.nil
                      · go_simp
                        refine hK _ _ ?_
                        clear hK K
                        refine wpAny_ready (rs := [10]) (by kernel_rfl) (by simp) ?_
                        refine AllReady.cons rfl (fun K hK => ?_) AllReady.nil
                        · go_simp
                          refine hK _ _ ?_
                          clear hK K
                          refine wpAny_done (by kernel_rfl) ?_ _
                          exact rec_leaf hI Hxx.out Hbb.out Hz.out hne h6 h7 h8 hb (by omega)
                · have tB := Boxed.new Y1 4 (.bool false)
                  have tA := tA.alloc (.cells #[.bool false] 4)
                  have hI := hI.alloc (.cells #[.bool false] 4)
                  go_simp
                  obtain ⟨Y2, hY'⟩ : ∃ Y', Y1.alloc (.cells #[.bool false] 4) = Y' := ⟨_, rfl⟩
                  rw [hY'] at hI tB tA ⊢
                  clear hY' yv yg yvf ygf
                  have yv := hI.1.cell
                  have yvf := hI.1.frozen
                  have yg := hI.2.1.cell
                  have ygf := hI.2.1.frozen
                  refine hK _ _ ?_
                  clear hK K
                  refine wpAny_ready (rs := [3]) (by kernel_rfl) (by simp) ?_
                  refine AllReady.cons rfl (fun K hK => ?_) AllReady.nil
                  · refine step_append_str rfl rfl (.tmp 31) (.tmp 33) rfl w2.heap.size v _ rfl hI.2.2.1 _ 1 (⟨#[]⟩) rfl tA.cell hpl hI.2.2.2.2.2.2 ?_
                    intro g1 cap1 Y3 ho' hg'
                    have tB := tB.kept hg' (tB.not_row (by decide) hI.2.2.1)
                    have hI := hI.app1 ho' hg'
                    clear ho' hg' yv yg yvf ygf
                    have yv := hI.1.cell
                    have yvf := hI.1.frozen
                    have yg := hI.2.1.cell
                    have ygf := hI.2.1.frozen
                    go_simp
                    refine hK _ _ ?_
                    clear hK K
                    refine wpAny_ready (rs := [8]) (by kernel_rfl) (by simp) ?_
                    refine AllReady.cons rfl (fun K hK => ?_) AllReady.nil
                    · refine step_append_bool rfl rfl (.tmp 35) (.tmp 38) rfl w2.heap.size g _ rfl hI.2.2.2.1 _ 1 false rfl tB.cell hpl2 hI.2.2.2.2.2.2 ?_
                      intro g2 cap2 Y4 ho' hg'
                      have hI := hI.app2 ho' hg'
                      clear ho' hg' yv yg yvf ygf
                      have yv := hI.1.cell
                      have yvf := hI.1.frozen
                      have yg := hI.2.1.cell
                      have ygf := hI.2.1.frozen
                      go_simp
                      refine hK _ _ ?_
                      clear hK K
                      refine wpAny_ready (rs := [9]) (by kernel_rfl) (by simp) ?_
                      refine AllReady.cons rfl (fun K hK => ?_) AllReady.nil
                      · go_simp
                        refine hK _ _ ?_
                        clear hK K
                        refine wpAny_ready (rs := [10]) (by kernel_rfl) (by simp) ?_
                        refine AllReady.cons rfl (fun K hK => ?_) AllReady.nil
                        · go_simp
                          refine hK _ _ ?_
                          clear hK K
                          refine wpAny_done (by kernel_rfl) ?_ _
                          exact rec_leaf hI Hxx.out Hbb.out Hz.out hne h6 h7 h8 hb (by omega)
              · have tB := Boxed.new Y0 4 (.bool false)
                have hI := hI.alloc (.cells #[.bool false] 4)
                go_simp
                obtain ⟨Y1, hY'⟩ : ∃ Y', Y0.alloc (.cells #[.bool false] 4) = Y' := ⟨_, rfl⟩
                rw [hY'] at hI tB ⊢
                clear hY' yv yg yvf ygf
                have yv := hI.1.cell
                have yvf := hI.1.frozen
                have yg := hI.2.1.cell
                have ygf := hI.2.1.frozen
                refine hK _ _ ?_
                clear hK K
                refine wpAny_ready (rs := [2]) (by kernel_rfl) (by simp) ?_
                refine AllReady.cons rfl (fun K hK => ?_) AllReady.nil
                · have tA := Boxed.new Y1 9 (.string ⟨#[]⟩)
                  have tB := tB.alloc (.cells #[.string ⟨#[]⟩] 9)
                  have hI := hI.alloc (.cells #[.string ⟨#[]⟩] 9)
                  go_simp
                  obtain ⟨Y2, hY'⟩ : ∃ Y', Y1.alloc (.cells #[.string ⟨#[]⟩] 9) = Y' := ⟨_, rfl⟩
                  rw [hY'] at hI tA tB ⊢
                  clear hY' yv yg yvf ygf
                  have yv := hI.1.cell
                  have yvf := hI.1.frozen
                  have yg := hI.2.1.cell
                  have ygf := hI.2.1.frozen
                  refine hK _ _ ?_
                  clear hK K
                  refine wpAny_ready (rs := [3]) (by kernel_rfl) (by simp) ?_
                  refine AllReady.cons rfl (fun K hK => ?_) AllReady.nil
                  · refine step_append_str rfl rfl (.tmp 31) (.tmp 33) rfl w2.heap.size v _ rfl hI.2.2.1 _ 1 (⟨#[]⟩) rfl tA.cell hpl hI.2.2.2.2.2.2 ?_
                    intro g1 cap1 Y3 ho' hg'
                    have tB := tB.kept hg' (tB.not_row (by decide) hI.2.2.1)
                    have hI := hI.app1 ho' hg'
                    clear ho' hg' yv yg yvf ygf
                    have yv := hI.1.cell
                    have yvf := hI.1.frozen
                    have yg := hI.2.1.cell
                    have ygf := hI.2.1.frozen
                    go_simp
                    refine hK _ _ ?_
                    clear hK K
                    refine wpAny_ready (rs := [8]) (by kernel_rfl) (by simp) ?_
                    refine AllReady.cons rfl (fun K hK => ?_) AllReady.nil
                    · refine step_append_bool rfl rfl (.tmp 35) (.tmp 38) rfl w2.heap.size g _ rfl hI.2.2.2.1 _ 1 false rfl tB.cell hpl2 hI.2.2.2.2.2.2 ?_
                      intro g2 cap2 Y4 ho' hg'
                      have hI := hI.app2 ho' hg'
                      clear ho' hg' yv yg yvf ygf
                      have yv := hI.1.cell
                      have yvf := hI.1.frozen
                      have yg := hI.2.1.cell
                      have ygf := hI.2.1.frozen
                      go_simp
                      refine hK _ _ ?_
                      clear hK K
                      refine wpAny_ready (rs := [9]) (by kernel_rfl) (by simp) ?_
                      refine AllReady.cons rfl (fun K hK => ?_) AllReady.nil
                      · go_simp
                        refine hK _ _ ?_
                        clear hK K
                        refine wpAny_ready (rs := [10]) (by kernel_rfl) (by simp) ?_
                        refine AllReady.cons rfl (fun K hK => ?_) AllReady.nil
                        · go_simp
                          refine hK _ _ ?_
                          clear hK K
                          refine wpAny_done (by kernel_rfl) ?_ _
                          exact rec_leaf hI Hxx.out Hbb.out Hz.out hne h6 h7 h8 hb (by omega)
            · have tA := Boxed.new Y0 9 (.string ⟨#[]⟩)
              have hI := hI.alloc (.cells #[.string ⟨#[]⟩] 9)
              go_simp
              obtain ⟨Y1, hY'⟩ : ∃ Y', Y0.alloc (.cells #[.string ⟨#[]⟩] 9) = Y' := ⟨_, rfl⟩
              rw [hY'] at hI tA ⊢
              clear hY' yv yg yvf ygf
              have yv := hI.1.cell
              have yvf := hI.1.frozen
              have yg := hI.2.1.cell
              have ygf := hI.2.1.frozen
              refine hK _ _ ?_
              clear hK K
              refine wpAny_ready (rs := [0, 7]) (by kernel_rfl) (by simp) ?_
              refine AllReady.cons rfl (fun K hK => ?_) (AllReady.cons rfl (fun K hK => ?_) AllReady.nil)
              · go_simp
                refine hK _ _ ?_
                clear hK K
                refine wpAny_ready (rs := [3, 7]) (by kernel_rfl) (by simp) ?_
                refine AllReady.cons rfl (fun K hK => ?_) (AllReady.cons rfl (fun K hK => ?_) AllReady.nil)
                · refine step_append_str rfl rfl (.tmp 31) (.tmp 33) rfl w2.heap.size v _ rfl hI.2.2.1 _ 1 (⟨#[]⟩) rfl tA.cell hpl hI.2.2.2.2.2.2 ?_
                  intro g1 cap1 Y2 ho' hg'
                  have hI := hI.app1 ho' hg'
                  clear ho' hg' yv yg yvf ygf
                  have yv := hI.1.cell
                  have yvf := hI.1.frozen
                  have yg := hI.2.1.cell
                  have ygf := hI.2.1.frozen
                  go_simp
                  refine hK _ _ ?_
                  clear hK K
                  refine wpAny_ready (rs := [7]) (by kernel_rfl) (by simp) ?_
                  refine AllReady.cons rfl (fun K hK => ?_) AllReady.nil
                  · have tB := Boxed.new Y2 4 (.bool false)
                    have hI := hI.alloc (.cells #[.bool false] 4)
                    go_simp
                    obtain ⟨Y3, hY'⟩ : ∃ Y', Y2.alloc (.cells #[.bool false] 4) = Y' := ⟨_, rfl⟩
                    rw [hY'] at hI tB ⊢
                    clear hY' yv yg yvf ygf
                    have yv := hI.1.cell
                    have yvf := hI.1.frozen
                    have yg := hI.2.1.cell
                    have ygf := hI.2.1.frozen
                    refine hK _ _ ?_
                    clear hK K
                    refine wpAny_ready (rs := [8]) (by kernel_rfl) (by simp) ?_
                    refine AllReady.cons rfl (fun K hK => ?_) AllReady.nil
                    · refine step_append_bool rfl rfl (.tmp 35) (.tmp 38) rfl w2.heap.size g _ rfl hI.2.2.2.1 _ 1 false rfl tB.cell hpl2 hI.2.2.2.2.2.2 ?_
                      intro g2 cap2 Y4 ho' hg'
                      have hI := hI.app2 ho' hg'
                      clear ho' hg' yv yg yvf ygf
                      have yv := hI.1.cell
                      have yvf := hI.1.frozen
                      have yg := hI.2.1.cell
                      have ygf := hI.2.1.frozen
                      go_simp
                      refine hK _ _ ?_
                      clear hK K
                      refine wpAny_ready (rs := [9]) (by kernel_rfl) (by simp) ?_
                      refine AllReady.cons rfl (fun K hK => ?_) AllReady.nil
                      · go_simp
                        refine hK _ _ ?_
                        clear hK K
                        refine wpAny_ready (rs := [10]) (by kernel_rfl) (by simp) ?_
                        refine AllReady.cons rfl (fun K hK => ?_) AllReady.nil
                        · go_simp
                          refine hK _ _ ?_
                          clear hK K
                          refine wpAny_done (by kernel_rfl) ?_ _
                          exact rec_leaf hI Hxx.out Hbb.out Hz.out hne h6 h7 h8 hb (by omega)
                · have tB := Boxed.new Y1 4 (.bool false)
                  have tA := tA.alloc (.cells #[.bool false] 4)
                  have hI := hI.alloc (.cells #[.bool false] 4)
                  go_simp
                  obtain ⟨Y2, hY'⟩ : ∃ Y', Y1.alloc (.cells #[.bool false] 4) = Y' := ⟨_, rfl⟩
                  rw [hY'] at hI tB tA ⊢
                  clear hY' yv yg yvf ygf
                  have yv := hI.1.cell
                  have yvf := hI.1.frozen
                  have yg := hI.2.1.cell
                  have ygf := hI.2.1.frozen
                  refine hK _ _ ?_
                  clear hK K
                  refine wpAny_ready (rs := [3]) (by kernel_rfl) (by simp) ?_
                  refine AllReady.cons rfl (fun K hK => ?_) AllReady.nil
                  · refine step_append_str rfl rfl (.tmp 31) (.tmp 33) rfl w2.heap.size v _ rfl hI.2.2.1 _ 1 (⟨#[]⟩) rfl tA.cell hpl hI.2.2.2.2.2.2 ?_
                    intro g1 cap1 Y3 ho' hg'
                    have tB := tB.kept hg' (tB.not_row (by decide) hI.2.2.1)
                    have hI := hI.app1 ho' hg'
                    clear ho' hg' yv yg yvf ygf
                    have yv := hI.1.cell
                    have yvf := hI.1.frozen
                    have yg := hI.2.1.cell
                    have ygf := hI.2.1.frozen
                    go_simp
                    refine hK _ _ ?_
                    clear hK K
                    refine wpAny_ready (rs := [8]) (by kernel_rfl) (by simp) ?_
                    refine AllReady.cons rfl (fun K hK => ?_) AllReady.nil
                    · refine step_append_bool rfl rfl (.tmp 35) (.tmp 38) rfl w2.heap.size g _ rfl hI.2.2.2.1 _ 1 false rfl tB.cell hpl2 hI.2.2.2.2.2.2 ?_
                      intro g2 cap2 Y4 ho' hg'
                      have hI := hI.app2 ho' hg'
                      clear ho' hg' yv yg yvf ygf
                      have yv := hI.1.cell
                      have yvf := hI.1.frozen
                      have yg := hI.2.1.cell
                      have ygf := hI.2.1.frozen
                      go_simp
                      refine hK _ _ ?_
                      clear hK K
                      refine wpAny_ready (rs := [9]) (by kernel_rfl) (by simp) ?_
                      refine AllReady.cons rfl (fun K hK => ?_) AllReady.nil
                      · go_simp
                        refine hK _ _ ?_
                        clear hK K
                        refine wpAny_ready (rs := [10]) (by kernel_rfl) (by simp) ?_
                        refine AllReady.cons rfl (fun K hK => ?_) AllReady.nil
                        · go_simp
                          refine hK _ _ ?_
                          clear hK K
                          refine wpAny_done (by kernel_rfl) ?_ _
                          exact rec_leaf hI Hxx.out Hbb.out Hz.out hne h6 h7 h8 hb (by omega)
              · have tB := Boxed.new Y1 4 (.bool false)
                have tA := tA.alloc (.cells #[.bool false] 4)
                have hI := hI.alloc (.cells #[.bool false] 4)
                go_simp
                obtain ⟨Y2, hY'⟩ : ∃ Y', Y1.alloc (.cells #[.bool false] 4) = Y' := ⟨_, rfl⟩
                rw [hY'] at hI tB tA ⊢
                clear hY' yv yg yvf ygf
                have yv := hI.1.cell
                have yvf := hI.1.frozen
                have yg := hI.2.1.cell
                have ygf := hI.2.1.frozen
                refine hK _ _ ?_
                clear hK K
                refine wpAny_ready (rs := [0]) (by kernel_rfl) (by simp) ?_
                refine AllReady.cons rfl (fun K hK => ?_) AllReady.nil
                · go_simp
                  refine hK _ _ ?_
                  clear hK K
                  refine wpAny_ready (rs := [3]) (by kernel_rfl) (by simp) ?_
                  refine AllReady.cons rfl (fun K hK => ?_) AllReady.nil
                  · refine step_append_str rfl rfl (.tmp 31) (.tmp 33) rfl w2.heap.size v _ rfl hI.2.2.1 _ 1 (⟨#[]⟩) rfl tA.cell hpl hI.2.2.2.2.2.2 ?_
                    intro g1 cap1 Y3 ho' hg'
                    have tB := tB.kept hg' (tB.not_row (by decide) hI.2.2.1)
                    have hI := hI.app1 ho' hg'
                    clear ho' hg' yv yg yvf ygf
                    have yv := hI.1.cell
                    have yvf := hI.1.frozen
                    have yg := hI.2.1.cell
                    have ygf := hI.2.1.frozen
                    go_simp
                    refine hK _ _ ?_
                    clear hK K
                    refine wpAny_ready (rs := [8]) (by kernel_rfl) (by simp) ?_
                    refine AllReady.cons rfl (fun K hK => ?_) AllReady.nil
                    · refine step_append_bool rfl rfl (.tmp 35) (.tmp 38) rfl w2.heap.size g _ rfl hI.2.2.2.1 _ 1 false rfl tB.cell hpl2 hI.2.2.2.2.2.2 ?_
                      intro g2 cap2 Y4 ho' hg'
                      have hI := hI.app2 ho' hg'
                      clear ho' hg' yv yg yvf ygf
                      have yv := hI.1.cell
                      have yvf := hI.1.frozen
                      have yg := hI.2.1.cell
                      have ygf := hI.2.1.frozen
                      go_simp
                      refine hK _ _ ?_
                      clear hK K
                      refine wpAny_ready (rs := [9]) (by kernel_rfl) (by simp) ?_
                      refine AllReady.cons rfl (fun K hK => ?_) AllReady.nil
                      · go_simp
                        refine hK _ _ ?_
                        clear hK K
                        refine wpAny_ready (rs := [10]) (by kernel_rfl) (by simp) ?_
                        refine AllReady.cons rfl (fun K hK => ?_) AllReady.nil
                        · go_simp
                          refine hK _ _ ?_
                          clear hK K
                          refine wpAny_done (by kernel_rfl) ?_ _
                          exact rec_leaf hI Hxx.out Hbb.out Hz.out hne h6 h7 h8 hb (by omega)
            · have tB := Boxed.new Y0 4 (.bool false)
              have hI := hI.alloc (.cells #[.bool false] 4)
              go_simp
              obtain ⟨Y1, hY'⟩ : ∃ Y', Y0.alloc (.cells #[.bool false] 4) = Y' := ⟨_, rfl⟩
              rw [hY'] at hI tB ⊢
              clear hY' yv yg yvf ygf
              have yv := hI.1.cell
              have yvf := hI.1.frozen
              have yg := hI.2.1.cell
              have ygf := hI.2.1.frozen
              refine hK _ _ ?_
              clear hK K
              refine wpAny_ready (rs := [0, 2]) (by kernel_rfl) (by simp) ?_
              refine AllReady.cons rfl (fun K hK => ?_) (AllReady.cons rfl (fun K hK => ?_) AllReady.nil)
              · go_simp
                refine hK _ _ ?_
                clear hK K
                refine wpAny_ready (rs := [2]) (by kernel_rfl) (by simp) ?_
                refine AllReady.cons rfl (fun K hK => ?_) AllReady.nil
                · have tA := Boxed.new Y1 9 (.string ⟨#[]⟩)
                  have tB := tB.alloc (.cells #[.string ⟨#[]⟩] 9)
                  have hI := hI.alloc (.cells #[.string ⟨#[]⟩] 9)
                  go_simp
                  obtain ⟨Y2, hY'⟩ : ∃ Y', Y1.alloc (.cells #[.string ⟨#[]⟩] 9) = Y' := ⟨_, rfl⟩
                  rw [hY'] at hI tA tB ⊢
                  clear hY' yv yg yvf ygf
                  have yv := hI.1.cell
                  have yvf := hI.1.frozen
                  have yg := hI.2.1.cell
                  have ygf := hI.2.1.frozen
                  refine hK _ _ ?_
                  clear hK K
                  refine wpAny_ready (rs := [3]) (by kernel_rfl) (by simp) ?_
                  refine AllReady.cons rfl (fun K hK => ?_) AllReady.nil
                  · refine step_append_str rfl rfl (.tmp 31) (.tmp 33) rfl w2.heap.size v _ rfl hI.2.2.1 _ 1 (⟨#[]⟩) rfl tA.cell hpl hI.2.2.2.2.2.2 ?_
                    intro g1 cap1 Y3 ho' hg'
                    have tB := tB.kept hg' (tB.not_row (by decide) hI.2.2.1)
                    have hI := hI.app1 ho' hg'
                    clear ho' hg' yv yg yvf ygf
                    have yv := hI.1.cell
                    have yvf := hI.1.frozen
                    have yg := hI.2.1.cell
                    have ygf := hI.2.1.frozen
                    go_simp
                    refine hK _ _ ?_
                    clear hK K
                    refine wpAny_ready (rs := [8]) (by kernel_rfl) (by simp) ?_
                    refine AllReady.cons rfl (fun K hK => ?_) AllReady.nil
                    · refine step_append_bool rfl rfl (.tmp 35) (.tmp 38) rfl w2.heap.size g _ rfl hI.2.2.2.1 _ 1 false rfl tB.cell hpl2 hI.2.2.2.2.2.2 ?_
                      intro g2 cap2 Y4 ho' hg'
                      have hI := hI.app2 ho' hg'
                      clear ho' hg' yv yg yvf ygf
                      have yv := hI.1.cell
                      have yvf := hI.1.frozen
                      have yg := hI.2.1.cell
                      have ygf := hI.2.1.frozen
                      go_simp
                      refine hK _ _ ?_
                      clear hK K
                      refine wpAny_ready (rs := [9]) (by kernel_rfl) (by simp) ?_
                      refine AllReady.cons rfl (fun K hK => ?_) AllReady.nil
                      · go_simp
                        refine hK _ _ ?_
                        clear hK K
                        refine wpAny_ready (rs := [10]) (by kernel_rfl) (by simp) ?_
                        refine AllReady.cons rfl (fun K hK => ?_) AllReady.nil
                        · go_simp
                          refine hK _ _ ?_
                          clear hK K
                          refine wpAny_done (by kernel_rfl) ?_ _
                          exact rec_leaf hI Hxx.out Hbb.out Hz.out hne h6 h7 h8 hb (by omega)
              · have tA := Boxed.new Y1 9 (.string ⟨#[]⟩)
                have tB := tB.alloc (.cells #[.string ⟨#[]⟩] 9)
                have hI := hI.alloc (.cells #[.string ⟨#[]⟩] 9)
                go_simp
                obtain ⟨Y2, hY'⟩ : ∃ Y', Y1.alloc (.cells #[.string ⟨#[]⟩] 9) = Y' := ⟨_, rfl⟩
                rw [hY'] at hI tA tB ⊢
                clear hY' yv yg yvf ygf
                have yv := hI.1.cell
                have yvf := hI.1.frozen
                have yg := hI.2.1.cell
                have ygf := hI.2.1.frozen
                refine hK _ _ ?_
                clear hK K
                refine wpAny_ready (rs := [0]) (by kernel_rfl) (by simp) ?_
                refine AllReady.cons rfl (fun K hK => ?_) AllReady.nil
                · go_simp
                  refine hK _ _ ?_
                  clear hK K
                  refine wpAny_ready (rs := [3]) (by kernel_rfl) (by simp) ?_
                  refine AllReady.cons rfl (fun K hK => ?_) AllReady.nil
                  · refine step_append_str rfl rfl (.tmp 31) (.tmp 33) rfl w2.heap.size v _ rfl hI.2.2.1 _ 1 (⟨#[]⟩) rfl tA.cell hpl hI.2.2.2.2.2.2 ?_
                    intro g1 cap1 Y3 ho' hg'
                    have tB := tB.kept hg' (tB.not_row (by decide) hI.2.2.1)
                    have hI := hI.app1 ho' hg'
                    clear ho' hg' yv yg yvf ygf
                    have yv := hI.1.cell
                    have yvf := hI.1.frozen
                    have yg := hI.2.1.cell
                    have ygf := hI.2.1.frozen
                    go_simp
                    refine hK _ _ ?_
                    clear hK K
                    refine wpAny_ready (rs := [8]) (by kernel_rfl) (by simp) ?_
                    refine AllReady.cons rfl (fun K hK => ?_) AllReady.nil
                    · refine step_append_bool rfl rfl (.tmp 35) (.tmp 38) rfl w2.heap.size g _ rfl hI.2.2.2.1 _ 1 false rfl tB.cell hpl2 hI.2.2.2.2.2.2 ?_
                      intro g2 cap2 Y4 ho' hg'
                      have hI := hI.app2 ho' hg'
                      clear ho' hg' yv yg yvf ygf
                      have yv := hI.1.cell
                      have yvf := hI.1.frozen
                      have yg := hI.2.1.cell
                      have ygf := hI.2.1.frozen
                      go_simp
                      refine hK _ _ ?_
                      clear hK K
                      refine wpAny_ready (rs := [9]) (by kernel_rfl) (by simp) ?_
                      refine AllReady.cons rfl (fun K hK => ?_) AllReady.nil
                      · go_simp
                        refine hK _ _ ?_
                        clear hK K
                        refine wpAny_ready (rs := [10]) (by kernel_rfl) (by simp) ?_
                        refine AllReady.cons rfl (fun K hK => ?_) AllReady.nil
                        · go_simp
                          refine hK _ _ ?_
                          clear hK K
                          refine wpAny_done (by kernel_rfl) ?_ _
                          exact rec_leaf hI Hxx.out Hbb.out Hz.out hne h6 h7 h8 hb (by omega)
          · have tB := Boxed.new Y0 4 (.bool false)
            have hI := hI.alloc (.cells #[.bool false] 4)
            go_simp
            obtain ⟨Y1, hY'⟩ : ∃ Y', Y0.alloc (.cells #[.bool false] 4) = Y' := ⟨_, rfl⟩
            rw [hY'] at hI tB ⊢
            clear hY' yv yg yvf ygf
            have yv := hI.1.cell
            have yvf := hI.1.frozen
            have yg := hI.2.1.cell
            have ygf := hI.2.1.frozen
            refine hK _ _ ?_
            clear hK K
            refine wpAny_ready (rs := [0, 2, 4]) (by kernel_rfl) (by simp) ?_
            refine AllReady.cons rfl (fun K hK => ?_) (AllReady.cons rfl (fun K hK => ?_) (AllReady.cons rfl (fun K hK => ?_) AllReady.nil))
            · go_simp
              refine hK _ _ ?_
              clear hK K
              refine wpAny_ready (rs := [2, 4]) (by kernel_rfl) (by simp) ?_
              refine AllReady.cons rfl (fun K hK => ?_) (AllReady.cons rfl (fun K hK => ?_) AllReady.nil)
              · have tA := Boxed.new Y1 9 (.string ⟨#[]⟩)
                have tB := tB.alloc (.cells #[.string ⟨#[]⟩] 9)
                have hI := hI.alloc (.cells #[.string ⟨#[]⟩] 9)
                go_simp
                obtain ⟨Y2, hY'⟩ : ∃ Y', Y1.alloc (.cells #[.string ⟨#[]⟩] 9) = Y' := ⟨_, rfl⟩
                rw [hY'] at hI tA tB ⊢
                clear hY' yv yg yvf ygf
                have yv := hI.1.cell
                have yvf := hI.1.frozen
                have yg := hI.2.1.cell
                have ygf := hI.2.1.frozen
                refine hK _ _ ?_
                clear hK K
                refine wpAny_ready (rs := [3, 4]) (by kernel_rfl) (by simp) ?_
                refine AllReady.cons rfl (fun K hK => ?_) (AllReady.cons rfl (fun K hK => ?_) AllReady.nil)
                · refine step_append_str rfl rfl (.tmp 31) (.tmp 33) rfl w2.heap.size v _ rfl hI.2.2.1 _ 1 (⟨#[]⟩) rfl tA.cell hpl hI.2.2.2.2.2.2 ?_
                  intro g1 cap1 Y3 ho' hg'
                  have tB := tB.kept hg' (tB.not_row (by decide) hI.2.2.1)
                  have hI := hI.app1 ho' hg'
                  clear ho' hg' yv yg yvf ygf
                  have yv := hI.1.cell
                  have yvf := hI.1.frozen
                  have yg := hI.2.1.cell
                  have ygf := hI.2.1.frozen
                  go_simp
                  refine hK _ _ ?_
                  clear hK K
                  refine wpAny_ready (rs := [4]) (by kernel_rfl) (by simp) ?_
                  refine AllReady.cons rfl (fun K hK => ?_) AllReady.nil
                  · go_simp
                    refine hK _ _ ?_
                    clear hK K
                    refine wpAny_ready (rs := [8]) (by kernel_rfl) (by simp) ?_
                    refine AllReady.cons rfl (fun K hK => ?_) AllReady.nil
                    · refine step_append_bool rfl rfl (.tmp 35) (.tmp 38) rfl w2.heap.size g _ rfl hI.2.2.2.1 _ 1 false rfl tB.cell hpl2 hI.2.2.2.2.2.2 ?_
                      intro g2 cap2 Y4 ho' hg'
                      have hI := hI.app2 ho' hg'
                      clear ho' hg' yv yg yvf ygf
                      have yv := hI.1.cell
                      have yvf := hI.1.frozen
                      have yg := hI.2.1.cell
                      have ygf := hI.2.1.frozen
                      go_simp
                      refine hK _ _ ?_
                      clear hK K
                      refine wpAny_ready (rs := [9]) (by kernel_rfl) (by simp) ?_
                      refine AllReady.cons rfl (fun K hK => ?_) AllReady.nil
                      · go_simp
                        refine hK _ _ ?_
                        clear hK K
                        refine wpAny_ready (rs := [10]) (by kernel_rfl) (by simp) ?_
                        refine AllReady.cons rfl (fun K hK => ?_) AllReady.nil
                        · go_simp
                          refine hK _ _ ?_
                          clear hK K
                          refine wpAny_done (by kernel_rfl) ?_ _
                          exact rec_leaf hI Hxx.out Hbb.out Hz.out hne h6 h7 h8 hb (by omega)
                · go_simp
                  refine hK _ _ ?_
                  clear hK K
                  refine wpAny_ready (rs := [3]) (by kernel_rfl) (by simp) ?_
                  refine AllReady.cons rfl (fun K hK => ?_) AllReady.nil
                  · refine step_append_str rfl rfl (.tmp 31) (.tmp 33) rfl w2.heap.size v _ rfl hI.2.2.1 _ 1 (⟨#[]⟩) rfl tA.cell hpl hI.2.2.2.2.2.2 ?_
                    intro g1 cap1 Y3 ho' hg'
                    have tB := tB.kept hg' (tB.not_row (by decide) hI.2.2.1)
                    have hI := hI.app1 ho' hg'
                    clear ho' hg' yv yg yvf ygf
                    have yv := hI.1.cell
                    have yvf := hI.1.frozen
                    have yg := hI.2.1.cell
                    have ygf := hI.2.1.frozen
                    go_simp
                    refine hK _ _ ?_
                    clear hK K
                    refine wpAny_ready (rs := [8]) (by kernel_rfl) (by simp) ?_
                    refine AllReady.cons rfl (fun K hK => ?_) AllReady.nil
                    · refine step_append_bool rfl rfl (.tmp 35) (.tmp 38) rfl w2.heap.size g _ rfl hI.2.2.2.1 _ 1 false rfl tB.cell hpl2 hI.2.2.2.2.2.2 ?_
                      intro g2 cap2 Y4 ho' hg'
                      have hI := hI.app2 ho' hg'
                      clear ho' hg' yv yg yvf ygf
                      have yv := hI.1.cell
                      have yvf := hI.1.frozen
                      have yg := hI.2.1.cell
                      have ygf := hI.2.1.frozen
                      go_simp
                      refine hK _ _ ?_
                      clear hK K
                      refine wpAny_ready (rs := [9]) (by kernel_rfl) (by simp) ?_
                      refine AllReady.cons rfl (fun K hK => ?_) AllReady.nil
                      · go_simp
                        refine hK _ _ ?_
                        clear hK K
                        refine wpAny_ready (rs := [10]) (by kernel_rfl) (by simp) ?_
                        refine AllReady.cons rfl (fun K hK => ?_) AllReady.nil
                        · go_simp
                          refine hK _ _ ?_
                          clear hK K
                          refine wpAny_done (by kernel_rfl) ?_ _
                          exact rec_leaf hI Hxx.out Hbb.out Hz.out hne h6 h7 h8 hb (by omega)
              · go_simp
                refine hK _ _ ?_
                clear hK K
                refine wpAny_ready (rs := [2]) (by kernel_rfl) (by simp) ?_
                refine AllReady.cons rfl (fun K hK => ?_) AllReady.nil
                · have tA := Boxed.new Y1 9 (.string ⟨#[]⟩)
                  have tB := tB.alloc (.cells #[.string ⟨#[]⟩] 9)
                  have hI := hI.alloc (.cells #[.string ⟨#[]⟩] 9)
                  go_simp
                  obtain ⟨Y2, hY'⟩ : ∃ Y', Y1.alloc (.cells #[.string ⟨#[]⟩] 9) = Y' := ⟨_, rfl⟩
                  rw [hY'] at hI tA tB ⊢
                  clear hY' yv yg yvf ygf
                  have yv := hI.1.cell
                  have yvf := hI.1.frozen
                  have yg := hI.2.1.cell
                  have ygf := hI.2.1.frozen
                  refine hK _ _ ?_
                  clear hK K
                  refine wpAny_ready (rs := [3]) (by kernel_rfl) (by simp) ?_
                  refine AllReady.cons rfl (fun K hK => ?_) AllReady.nil
                  · refine step_append_str rfl rfl (.tmp 31) (.tmp 33) rfl w2.heap.size v _ rfl hI.2.2.1 _ 1 (⟨#[]⟩) rfl tA.cell hpl hI.2.2.2.2.2.2 ?_
                    intro g1 cap1 Y3 ho' hg'
                    have tB := tB.kept hg' (tB.not_row (by decide) hI.2.2.1)
                    have hI := hI.app1 ho' hg'
                    clear ho' hg' yv yg yvf ygf
                    have yv := hI.1.cell
                    have yvf := hI.1.frozen
                    have yg := hI.2.1.cell
                    have ygf := hI.2.1.frozen
                    go_simp
                    refine hK _ _ ?_
                    clear hK K
                    refine wpAny_ready (rs := [8]) (by kernel_rfl) (by simp) ?_
                    refine AllReady.cons rfl (fun K hK => ?_) AllReady.nil
                    · refine step_append_bool rfl rfl (.tmp 35) (.tmp 38) rfl w2.heap.size g _ rfl hI.2.2.2.1 _ 1 false rfl tB.cell hpl2 hI.2.2.2.2.2.2 ?_
                      intro g2 cap2 Y4 ho' hg'
                      have hI := hI.app2 ho' hg'
                      clear ho' hg' yv yg yvf ygf
                      have yv := hI.1.cell
                      have yvf := hI.1.frozen
                      have yg := hI.2.1.cell
                      have ygf := hI.2.1.frozen
                      go_simp
                      refine hK _ _ ?_
                      clear hK K
                      refine wpAny_ready (rs := [9]) (by kernel_rfl) (by simp) ?_
                      refine AllReady.cons rfl (fun K hK => ?_) AllReady.nil
                      · go_simp
                        refine hK _ _ ?_
                        clear hK K
                        refine wpAny_ready (rs := [10]) (by kernel_rfl) (by simp) ?_
                        refine AllReady.cons rfl (fun K hK => ?_) AllReady.nil
                        · go_simp
                          refine hK _ _ ?_
                          clear hK K
                          refine wpAny_done (by kernel_rfl) ?_ _
                          exact rec_leaf hI Hxx.out Hbb.out Hz.out hne h6 h7 h8 hb (by omega)
            · have tA := Boxed.new Y1 9 (.string ⟨#[]⟩)
              have tB := tB.alloc (.cells #[.string ⟨#[]⟩] 9)
              have hI := hI.alloc (.cells #[.string ⟨#[]⟩] 9)
              go_simp
              obtain ⟨Y2, hY'⟩ : ∃ Y', Y1.alloc (.cells #[.string ⟨#[]⟩] 9) = Y' := ⟨_, rfl⟩
              rw [hY'] at hI tA tB ⊢
              clear hY' yv yg yvf ygf
              have yv := hI.1.cell
              have yvf := hI.1.frozen
              have yg := hI.2.1.cell
              have ygf := hI.2.1.frozen
              refine hK _ _ ?_
              clear hK K
              refine wpAny_ready (rs := [0, 4]) (by kernel_rfl) (by simp) ?_
              refine AllReady.cons rfl (fun K hK => ?_) (AllReady.cons rfl (fun K hK => ?_) AllReady.nil)
              · go_simp
                refine hK _ _ ?_
                clear hK K
                refine wpAny_ready (rs := [3, 4]) (by kernel_rfl) (by simp) ?_
                refine AllReady.cons rfl (fun K hK => ?_) (AllReady.cons rfl (fun K hK => ?_) AllReady.nil)
                · refine step_append_str rfl rfl (.tmp 31) (.tmp 33) rfl w2.heap.size v _ rfl hI.2.2.1 _ 1 (⟨#[]⟩) rfl tA.cell hpl hI.2.2.2.2.2.2 ?_
                  intro g1 cap1 Y3 ho' hg'
                  have tB := tB.kept hg' (tB.not_row (by decide) hI.2.2.1)
                  have hI := hI.app1 ho' hg'
                  clear ho' hg' yv yg yvf ygf
                  have yv := hI.1.cell
                  have yvf := hI.1.frozen
                  have yg := hI.2.1.cell
                  have ygf := hI.2.1.frozen
                  go_simp
                  refine hK _ _ ?_
                  clear hK K
                  refine wpAny_ready (rs := [4]) (by kernel_rfl) (by simp) ?_
                  refine AllReady.cons rfl (fun K hK => ?_) AllReady.nil
                  · go_simp
                    refine hK _ _ ?_
                    clear hK K
                    refine wpAny_ready (rs := [8]) (by kernel_rfl) (by simp) ?_
                    refine AllReady.cons rfl (fun K hK => ?_) AllReady.nil
                    · refine step_append_bool rfl rfl (.tmp 35) (.tmp 38) rfl w2.heap.size g _ rfl hI.2.2.2.1 _ 1 false rfl tB.cell hpl2 hI.2.2.2.2.2.2 ?_
                      intro g2 cap2 Y4 ho' hg'
                      have hI := hI.app2 ho' hg'
                      clear ho' hg' yv yg yvf ygf
                      have yv := hI.1.cell
                      have yvf := hI.1.frozen
                      have yg := hI.2.1.cell
                      have ygf := hI.2.1.frozen
                      go_simp
                      refine hK _ _ ?_
                      clear hK K
                      refine wpAny_ready (rs := [9]) (by kernel_rfl) (by simp) ?_
                      refine AllReady.cons rfl (fun K hK => ?_) AllReady.nil
                      · go_simp
                        refine hK _ _ ?_
                        clear hK K
                        refine wpAny_ready (rs := [10]) (by kernel_rfl) (by simp) ?_
                        refine AllReady.cons rfl (fun K hK => ?_) AllReady.nil
                        · go_simp
                          refine hK _ _ ?_
                          clear hK K
                          refine wpAny_done (by kernel_rfl) ?_ _
                          exact rec_leaf hI Hxx.out Hbb.out Hz.out hne h6 h7 h8 hb (by omega)
                · go_simp
                  refine hK _ _ ?_
                  clear hK K
                  refine wpAny_ready (rs := [3]) (by kernel_rfl) (by simp) ?_
                  refine AllReady.cons rfl (fun K hK => ?_) AllReady.nil
                  · refine step_append_str rfl rfl (.tmp 31) (.tmp 33) rfl w2.heap.size v _ rfl hI.2.2.1 _ 1 (⟨#[]⟩) rfl tA.cell hpl hI.2.2.2.2.2.2 ?_
                    intro g1 cap1 Y3 ho' hg'
                    have tB := tB.kept hg' (tB.not_row (by decide) hI.2.2.1)
                    have hI := hI.app1 ho' hg'
                    clear ho' hg' yv yg yvf ygf
                    have yv := hI.1.cell
                    have yvf := hI.1.frozen
                    have yg := hI.2.1.cell
                    have ygf := hI.2.1.frozen
                    go_simp
                    refine hK _ _ ?_
                    clear hK K
                    refine wpAny_ready (rs := [8]) (by kernel_rfl) (by simp) ?_
                    refine AllReady.cons rfl (fun K hK => ?_) AllReady.nil
                    · refine step_append_bool rfl rfl (.tmp 35) (.tmp 38) rfl w2.heap.size g _ rfl hI.2.2.2.1 _ 1 false rfl tB.cell hpl2 hI.2.2.2.2.2.2 ?_
                      intro g2 cap2 Y4 ho' hg'
                      have hI := hI.app2 ho' hg'
                      clear ho' hg' yv yg yvf ygf
                      have yv := hI.1.cell
                      have yvf := hI.1.frozen
                      have yg := hI.2.1.cell
                      have ygf := hI.2.1.frozen
                      go_simp
                      refine hK _ _ ?_
                      clear hK K
                      refine wpAny_ready (rs := [9]) (by kernel_rfl) (by simp) ?_
                      refine AllReady.cons rfl (fun K hK => ?_) AllReady.nil
                      · go_simp
                        refine hK _ _ ?_
                        clear hK K
                        refine wpAny_ready (rs := [10]) (by kernel_rfl) (by simp) ?_
                        refine AllReady.cons rfl (fun K hK => ?_) AllReady.nil
                        · go_simp
                          refine hK _ _ ?_
                          clear hK K
                          refine wpAny_done (by kernel_rfl) ?_ _
                          exact rec_leaf hI Hxx.out Hbb.out Hz.out hne h6 h7 h8 hb (by omega)
              · go_simp
                refine hK _ _ ?_
                clear hK K
                refine wpAny_ready (rs := [0]) (by kernel_rfl) (by simp) ?_
                refine AllReady.cons rfl (fun K hK => ?_) AllReady.nil
                · go_simp
                  refine hK _ _ ?_
                  clear hK K
                  refine wpAny_ready (rs := [3]) (by kernel_rfl) (by simp) ?_
                  refine AllReady.cons rfl (fun K hK => ?_) AllReady.nil
                  · refine step_append_str rfl rfl (.tmp 31) (.tmp 33) rfl w2.heap.size v _ rfl hI.2.2.1 _ 1 (⟨#[]⟩) rfl tA.cell hpl hI.2.2.2.2.2.2 ?_
                    intro g1 cap1 Y3 ho' hg'
                    have tB := tB.kept hg' (tB.not_row (by decide) hI.2.2.1)
                    have hI := hI.app1 ho' hg'
                    clear ho' hg' yv yg yvf ygf
                    have yv := hI.1.cell
                    have yvf := hI.1.frozen
                    have yg := hI.2.1.cell
                    have ygf := hI.2.1.frozen
                    go_simp
                    refine hK _ _ ?_
                    clear hK K
                    refine wpAny_ready (rs := [8]) (by kernel_rfl) (by simp) ?_
                    refine AllReady.cons rfl (fun K hK => ?_) AllReady.nil
                    · refine step_append_bool rfl rfl (.tmp 35) (.tmp 38) rfl w2.heap.size g _ rfl hI.2.2.2.1 _ 1 false rfl tB.cell hpl2 hI.2.2.2.2.2.2 ?_
                      intro g2 cap2 Y4 ho' hg'
                      have hI := hI.app2 ho' hg'
                      clear ho' hg' yv yg yvf ygf
                      have yv := hI.1.cell
                      have yvf := hI.1.frozen
                      have yg := hI.2.1.cell
                      have ygf := hI.2.1.frozen
                      go_simp
                      refine hK _ _ ?_
                      clear hK K
                      refine wpAny_ready (rs := [9]) (by kernel_rfl) (by simp) ?_
                      refine AllReady.cons rfl (fun K hK => ?_) AllReady.nil
                      · go_simp
                        refine hK _ _ ?_
                        clear hK K
                        refine wpAny_ready (rs := [10]) (by kernel_rfl) (by simp) ?_
                        refine AllReady.cons rfl (fun K hK => ?_) AllReady.nil
                        · go_simp
                          refine hK _ _ ?_
                          clear hK K
                          refine wpAny_done (by kernel_rfl) ?_ _
                          exact rec_leaf hI Hxx.out Hbb.out Hz.out hne h6 h7 h8 hb (by omega)
            · go_simp
              refine hK _ _ ?_
              clear hK K
              refine wpAny_ready (rs := [0, 2]) (by kernel_rfl) (by simp) ?_
              refine AllReady.cons rfl (fun K hK => ?_) (AllReady.cons rfl (fun K hK => ?_) AllReady.nil)
              · go_simp
                refine hK _ _ ?_
                clear hK K
                refine wpAny_ready (rs := [2]) (by kernel_rfl) (by simp) ?_
                refine AllReady.cons rfl (fun K hK => ?_) AllReady.nil
                · have tA := Boxed.new Y1 9 (.string ⟨#[]⟩)
                  have tB := tB.alloc (.cells #[.string ⟨#[]⟩] 9)
                  have hI := hI.alloc (.cells #[.string ⟨#[]⟩] 9)
                  go_simp
                  obtain ⟨Y2, hY'⟩ : ∃ Y', Y1.alloc (.cells #[.string ⟨#[]⟩] 9) = Y' := ⟨_, rfl⟩
                  rw [hY'] at hI tA tB ⊢
                  clear hY' yv yg yvf ygf
                  have yv := hI.1.cell
                  have yvf := hI.1.frozen
                  have yg := hI.2.1.cell
                  have ygf := hI.2.1.frozen
                  refine hK _ _ ?_
                  clear hK K
                  refine wpAny_ready (rs := [3]) (by kernel_rfl) (by simp) ?_
                  refine AllReady.cons rfl (fun K hK => ?_) AllReady.nil
                  · refine step_append_str rfl rfl (.tmp 31) (.tmp 33) rfl w2.heap.size v _ rfl hI.2.2.1 _ 1 (⟨#[]⟩) rfl tA.cell hpl hI.2.2.2.2.2.2 ?_
                    intro g1 cap1 Y3 ho' hg'
                    have tB := tB.kept hg' (tB.not_row (by decide) hI.2.2.1)
                    have hI := hI.app1 ho' hg'
                    clear ho' hg' yv yg yvf ygf
                    have yv := hI.1.cell
                    have yvf := hI.1.frozen
                    have yg := hI.2.1.cell
                    have ygf := hI.2.1.frozen
                    go_simp
                    refine hK _ _ ?_
                    clear hK K
                    refine wpAny_ready (rs := [8]) (by kernel_rfl) (by simp) ?_
                    refine AllReady.cons rfl (fun K hK => ?_) AllReady.nil
                    · refine step_append_bool rfl rfl (.tmp 35) (.tmp 38) rfl w2.heap.size g _ rfl hI.2.2.2.1 _ 1 false rfl tB.cell hpl2 hI.2.2.2.2.2.2 ?_
                      intro g2 cap2 Y4 ho' hg'
                      have hI := hI.app2 ho' hg'
                      clear ho' hg' yv yg yvf ygf
                      have yv := hI.1.cell
                      have yvf := hI.1.frozen
                      have yg := hI.2.1.cell
                      have ygf := hI.2.1.frozen
                      go_simp
                      refine hK _ _ ?_
                      clear hK K
                      refine wpAny_ready (rs := [9]) (by kernel_rfl) (by simp) ?_
                      refine AllReady.cons rfl (fun K hK => ?_) AllReady.nil
                      · go_simp
                        refine hK _ _ ?_
                        clear hK K
                        refine wpAny_ready (rs := [10]) (by kernel_rfl) (by simp) ?_
                        refine AllReady.cons rfl (fun K hK => ?_) AllReady.nil
                        · go_simp
                          refine hK _ _ ?_
                          clear hK K
                          refine wpAny_done (by kernel_rfl) ?_ _
                          exact rec_leaf hI Hxx.out Hbb.out Hz.out hne h6 h7 h8 hb (by omega)
              · have tA := Boxed.new Y1 9 (.string ⟨#[]⟩)
                have tB := tB.alloc (.cells #[.string ⟨#[]⟩] 9)
                have hI := hI.alloc (.cells #[.string ⟨#[]⟩] 9)
                go_simp
                obtain ⟨Y2, hY'⟩ : ∃ Y', Y1.alloc (.cells #[.string ⟨#[]⟩] 9) = Y' := ⟨_, rfl⟩
                rw [hY'] at hI tA tB ⊢
                clear hY' yv yg yvf ygf
                have yv := hI.1.cell
                have yvf := hI.1.frozen
                have yg := hI.2.1.cell
                have ygf := hI.2.1.frozen
                refine hK _ _ ?_
                clear hK K
                refine wpAny_ready (rs := [0]) (by kernel_rfl) (by simp) ?_
                refine AllReady.cons rfl (fun K hK => ?_) AllReady.nil
                · go_simp
                  refine hK _ _ ?_
                  clear hK K
                  refine wpAny_ready (rs := [3]) (by kernel_rfl) (by simp) ?_
                  refine AllReady.cons rfl (fun K hK => ?_) AllReady.nil
                  · refine step_append_str rfl rfl (.tmp 31) (.tmp 33) rfl w2.heap.size v _ rfl hI.2.2.1 _ 1 (⟨#[]⟩) rfl tA.cell hpl hI.2.2.2.2.2.2 ?_
                    intro g1 cap1 Y3 ho' hg'
                    have tB := tB.kept hg' (tB.not_row (by decide) hI.2.2.1)
                    have hI := hI.app1 ho' hg'
                    clear ho' hg' yv yg yvf ygf
                    have yv := hI.1.cell
                    have yvf := hI.1.frozen
                    have yg := hI.2.1.cell
                    have ygf := hI.2.1.frozen
                    go_simp
                    refine hK _ _ ?_
                    clear hK K
                    refine wpAny_ready (rs := [8]) (by kernel_rfl) (by simp) ?_
                    refine AllReady.cons rfl (fun K hK => ?_) AllReady.nil
                    · refine step_append_bool rfl rfl (.tmp 35) (.tmp 38) rfl w2.heap.size g _ rfl hI.2.2.2.1 _ 1 false rfl tB.cell hpl2 hI.2.2.2.2.2.2 ?_
                      intro g2 cap2 Y4 ho' hg'
                      have hI := hI.app2 ho' hg'
                      clear ho' hg' yv yg yvf ygf
                      have yv := hI.1.cell
                      have yvf := hI.1.frozen
                      have yg := hI.2.1.cell
                      have ygf := hI.2.1.frozen
                      go_simp
                      refine hK _ _ ?_
                      clear hK K
                      refine wpAny_ready (rs := [9]) (by kernel_rfl) (by simp) ?_
                      refine AllReady.cons rfl (fun K hK => ?_) AllReady.nil
                      · go_simp
                        refine hK _ _ ?_
                        clear hK K
                        refine wpAny_ready (rs := [10]) (by kernel_rfl) (by simp) ?_
                        refine AllReady.cons rfl (fun K hK => ?_) AllReady.nil
                        · go_simp
                          refine hK _ _ ?_
                          clear hK K
                          refine wpAny_done (by kernel_rfl) ?_ _
                          exact rec_leaf hI Hxx.out Hbb.out Hz.out hne h6 h7 h8 hb (by omega)
          --REGIONEND
    case done =>
      rintro D xs X hD rfl ⟨⟨v, hv, ho⟩, ⟨g, hg, hog⟩, h6, h7, h8, hne, hb, hX2⟩ hK
      have hok : okB (blksW n m s) = true := by unfold okB; rw [List.all_eq_true]; intro x hx; simpa using hne x hx
      have HLE : Hid (locErr (n : Int) m s = 0) := Lib.hid (by rw [Hle.out, hok]; rfl)
      have HWW : Hid (recOutW (n : Int) m s = recW (blksW n m s)) := Lib.hid (by rw [HW.out, hok]; rfl)
      have HGG : Hid (recOutG (n : Int) m s = recG (blksW n m s)) := Lib.hid (by rw [HG.out, hok]; rfl)
      have hvc := hv.cell
      have hgc := hg.cell
      have h6c := h6.cell
      have h6f := h6.frozen
      have h7c := h7.cell
      have h7f := h7.frozen
      have h8c := h8.cell
      have h8f := h8.frozen
      have Ho := Lib.hid ho
      have Hog := Lib.hid hog
      have HK := Lib.hid hK
      obtain ⟨p1, c1, rfl, _, _, _⟩ := ho.form
      obtain ⟨p2, c2, rfl, _, _, _⟩ := hog.form
      clear hne ho hog hK hok
      go_wp2
      go_region
      all_goals go_wp2_with fail
      rw [HLE.out, HWW.out, HGG.out]
      have v0 : Boxed (((X.setCell ⟨w.heap.size, 0, none⟩ (.slice p1 (recW (blksW n m s)).length c1)).setCell ⟨w.heap.size + 1, 0, none⟩ (.slice p2 (recG (blksW n m s)).length c2)).setCell ⟨w.heap.size + 1 + 1, 0, none⟩ (.int .i64 0)) w.heap.size 42 (.slice p1 (recW (blksW n m s)).length c1) := ((h6.set _).kept (grownBy_setCell' _ _ _) (by simp)).kept (grownBy_setCell' _ _ _) (by simp; omega)
      have v1 : Boxed (((X.setCell ⟨w.heap.size, 0, none⟩ (.slice p1 (recW (blksW n m s)).length c1)).setCell ⟨w.heap.size + 1, 0, none⟩ (.slice p2 (recG (blksW n m s)).length c2)).setCell ⟨w.heap.size + 1 + 1, 0, none⟩ (.int .i64 0)) (w.heap.size + 1) 46 (.slice p2 (recG (blksW n m s)).length c2) := ((h7.kept (grownBy_setCell' _ _ _) (by simp)).set _).kept (grownBy_setCell' _ _ _) (by simp)
      have v2 : Boxed (((X.setCell ⟨w.heap.size, 0, none⟩ (.slice p1 (recW (blksW n m s)).length c1)).setCell ⟨w.heap.size + 1, 0, none⟩ (.slice p2 (recG (blksW n m s)).length c2)).setCell ⟨w.heap.size + 1 + 1, 0, none⟩ (.int .i64 0)) (w.heap.size + 1 + 1) 26 (.int .i64 0) := ((h8.kept (grownBy_setCell' _ _ _) (by simp; omega)).kept (grownBy_setCell' _ _ _) (by simp)).set _
      have v3 : Below w.heap.size w (((X.setCell ⟨w.heap.size, 0, none⟩ (.slice p1 (recW (blksW n m s)).length c1)).setCell ⟨w.heap.size + 1, 0, none⟩ (.slice p2 (recG (blksW n m s)).length c2)).setCell ⟨w.heap.size + 1 + 1, 0, none⟩ (.int .i64 0)) := ((hb.setCell (by simp) _).setCell (by simp) _).setCell (by simp; omega) _
      have hnr : ∀ u, u < w2.heap.size → (some u) ≠ Value.ownBlock (.slice p1 (recW (blksW n m s)).length c1) := fun u hu e => by
        have := (World.ownsRow.lt Ho.out u e.symm).1; omega
      have hnr2 : ∀ u, u < w2.heap.size → (some u) ≠ Value.ownBlock (.slice p2 (recG (blksW n m s)).length c2) := fun u hu e => by
        have := (World.ownsRow.lt Hog.out u e.symm).1; omega
      have v4 : OwnStrs (((X.setCell ⟨w.heap.size, 0, none⟩ (.slice p1 (recW (blksW n m s)).length c1)).setCell ⟨w.heap.size + 1, 0, none⟩ (.slice p2 (recG (blksW n m s)).length c2)).setCell ⟨w.heap.size + 1 + 1, 0, none⟩ (.int .i64 0)) w.heap.size (.slice p1 (recW (blksW n m s)).length c1) (recW (blksW n m s)) :=
        OwnStrs.base (World.ownsRow.kept (World.ownsRow.kept (World.ownsRow.kept Ho.out (grownBy_setCell' _ _ _) (.inr (hnr _ (by omega)).symm)) (grownBy_setCell' _ _ _) (.inr (hnr _ (by omega)).symm)) (grownBy_setCell' _ _ _) (.inr (hnr _ (by omega)).symm)) (by omega)
      have v5 : OwnBools (((X.setCell ⟨w.heap.size, 0, none⟩ (.slice p1 (recW (blksW n m s)).length c1)).setCell ⟨w.heap.size + 1, 0, none⟩ (.slice p2 (recG (blksW n m s)).length c2)).setCell ⟨w.heap.size + 1 + 1, 0, none⟩ (.int .i64 0)) w.heap.size (.slice p2 (recG (blksW n m s)).length c2) (recG (blksW n m s)) :=
        OwnBools.base (World.ownsRow.kept (World.ownsRow.kept (World.ownsRow.kept Hog.out (grownBy_setCell' _ _ _) (.inr (hnr2 _ (by omega)).symm)) (grownBy_setCell' _ _ _) (.inr (hnr2 _ (by omega)).symm)) (grownBy_setCell' _ _ _) (.inr (hnr2 _ (by omega)).symm)) (by omega)
      have hK4 : (((X.setCell ⟨w.heap.size, 0, none⟩ (.slice p1 (recW (blksW n m s)).length c1)).setCell ⟨w.heap.size + 1, 0, none⟩ (.slice p2 (recG (blksW n m s)).length c2)).setCell ⟨w.heap.size + 1 + 1, 0, none⟩ (.int .i64 0)).heap[D]? = some (.deferred (some [])) :=
        (Below.heap_setCell _ _ _ D (by simp; omega)).trans ((Below.heap_setCell _ _ _ D (by simp; omega)).trans ((Below.heap_setCell _ _ _ D (by simp; omega)).trans HK.out))
      generalize (((X.setCell ⟨w.heap.size, 0, none⟩ (.slice p1 (recW (blksW n m s)).length c1)).setCell ⟨w.heap.size + 1, 0, none⟩ (.slice p2 (recG (blksW n m s)).length c2)).setCell ⟨w.heap.size + 1 + 1, 0, none⟩ (.int .i64 0)) = V0 at *
      have hdr : V0.drew.heap = V0.heap := rfl
      have u0 : Boxed V0.drew w.heap.size 42 (.slice p1 (recW (blksW n m s)).length c1) := v0
      have u1 : Boxed V0.drew (w.heap.size + 1) 46 (.slice p2 (recG (blksW n m s)).length c2) := v1
      have u2 : Boxed V0.drew (w.heap.size + 1 + 1) 26 (.int .i64 0) := v2
      have u3 : Below w.heap.size w V0.drew := v3.drew
      have u4 : OwnStrs V0.drew w.heap.size (.slice p1 (recW (blksW n m s)).length c1) (recW (blksW n m s)) := v4.drewN 1
      have u5 : OwnBools V0.drew w.heap.size (.slice p2 (recG (blksW n m s)).length c2) (recG (blksW n m s)) := v5.drewN 1
      have hK5 : V0.drew.heap[D]? = some (.deferred (some [])) := hK4
      clear v0 v1 v2 v3 v4 v5 hK4 hdr
      generalize V0.drew = V at *
      refine ⟨by simp, .inl ⟨_, _, rfl, run_takeDeferred hK5, ?_⟩⟩
      have f0 := (cell_of_block (World.putObj_heap_other (w := V) (o := .deferred none) (show w.heap.size ≠ D by omega)) 0).trans u0.cell
      have f1 := (cell_of_block (World.putObj_heap_other (w := V) (o := .deferred none) (show w.heap.size + 1 ≠ D by omega)) 0).trans u1.cell
      have f2 := (cell_of_block (World.putObj_heap_other (w := V) (o := .deferred none) (show w.heap.size + 1 + 1 ≠ D by omega)) 0).trans u2.cell
      refine ⟨.tuple #[.slice p1 (recW (blksW n m s)).length c1, .slice p2 (recG (blksW n m s)).length c2, .int .i64 0], ?_, .slice p1 (recW (blksW n m s)).length c1, .slice p2 (recG (blksW n m s)).length c2, rfl, ?_, ?_, ?_⟩
      · simp [results, Try.results25, go_sem, f0, f1, f2]
      · exact ownsRow_putObj u4 _ hK5 rfl
      · exact ownsRow_putObj u5 _ hK5 rfl
      · exact u3.trans (belowK_b (w := w) (Nat.le_refl _) _ D _ _ (by omega) hK5 rfl rfl)
    case stop =>
      rintro D c pre X hD ⟨rfl, hL, h6, h7, h8, hb⟩ hK
      have HLE : Hid (locErr (n : Int) m s = 20) := Lib.hid (by rw [Hle.out, hL]; rfl)
      have HWW : Hid (recOutW (n : Int) m s = []) := Lib.hid (by rw [HW.out, hL]; rfl)
      have HGG : Hid (recOutG (n : Int) m s = []) := Lib.hid (by rw [HG.out, hL]; rfl)
      have h6c := h6.cell
      have h7c := h7.cell
      have h8c := h8.cell
      have HK := Lib.hid hK
      clear hL hK
      go_wp2
      refine ⟨by simp, .inl ⟨_, _, rfl, run_takeDeferred HK.out, ?_⟩⟩
      have f0 := (cell_of_block (World.putObj_heap_other (w := X) (o := .deferred none) (show w.heap.size ≠ D by omega)) 0).trans h6c
      have f1 := (cell_of_block (World.putObj_heap_other (w := X) (o := .deferred none) (show w.heap.size + 1 ≠ D by omega)) 0).trans h7c
      have f2 := (cell_of_block (World.putObj_heap_other (w := X) (o := .deferred none) (show w.heap.size + 1 + 1 ≠ D by omega)) 0).trans h8c
      rw [HLE.out, HWW.out, HGG.out]
      refine ⟨.tuple #[.slice none 0 0, .slice none 0 0, .int .i64 20], ?_, .slice none 0 0, .slice none 0 0, rfl, OwnStrs.nil _ _, OwnBools.nil _ _, ?_⟩
      · simp [results, Try.results25, go_sem, f0, f1, f2]
      · exact hb.trans (belowK_b (w := w) (Nat.le_refl _) _ D _ _ (by omega) HK.out rfl rfl)
  · have hz2 : (E != 0) = true := by rw [bne_iff_ne]; exact hz
    have hle : locErr b m s = E := by unfold locErr; rw [hE, if_pos hz]
    have hW : recOutW b m s = [] := by unfold recOutW; rw [hle, if_neg hz]
    have hG : recOutG b m s = [] := by unfold recOutG; rw [hle, if_neg hz]
    rw [hW, hG, hle]
    clear hz hE hm hs hle hW hG
    refine calls_marks Try.func25 rfl ?_
    simp only [Try.ntmps25, List.size_toArray, List.length_cons, List.length_nil, Nat.reduceAdd, Nat.reduceSub, Array.replicate_succ, Array.replicate_zero, List.push_toArray, List.append_toArray, List.nil_append, List.cons_append]
    go_wp2_with fail
    have x6 : Boxed ((((w.alloc (.cells #[.slice none 0 0] 42)).alloc (.cells #[.slice none 0 0] 46)).alloc (.cells #[.int .i64 0] 26))) w.heap.size 42 (.slice none 0 0) :=
      ((Boxed.new w 42 (.slice none 0 0)).alloc (.cells #[.slice none 0 0] 46)).alloc (.cells #[.int .i64 0] 26)
    have x7 : Boxed ((((w.alloc (.cells #[.slice none 0 0] 42)).alloc (.cells #[.slice none 0 0] 46)).alloc (.cells #[.int .i64 0] 26))) (w.heap.size + 1) 46 (.slice none 0 0) := by
      simpa using (Boxed.new (w.alloc (.cells #[.slice none 0 0] 42)) 46 (.slice none 0 0)).alloc (.cells #[.int .i64 0] 26)
    have x8 : Boxed ((((w.alloc (.cells #[.slice none 0 0] 42)).alloc (.cells #[.slice none 0 0] 46)).alloc (.cells #[.int .i64 0] 26))) (w.heap.size + 1 + 1) 26 (.int .i64 0) := by
      simpa using Boxed.new ((w.alloc (.cells #[.slice none 0 0] 42)).alloc (.cells #[.slice none 0 0] 46)) 26 (.int .i64 0)
    have hb3 : Below w.heap.size w ((((w.alloc (.cells #[.slice none 0 0] 42)).alloc (.cells #[.slice none 0 0] 46)).alloc (.cells #[.int .i64 0] 26))) := (((Below.refl _ _).alloc (Nat.le_refl _) _).alloc (by simp) _).alloc (by simp; omega) _
    generalize ((((w.alloc (.cells #[.slice none 0 0] 42)).alloc (.cells #[.slice none 0 0] 46)).alloc (.cells #[.int .i64 0] 26))) = V at *
    have X6 := Lib.hid x6
    have X7 := Lib.hid x7
    have X8 := Lib.hid x8
    have Hb3 := Lib.hid hb3
    clear x6 x7 x8 hb3
    refine (Hc.out _).mono ?_
    rintro e w1 ⟨rfl, hd⟩
    have Hd := Lib.hid hd
    have hw1 : w1.heap = V.heap := Drawn.heap hd
    have Y6 := Lib.hid (show Boxed w1 w.heap.size 42 (.slice none 0 0) by have := X6.out; unfold Boxed at this ⊢; rw [hw1]; exact this)
    have Y7 := Lib.hid (show Boxed w1 (w.heap.size + 1) 46 (.slice none 0 0) by have := X7.out; unfold Boxed at this ⊢; rw [hw1]; exact this)
    have Y8 := Lib.hid (show Boxed w1 (w.heap.size + 1 + 1) 26 (.int .i64 0) by have := X8.out; unfold Boxed at this ⊢; rw [hw1]; exact this)
    clear hd hw1
    have h6c := Y6.out.cell
    have h6f := Y6.out.frozen
    have h7c := Y7.out.cell
    have h7f := Y7.out.frozen
    have h8c := Y8.out.cell
    have h8f := Y8.out.frozen
    go_wp2_with fail
    refine ⟨.tuple #[.slice none 0 0, .slice none 0 0, .int .i64 E], ?_, .slice none 0 0, .slice none 0 0, rfl, OwnStrs.nil _ _, OwnBools.nil _ _, ?_⟩
    · simp [results, Try.results25, go_sem, h6c, h7c, h8c]
    · exact (((Hb3.out.trans (Drawn.below Hd.out _)).setCell (by simp) _).setCell (by simp) _).setCell (by simp; omega) _
end Go.Proofs.Ytlkajmdcffemeaa
