/- The walks of marker.blocks and marker.locate. -/
import Derived.Test.YtlkajmdcffemeaaBlk1
import Derived.Test.YtlkajmdcffemeaaInts
import Derived.Maps.AppendAt
namespace Go.Proofs.Ytlkajmdcffemeaa
open Go.RowKit Go.Shelf
attribute [local go_sem] Oper.semAt_some

set_option maxHeartbeats 1000000 in
theorem blocks_any (b : Nat) (m s : ByteArray) (w : World) :
    Calls Try.prog 53 #[.int .i64 (b : Int), .string m, .string s] w fun e w' => e = .returned (.func (.func 72) #[] #[.pointer (some ⟨w.heap.size + 1 + 1, 0, none⟩), .pointer (some ⟨w.heap.size, 0, none⟩), .pointer (some ⟨w.heap.size + 1, 0, none⟩)]) ∧ w' = ((w.alloc (.cells #[.int .i64 (b : Int)] 3)).alloc (.cells #[.string m] 9)).alloc (.cells #[.string s] 9) := by
  go_enter Try.func53, Try.ntmps53
  go_wp2
  go_ret
  exact ⟨rfl, rfl⟩

theorem blks_len (b : Nat) (m : ByteArray) (hm : 0 < m.size) : ∀ f w, (blks b m f w).length ≤ f
  | 0, w => by simp [blks]
  | f + 1, w => by
    simp only [blks]
    split
    · simp
    · split
      · simp
      · have := blks_len b m hm f (w.extract (((b : Int) + shiftB b m w).toNat + m.size) w.size)
        simp only [List.length_cons]; omega
theorem blksW_len (b : Nat) (m w : ByteArray) (hm : 0 < m.size) : (blksW b m w).length ≤ w.size := blks_len b m hm _ _
/-- What marker.locate gives. -/
def RetLoc (L : List (ByteArray × Int)) (w : World) (e : Ending) (w' : World) : Prop :=
  ∃ v, e = .returned (.tuple #[v, .bool (okB L)]) ∧ (okB L = false → v = .slice none 0 0) ∧ OwnInts w' w.heap.size v (if okB L then L.map (·.2) else []) ∧ Below w.heap.size w w'

theorem boxed_turn {W W' : World} {row : Option Nat} {B u Bw : Nat} {t : TypeId} {v : Value} (h : Boxed W u t v) (hg : W.grownBy W' row) (hr : ∀ r, row = some r → TurnT B (TBk Bw) r W) (hne : u ≠ Bw) : Boxed W' u t v := by
  refine h.kept hg fun e => ?_
  rcases hr u e.symm with hT | ⟨_, o, ho, hc⟩
  · exact hne hT
  · rw [show W.heap[u]? = _ from h] at ho; cases ho; cases hc
theorem owns_turn {W W' : World} {row : Option Nat} {B Bw base size n : Nat} {e : TypeId} {v : Value} {xs : List Value} (h : W.ownsRow base e size v n xs) (hg : W.grownBy W' row) (hr : ∀ r, row = some r → TurnT B (TBk Bw) r W) (hb : Bw < base) : W'.ownsRow base e size v n xs := by
  refine h.kept hg ?_
  rcases h.2 with ⟨rfl, _⟩ | ⟨g, cap, cur, rfl, hgb, hgh, _⟩
  · exact .inl rfl
  · refine .inr fun e' => ?_
    have e2 : row = some g := by simpa [Value.ownBlock] using e'.symm
    rcases hr g e2 with hT | ⟨_, o, ho, hc⟩
    · have : g = Bw := hT
      omega
    · rw [hgh] at ho; cases ho; cases hc
theorem below_turn {w W W' : World} {row : Option Nat} {B C Bw : Nat} (h : Below C w W) (hC : C ≤ w.heap.size) (hg : W.grownBy W' row) (hr : ∀ r, row = some r → TurnT B (TBk Bw) r W) (hb : C ≤ Bw) (hB : C ≤ B) : Below C w W' := by
  refine h.grown hg (Nat.le_trans hC h.size) fun k e => ?_
  rcases hr k e with hT | ⟨hk, _⟩
  · have : k = Bw := hT
    omega
  · omega
theorem KpBk.refl_ (Bw Bb Bm : Nat) (W : World) : KpBk Bw Bb Bm W W := ⟨Nat.le_refl _, rfl, rfl, rfl⟩
theorem KpBk.trans {Bw Bb Bm : Nat} {A B C : World} (h : KpBk Bw Bb Bm A B) (k : KpBk Bw Bb Bm B C) : KpBk Bw Bb Bm A C := ⟨Nat.le_trans h.1 k.1, k.2.1.trans h.2.1, k.2.2.1.trans h.2.2.1, k.2.2.2.trans h.2.2.2⟩
theorem KpBk.put {Bw Bb Bm : Nat} {W : World} {l : Nat} (o' : Obj) (h1 : Bw < l) (h2 : Bb < l) (h3 : Bm < l) : KpBk Bw Bb Bm W (W.putObj l o') :=
  ⟨by simp, World.putObj_heap_other (by omega), World.putObj_heap_other (by omega), World.putObj_heap_other (by omega)⟩
theorem KpBk.of_below {Bw Bb Bm B : Nat} {W W' : World} (h : Below B W W') (h1 : Bw < B) (h2 : Bb < B) (h3 : Bm < B) : KpBk Bw Bb Bm W W' := ⟨h.size, h.block _ h1, h.block _ h2, h.block _ h3⟩
theorem KpBk.set {Bw Bb Bm u : Nat} {W : World} (o : Nat) (v : Value) (h1 : Bw ≠ u) (h2 : Bb ≠ u) (h3 : Bm ≠ u) : KpBk Bw Bb Bm W (W.setCell ⟨u, o, none⟩ v) :=
  ⟨by simp, Below.heap_setCell _ _ _ _ (by simpa using h1), Below.heap_setCell _ _ _ _ (by simpa using h2), Below.heap_setCell _ _ _ _ (by simpa using h3)⟩

theorem wpListIn_append_int {F : Fence} {n : Nat} {ops : Array Oper} {rest : List Oper} {o : Oper} {a : Act} {Q : Exit → Act → World → Prop} {w : World} (hgd : o.guard = none) (s x : Operand)
    (ho : o.op = .call { callee := .builtin .append, args := #[s, x], argTypes := #[25, 25] })
    (base : Nat) (v : Value) (xs : List Int) (hs : a.eval s = v) (hown : OwnInts w base v xs) (g c : Nat) (y : Int) (hx : a.eval x = .slice (some ⟨g, 0, none⟩) 1 c)
    (hc : w.cell? ⟨g, 0, none⟩ = some (.int .i64 y)) (hn : xs.length < 1000000000000) (hbase : base ≤ w.heap.size)
    (h : ∀ v' w', OwnInts w' base v' (xs ++ [y]) → w.grownBy w' v.ownBlock → wpListIn F n Try.prog ops Q rest (a.put o.dst v') w') : wpListIn F n Try.prog ops Q (o :: rest) a w := by
  obtain ⟨i0, hi, hz0, hz1, hz2⟩ := info_parts intInfo
  refine wpListIn_append_own _ hgd s x _ ho base 3 i0 (.int .i64 0) 1 8 Try.underlying25 hi hz0 hz1 hz2 rfl (by decide) v xs.length (xs.map (Value.int .i64)) hs hown ⟨g, 0, none⟩ 1 c [.int .i64 y] hx rfl ?_ ?_ ?_ ?_ hbase ?_
  · intro j u hj
    match j, hj with
    | 0, hj => simp at hj; subst hj; simpa [Addr.add] using hc
  · intro u hu; simp at hu; subst hu; rfl
  · unfold maxLen; omega
  · omega
  · intro v' w' h2 h3 _
    exact h v' w' (by unfold OwnInts; simpa using h2) h3

/-- 'out = append(out, ..)' for a variable in a box that lies below the rows of the loop's own. -/
theorem app_box {X X1 : World} {B0 u : Nat} {t e : TypeId} {size : Nat} {v v' : Value} {k m : Nat} {xs ys : List Value} {tmp : Obj} (hv : Boxed X u t v) (hte : t ≠ e) (hrow : X.ownsRow B0 e size v k xs) (hB0 : B0 ≤ X.heap.size)
    (hown' : X1.ownsRow B0 e size v' m ys) (hgrow : (X.alloc tmp).grownBy X1 v.ownBlock) :
    Boxed X1 u t v ∧ Boxed (X1.setCell ⟨u, 0, none⟩ v') u t v' ∧ (X1.setCell ⟨u, 0, none⟩ v').ownsRow B0 e size v' m ys ∧ KeepsOthers X (X1.setCell ⟨u, 0, none⟩ v') ∧ Below B0 X X1 := by
  have hv1 : Boxed X1 u t v := (hv.alloc tmp).kept hgrow (hv.not_row hte hrow)
  refine ⟨hv1, hv1.set v', hown'.kept (grownBy_setCell' X1 u v') (.inr (hv1.not_row hte hown').symm), ?_, ?_⟩
  · refine ((KeepsOthers.alloc X tmp).trans (KeepsOthers.of_grownBy hgrow fun j o ej hj => ?_)).trans (KeepsOthers.setCell _ _ _)
    rcases (hrow.alloc tmp).2 with ⟨rfl, _⟩ | ⟨g, cap, cur, rfl, _, hgb, _⟩
    · simp [Value.ownBlock] at ej
    · obtain rfl : g = j := by simpa [Value.ownBlock] using ej
      rw [hgb] at hj; cases hj; rfl
  · exact ((Below.refl B0 X).alloc hB0 tmp).grown hgrow (by simp; omega) fun j ej => (hrow.lt j ej).1

/-- Between two rounds of locate. -/
def ILoc (w : World) (B0 : Nat) (pre : List (ByteArray × Int)) (W : World) : Prop :=
  (∃ v, Boxed W (w.heap.size + 1 + 1) 25 v ∧ OwnInts W B0 v (pre.map (·.2))) ∧ Boxed W w.heap.size 25 (.slice none 0 0) ∧ Boxed W (w.heap.size + 1) 4 (.bool false) ∧ (∀ x ∈ pre, x.2 ≠ 2) ∧ Below w.heap.size w W ∧ B0 ≤ W.heap.size
/-- A round has found a block that does not fit. -/
def XLocP (w : World) (L : List (ByteArray × Int)) (c : Code) (_ : List (ByteArray × Int)) (W : World) : Prop :=
  c = .ret ∧ okB L = false ∧ Boxed W w.heap.size 25 (.slice none 0 0) ∧ Boxed W (w.heap.size + 1) 4 (.bool false) ∧ Below w.heap.size w W
theorem ILoc.abides {w : World} {B0 Bw B : Nat} (h1 : w.heap.size + 1 + 1 < Bw) (h2 : Bw < B0) (h3 : w.heap.size ≤ B) : AbT (TurnT B (TBk Bw)) (ILoc w B0) := by
  rintro pre W W' row ⟨⟨v, hv, ho⟩, ha, hb, hx, hw, hz⟩ hg hr
  exact ⟨⟨v, boxed_turn hv hg hr (by omega), owns_turn ho hg hr h2⟩, boxed_turn ha hg hr (by omega), boxed_turn hb hg hr (by omega), hx, below_turn hw (Nat.le_refl _) hg hr (by omega) h3, Nat.le_trans hz hg.size⟩
theorem XLocP.abides {w : World} {L : List (ByteArray × Int)} {Bw B : Nat} (h1 : w.heap.size + 1 + 1 < Bw) (h3 : w.heap.size ≤ B) (c : Code) : AbT (TurnT B (TBk Bw)) (XLocP w L c) := by
  rintro pre W W' row ⟨rfl, hL, ha, hb, hw⟩ hg hr
  exact ⟨rfl, hL, boxed_turn ha hg hr (by omega), boxed_turn hb hg hr (by omega), below_turn hw (Nat.le_refl _) hg hr (by omega) h3⟩

set_option maxRecDepth 100000 in
set_option maxHeartbeats 4000000 in
theorem locate_any (b : Nat) (m s : ByteArray) (hb1 : 1 ≤ b) (hb2 : b ≤ 100000) (hm : 0 < m.size) (hm2 : m.size ≤ 100000) (hs : s.size ≤ 1000000000) (w : World) :
    Calls Try.prog 41 #[.int .i64 (b : Int), .string m, .string s] w (RetLoc (blksW b m s) w) := by
  have Hlen := Lib.hid (blksW_len b m s hm)
  refine calls_marks Try.func41 rfl ?_
  simp only [Try.ntmps41, List.size_toArray, List.length_cons, List.length_nil, Nat.reduceAdd, Nat.reduceSub, Array.replicate_succ, Array.replicate_zero, List.push_toArray, List.append_toArray, List.nil_append, List.cons_append]
  go_wp2_with (go_at_call 53; go_fit (blocks_any b m s _); rintro e w1 ⟨rfl, hw1⟩; have Hw1 := Lib.hid hw1; clear hw1)
  have hs1 : w1.heap.size = w.heap.size + 6 := by rw [Hw1.out]; simp
  have hbw : Boxed w1 (w.heap.size + 1 + 1 + 1 + 1 + 1) 9 (.string s) := by
    rw [Hw1.out]
    have := Boxed.new (((((w.alloc (.cells #[.slice none 0 0] 25)).alloc (.cells #[.bool false] 4)).alloc (.cells #[.slice none 0 0] 25)).alloc (.cells #[.int .i64 (b : Int)] 3)).alloc (.cells #[.string m] 9)) 9 (.string s)
    simpa using this
  have hbm : Boxed w1 (w.heap.size + 1 + 1 + 1 + 1) 9 (.string m) := by
    rw [Hw1.out]
    have := (Boxed.new ((((w.alloc (.cells #[.slice none 0 0] 25)).alloc (.cells #[.bool false] 4)).alloc (.cells #[.slice none 0 0] 25)).alloc (.cells #[.int .i64 (b : Int)] 3)) 9 (.string m)).alloc (.cells #[.string s] 9)
    simpa using this
  have hbb : Boxed w1 (w.heap.size + 1 + 1 + 1) 3 (.int .i64 (b : Int)) := by
    rw [Hw1.out]
    have := ((Boxed.new (((w.alloc (.cells #[.slice none 0 0] 25)).alloc (.cells #[.bool false] 4)).alloc (.cells #[.slice none 0 0] 25)) 3 (.int .i64 (b : Int))).alloc (.cells #[.string m] 9)).alloc (.cells #[.string s] 9)
    simpa using this
  have hbo : Boxed w1 (w.heap.size + 1 + 1) 25 (.slice none 0 0) := by
    rw [Hw1.out]
    have := (((Boxed.new ((w.alloc (.cells #[.slice none 0 0] 25)).alloc (.cells #[.bool false] 4)) 25 (.slice none 0 0)).alloc (.cells #[.int .i64 (b : Int)] 3)).alloc (.cells #[.string m] 9)).alloc (.cells #[.string s] 9)
    simpa using this
  have hb7 : Boxed w1 (w.heap.size + 1) 4 (.bool false) := by
    rw [Hw1.out]
    have := ((((Boxed.new (w.alloc (.cells #[.slice none 0 0] 25)) 4 (.bool false)).alloc (.cells #[.slice none 0 0] 25)).alloc (.cells #[.int .i64 (b : Int)] 3)).alloc (.cells #[.string m] 9)).alloc (.cells #[.string s] 9)
    simpa using this
  have hb6 : Boxed w1 w.heap.size 25 (.slice none 0 0) := by
    rw [Hw1.out]
    exact (((((Boxed.new w 25 (.slice none 0 0)).alloc _).alloc _).alloc _).alloc _).alloc _
  have hw10 : Below w.heap.size w w1 := by
    rw [Hw1.out]
    exact ((((((Below.refl _ _).alloc (Nat.le_refl _) _).alloc (by simp) _).alloc (by simp; omega) _).alloc (by simp; omega) _).alloc (by simp; omega) _).alloc (by simp; omega) _
  clear Hw1
  refine rangeW (gf := 72) (lb := #[.pointer (some ⟨w.heap.size + 1 + 1 + 1 + 1 + 1, 0, none⟩), .pointer (some ⟨w.heap.size + 1 + 1 + 1, 0, none⟩), .pointer (some ⟨w.heap.size + 1 + 1 + 1 + 1, 0, none⟩)]) rfl (enters_of Try.func72 (by kernel_rfl) rfl)
    (encs := encB) (G := GBk (blksW b m s)) (S := fun xs => xs = blksW b m s) (T := TBk (w.heap.size + 1 + 1 + 1 + 1 + 1)) (Kp := KpBk (w.heap.size + 1 + 1 + 1 + 1 + 1) (w.heap.size + 1 + 1 + 1) (w.heap.size + 1 + 1 + 1 + 1))
    (Pre := fun X => Boxed X (w.heap.size + 1 + 1 + 1 + 1 + 1) 9 (.string s) ∧ Boxed X (w.heap.size + 1 + 1 + 1) 3 (.int .i64 (b : Int)) ∧ Boxed X (w.heap.size + 1 + 1 + 1 + 1) 9 (.string m))
    (fun l J Jx X hX hJ _ hY h0 => blocks1_in l _ _ _ b m s J Jx hJ hY X hX.1 hX.2.1 hX.2.2 (by omega) (by omega) hb1 hb2 hm hm2 hs h0)
    (by rintro r X rfl; omega) (fun h k => h.trans k) (fun X l o o' hl ho hc => KpBk.put o' (by omega) (by omega) (by omega))
    (fun X hX => ⟨(hX.block _ hbw.lt).trans hbw, (hX.block _ hbb.lt).trans hbb, (hX.block _ hbm.lt).trans hbm⟩) (fun _ => rfl)
    (fun x pre X X' row h hg hr => h)
    (ILoc w w1.heap.size) (XLocP w (blksW b m s)) (ILoc.abides (by omega) (by omega) (by omega)) (XLocP.abides (by omega) (by omega))
    ⟨⟨_, hbo, OwnInts.nil _ _⟩, hb6, hb7, by simp, hw10, Nat.le_refl _⟩
    (fun z => { tmps := #[.int .i64 (b : Int), .string m, .string s, undef, undef, undef, .pointer (some ⟨w.heap.size, 0, none⟩), .pointer (some ⟨w.heap.size + 1, 0, none⟩), .pointer (some ⟨w.heap.size + 1 + 1, 0, none⟩), undef, .int .i64 z.2, .int .i64 (b : Int), .string m, .string s, .func (.func 72) #[] #[.pointer (some ⟨w.heap.size + 1 + 1 + 1 + 1 + 1, 0, none⟩), .pointer (some ⟨w.heap.size + 1 + 1 + 1, 0, none⟩), .pointer (some ⟨w.heap.size + 1 + 1 + 1 + 1, 0, none⟩)], .string z.1, .int .i64 z.2, undef, undef, undef, undef, undef, undef, undef], defers := [] }) ?assign ?body ?done ?stop
  case assign =>
    intro l z X K hK
    dsimp only [encB]
    gi_wp2
    exact hK
  case body =>
    rintro l pre z X ⟨⟨v, hv, ho⟩, h6, h7, hne, hb, hX2⟩ hgz
    have hvc := hv.cell
    have hvf := hv.frozen
    have h6c := h6.cell
    have h6f := h6.frozen
    have h7c := h7.cell
    have h7f := h7.frozen
    by_cases hz : z.2 = 2
    · have hzb : (z.2 == 2) = true := by rw [hz]; rfl
      have Hz := Lib.hid hz
      clear hz
      gi_wp2
      refine ⟨((KeepsOthers.setCell _ _ _).trans (KeepsOthers.setCell _ _ _)).from _, rfl, ?_, ?_, ?_, ?_⟩
      · obtain ⟨rest, he⟩ := hgz
        rw [he]; simp [okB, Hz.out]
      · exact (h6.set _).kept (grownBy_setCell' _ _ _) (by simp)
      · exact (h7.kept (grownBy_setCell' _ _ _) (by simp)).set _
      · exact (hb.setCell (by simp) _).setCell (by simp) _
    · have hzb : (z.2 == 2) = false := by rw [beq_eq_false_iff_ne]; exact hz
      have Hz := Lib.hid hz
      have hpl : (pre.map (·.2)).length < 1000000000000 := by
        obtain ⟨rest, he⟩ := hgz
        have := Hlen.out
        rw [he] at this
        simp at this ⊢
        omega
      have hX := hb.size
      clear hz
      gi_wp2_with (gi_at_builtin; refine wpListIn_append_int rfl _ _ rfl w1.heap.size v (pre.map (·.2)) rfl (ho.alloc _) X.heap.size 1 z.2 rfl (cell_new0 _ _ _) hpl (by simp; omega) ?_; intro v' X1 hown' hgrow; obtain ⟨g', cap', rfl⟩ := ownsRow_succ (show X1.ownsRow w1.heap.size 3 1 v' (pre.length + 1) _ by simpa [OwnInts] using hown'); obtain ⟨a1, a2, a3, a4, a5⟩ := app_box hv (by decide) ho hX2 hown' hgrow; have a1c := a1.cell; have a1f := a1.frozen)
      refine ⟨a4.from _, (KpBk.of_below a5 (by omega) (by omega) (by omega)).trans (KpBk.set _ _ (by omega) (by omega) (by omega)), ⟨_, a2, by unfold OwnInts; simpa using a3⟩, ?_, ?_, ?_, ?_, ?_⟩
      · exact (show Boxed X1 w.heap.size 25 (.slice none 0 0) from (a5.block _ (by omega)).trans h6).kept (grownBy_setCell' _ _ _) (by simp; omega)
      · exact (show Boxed X1 (w.heap.size + 1) 4 (.bool false) from (a5.block _ (by omega)).trans h7).kept (grownBy_setCell' _ _ _) (by simp)
      · intro x hx
        rcases List.mem_append.1 hx with hx | hx
        · exact hne x hx
        · rw [List.mem_singleton.1 hx]; exact Hz.out
      · exact (hb.trans (a5.mono (by omega))).setCell (by simp; omega) _
      · have := a5.size; simp; omega
  case done =>
    rintro D xs X hD rfl ⟨⟨v, hv, ho⟩, h6, h7, hne, hb, hX2⟩ hK
    have Hok := Lib.hid (show okB (blksW b m s) = true by unfold okB; rw [List.all_eq_true]; intro x hx; simpa using hne x hx)
    obtain ⟨p, cap, rfl, _, _, _⟩ := ho.form
    have hvc := hv.cell
    have h6c := h6.cell
    have h6f := h6.frozen
    have h7c := h7.cell
    have h7f := h7.frozen
    have Ho := Lib.hid ho
    have HK := Lib.hid hK
    clear hne ho hK
    go_wp2
    have v0 := ((h6.set (.slice p (blksW b m s).length cap)).kept (grownBy_setCell' _ (w.heap.size + 1) (.bool true)) (by simp)).cell
    have v1 := ((h7.kept (grownBy_setCell' X w.heap.size (.slice p (blksW b m s).length cap)) (by simp)).set (.bool true)).cell
    have v2 : Below w.heap.size w ((X.setCell ⟨w.heap.size, 0, none⟩ (.slice p (blksW b m s).length cap)).setCell ⟨w.heap.size + 1, 0, none⟩ (.bool true)) := (hb.setCell (by simp) _).setCell (by simp) _
    have v3 : OwnInts ((X.setCell ⟨w.heap.size, 0, none⟩ (.slice p (blksW b m s).length cap)).setCell ⟨w.heap.size + 1, 0, none⟩ (.bool true)) w.heap.size (.slice p (blksW b m s).length cap) ((blksW b m s).map (·.2)) := by
      have h := Ho.out
      rw [List.length_map] at h
      have hnr : ∀ u, u < w1.heap.size → (some u) ≠ Value.ownBlock (.slice p (blksW b m s).length cap) := fun u hu e => by
        have := (World.ownsRow.lt h u e.symm).1; omega
      refine OwnInts.base (World.ownsRow.kept (World.ownsRow.kept h (grownBy_setCell' _ _ _) (.inr ?_)) (grownBy_setCell' _ _ _) (.inr ?_)) (by omega)
      · exact (hnr _ (by omega)).symm
      · exact (hnr _ (by omega)).symm
    have hK4 : ((X.setCell ⟨w.heap.size, 0, none⟩ (.slice p (blksW b m s).length cap)).setCell ⟨w.heap.size + 1, 0, none⟩ (.bool true)).heap[D]? = some (.deferred (some [])) :=
      (Below.heap_setCell _ _ _ D (by simp; omega)).trans ((Below.heap_setCell _ _ _ D (by simp; omega)).trans HK.out)
    generalize ((X.setCell ⟨w.heap.size, 0, none⟩ (.slice p (blksW b m s).length cap)).setCell ⟨w.heap.size + 1, 0, none⟩ (.bool true)) = V at *
    refine ⟨by simp, .inl ⟨_, _, rfl, run_takeDeferred hK4, ?_⟩⟩
    have f0 := (cell_of_block (World.putObj_heap_other (w := V) (o := .deferred none) (show w.heap.size ≠ D by omega)) 0).trans v0
    have f1 := (cell_of_block (World.putObj_heap_other (w := V) (o := .deferred none) (show w.heap.size + 1 ≠ D by omega)) 0).trans v1
    refine ⟨.tuple #[.slice p (blksW b m s).length cap, .bool true], ?_, .slice p (blksW b m s).length cap, ?_, ?_, ?_, ?_⟩
    · simp [results, Try.results41, go_sem, f0, f1]
    · rw [Hok.out]
    · rw [Hok.out]; intro h; cases h
    · rw [Hok.out, if_pos rfl]; exact ownsRow_putObj v3 _ hK4 rfl
    · exact v2.trans (belowK_b (w := w) (Nat.le_refl _) _ D _ _ (by omega) hK4 rfl rfl)
  case stop =>
    rintro D c pre X hD ⟨rfl, hL, h6, h7, hb⟩ hK
    have h6c := h6.cell
    have h7c := h7.cell
    have HL := Lib.hid hL
    have HK := Lib.hid hK
    clear hL hK
    go_wp2
    refine ⟨by simp, .inl ⟨_, _, rfl, run_takeDeferred HK.out, ?_⟩⟩
    have f0 := (cell_of_block (World.putObj_heap_other (w := X) (o := .deferred none) (show w.heap.size ≠ D by omega)) 0).trans h6c
    have f1 := (cell_of_block (World.putObj_heap_other (w := X) (o := .deferred none) (show w.heap.size + 1 ≠ D by omega)) 0).trans h7c
    refine ⟨.tuple #[.slice none 0 0, .bool false], ?_, .slice none 0 0, ?_, ?_, ?_, ?_⟩
    · simp [results, Try.results41, go_sem, f0, f1]
    · rw [HL.out]
    · exact fun _ => rfl
    · rw [HL.out]; exact OwnInts.nil _ _
    · exact hb.trans (belowK_b (w := w) (Nat.le_refl _) _ D _ _ (by omega) HK.out rfl rfl)
end Go.Proofs.Ytlkajmdcffemeaa
