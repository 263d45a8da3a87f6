/- The walk of the closure of matrix.product. -/
import Derived.Test.YtlaoijfphkhchaaB9
import Derived.Deep.RegionHeld
namespace Go.Proofs.Ytlaoijfphkhchaa
open Go.RowKit Go.Shelf
theorem wide_fn (f : FuncId) : Fence.wide.fn f = True := rfl
attribute [local go_sem] Oper.semAt_some wide_fn

def dotN (f : Nat → Int) : Nat → Int
  | 0 => 0
  | j + 1 => dotN f j + f j
/-- Between two rounds of the sum: the number so far lies in the box B7. -/
def IPrd (w : World) (B1 : Nat) (i : Nat) (f : Nat → Int) (G : Nat → Nat → Int) (n k : Nat) (pre : List (Nat × Int)) (W : World) : Prop :=
  ∃ j, j ≤ n ∧ pre = colL G k j ∧ BoxAt W (w.heap.size + 1 + 1) (.bool (canon (dotN f j)).neg) (.string (canon (dotN f j)).mag) ∧ BoxAt W (w.heap.size + 1) (.bool false) (.string ⟨#[]⟩) ∧ Boxed W w.heap.size 3 (.int .i64 (i : Int)) ∧ Below w.heap.size w W ∧ B1 ≤ W.heap.size
theorem boxAt_grown {W W' : World} {row : Option Nat} {g : Nat} {a b : Value} (h : BoxAt W g a b) (hg : W.grownBy W' row) (hne : some g ≠ row) : BoxAt W' g a b := by
  obtain ⟨h1, h2, h3, h4, h5⟩ := h
  have hb := hg.block g h5 hne
  exact ⟨(cell_of_block hb 0).trans h1, (cell_of_block hb 1).trans h2, (frozen_of_block hb 0).trans h3, (frozen_of_block hb 1).trans h4, Nat.lt_of_lt_of_le h5 hg.size⟩
theorem turn_ge {B r : Nat} {W : World} (h : TurnT B (fun _ _ => False) r W) : B ≤ r := by
  rcases h with h | h
  · exact h.elim
  · exact h.1
theorem IPrd.abides {w : World} {B1 i n k : Nat} {f : Nat → Int} {G : Nat → Nat → Int} (hB : w.heap.size + 5 ≤ B1) : AbT (TurnT B1 (fun _ _ => False)) (IPrd w B1 i f G n k) := by
  rintro pre W W' row ⟨j, hj, hp, h7, h6, h4, hb, hs⟩ hg hr
  have hne : ∀ u, u < B1 → some u ≠ row := fun u hu e => by
    have := turn_ge (hr u e.symm); omega
  exact ⟨j, hj, hp, boxAt_grown h7 hg (hne _ (by omega)), boxAt_grown h6 hg (hne _ (by omega)), h4.kept hg (hne _ (by omega)), hb.grown hg (by omega) (fun u e => by have := turn_ge (hr u e); omega), Nat.le_trans hs hg.size⟩

theorem isCells_of_cell {W : World} {a : Addr} {v : Value} (hc : W.cell? a = some v) (o : Obj) (ho : W.heap[a.block]? = some o) : o.isCells = true := by
  unfold World.cell? at hc
  rw [ho] at hc
  cases o <;> simp_all [Obj.isCells]
theorem cell_turn0 {W W' : World} {row : Option Nat} {B : Nat} {a : Addr} {v : Value} (h : W.cell? a = some v) (hg : W.grownBy W' row) (hr : ∀ r, row = some r → TurnT B (fun _ _ => False) r W) : W'.heap[a.block]? = W.heap[a.block]? := by
  obtain ⟨o, ho⟩ : ∃ o, W.heap[a.block]? = some o := by
    unfold World.cell? at h
    cases e : W.heap[a.block]? with
    | none => simp [e] at h
    | some o => exact ⟨o, rfl⟩
  exact hg.block _ (Array.getElem?_eq_some_iff.1 ho).1 (fun e => by
    rcases hr _ e.symm with h0 | ⟨_, o2, ho2, hc2⟩
    · exact h0
    · rw [ho] at ho2; cases ho2
      rw [isCells_of_cell h o ho] at hc2; cases hc2)
theorem boxAt_turn {W W' : World} {row : Option Nat} {B g : Nat} {a b : Value} (h : BoxAt W g a b) (hg : W.grownBy W' row) (hr : ∀ r, row = some r → TurnT B (fun _ _ => False) r W) : BoxAt W' g a b := by
  obtain ⟨h1, h2, h3, h4, h5⟩ := h
  have hb := cell_turn0 h1 hg hr
  exact ⟨(cell_of_block hb 0).trans h1, (cell_of_block hb 1).trans h2, (frozen_of_block hb 0).trans h3, (frozen_of_block hb 1).trans h4, Nat.lt_of_lt_of_le h5 hg.size⟩
theorem KpCol.put {B Bm Bk : Nat} {W : World} {l : Nat} {o' : Obj} (h0 : B ≤ l) (h1 : Bm ≠ l) (h2 : Bk ≠ l) : KpCol B Bm Bk W (W.putObj l o') :=
  ⟨⟨rfl, rfl, rfl, by simp, fun b hb => World.putObj_heap_other (by omega)⟩, World.putObj_heap_other h1, World.putObj_heap_other h2⟩
theorem boxp_set {w : World} {g : Nat} {a b : Value} (h : BoxAt w g a b) (x y : Value) : BoxAt ((w.setCell ⟨g, 0, none⟩ x).setCell ⟨g, 1, none⟩ y) g x y := by
  obtain ⟨h0, h1, h2, h3, h4⟩ := h
  refine ⟨?_, ?_, ?_, ?_, ?_⟩ <;> simp [go_sem, h0, h1, h2, h3, h4]
theorem boxp_far {w : World} {g : Nat} {a b : Value} (h : BoxAt w g a b) {p : Addr} (hp : g ≠ p.block) (v : Value) : BoxAt (w.setCell p v) g a b := by
  obtain ⟨h1, h2, h3, h4, h5⟩ := h
  have hb := Below.heap_setCell w p v g hp
  exact ⟨(cell_of_block hb 0).trans h1, (cell_of_block hb 1).trans h2, (frozen_of_block hb 0).trans h3, (frozen_of_block hb 1).trans h4, by simpa using h5⟩
theorem keeps_of_below {B : Nat} {X Z : World} (h : Below X.heap.size X Z) : KeepsFrom B X Z := ⟨h.size, fun k _ _ hk _ => (h.block k (Array.getElem?_eq_some_iff.1 hk).1).trans hk⟩
theorem prd_next {w X Z : World} {B1 i n k j : Nat} {f : Nat → Int} {G : Nat → Nat → Int} {a : Act} (hb : Below X.heap.size X Z) (hj : j < n) (h7 : BoxAt X (w.heap.size + 1 + 1) (.bool (canon (dotN f j)).neg) (.string (canon (dotN f j)).mag)) (h6 : BoxAt X (w.heap.size + 1) (.bool false) (.string ⟨#[]⟩)) (h4 : Boxed X w.heap.size 3 (.int .i64 (i : Int))) (hw : Below w.heap.size w X) (hs : B1 ≤ X.heap.size) (h5 : w.heap.size + 5 ≤ B1) :
    postT B1 (KpCol w.heap.size (w.heap.size + 1 + 1 + 1) (w.heap.size + 1 + 1 + 1 + 1)) (IPrd w B1 i f G n k) (fun _ _ _ => False) (colL G k j ++ [(j, G j k)]) X .normal a ((Z.setCell ⟨w.heap.size + 1 + 1, 0, none⟩ (.bool (canon (dotN f (j + 1))).neg)).setCell ⟨w.heap.size + 1 + 1, 1, none⟩ (.string (canon (dotN f (j + 1))).mag)) := by
  have hz := hb.size
  have hwz : Below w.heap.size w Z := hw.trans (hb.mono hw.size)
  have hxz : Below w.heap.size X Z := hb.mono hw.size
  refine ⟨(keeps_of_below hb).trans (((KeepsOthers.setCell _ _ _).from _).trans ((KeepsOthers.setCell _ _ _).from _)), ⟨(hxz.setCell (by simp; omega) _).setCell (by simp; omega) _, ?_, ?_⟩, j + 1, by omega, (colL_succ G k j).symm, boxp_set (h7.below hb h7.2.2.2.2) _ _, ?_, ?_, (hwz.setCell (by simp; omega) _).setCell (by simp; omega) _, by simp; omega⟩
  · rw [Below.heap_setCell _ _ _ _ (by simp), Below.heap_setCell _ _ _ _ (by simp)]
    exact hb.block _ (by omega)
  · rw [Below.heap_setCell _ _ _ _ (by simp; omega), Below.heap_setCell _ _ _ _ (by simp; omega)]
    exact hb.block _ (by omega)
  · exact boxp_far (boxp_far (h6.below hb h6.2.2.2.2) (by simp) _) (by simp) _
  · unfold Boxed
    rw [Below.heap_setCell _ _ _ _ (by simp; omega), Below.heap_setCell _ _ _ _ (by simp; omega)]
    exact (hb.block _ h4.lt).trans h4
theorem colL_inj {G : Nat → Nat → Int} {k a b : Nat} (h : colL G k a = colL G k b) : a = b := by
  have := congrArg List.length h
  simpa [colL] using this

set_option maxRecDepth 100000 in
set_option maxHeartbeats 8000000 in
theorem product1_any (r n c i k ga gb : Nat) (p q : Option Addr) (cp cq : Nat) (F G : Nat → Nat → Int) (hi : i < r) (hk : k < c) (hn : n ≤ 1000000) (w : World) (ha : w.cell? ⟨ga, 0, none⟩ = some (.slice p r cp)) (hb : w.cell? ⟨gb, 0, none⟩ = some (.slice q n cq))
    (hF : MatF w p r n F) (hG : MatF w q n c G) (hsF : Small r n F) (hsG : Small n c G) (hsD : ∀ j, j ≤ n → (canon (dotN (fun j => F i j * G j k) j)).mag.size ≤ 100000000) (hsP : ∀ j, j < n → (canon (F i j * G j k)).mag.size ≤ 100000000) :
    Calls Try.prog 122 #[.int .i64 (i : Int), .int .i64 (k : Int), .pointer (some ⟨gb, 0, none⟩), .pointer (some ⟨ga, 0, none⟩)] w (RetZ (canon (dotN (fun j => F i j * G j k) n)) w) := by
  have hgal : ga < w.heap.size := World.block_lt_of_cell? _ _ ha
  have hgbl : gb < w.heap.size := World.block_lt_of_cell? _ _ hb
  refine calls_marks Try.func122 rfl ?_
  simp only [Try.ntmps122, List.size_toArray, List.length_cons, List.length_nil, Nat.reduceAdd, Nat.reduceSub, Array.replicate_succ, Array.replicate_zero, List.push_toArray, List.append_toArray, List.nil_append, List.cons_append]
  have hb3 : (((w.alloc (.cells #[.int .i64 (i : Int)] 3)).alloc (.cells #[.bool false, .string ⟨#[]⟩] 28)).alloc (.cells #[.bool false, .string ⟨#[]⟩] 28)).cell? ⟨gb, 0, none⟩ = some (.slice q n cq) := by
    rw [← hb]
    exact ((((Below.refl w.heap.size w).alloc (Nat.le_refl _) _).alloc (by simp) _).alloc (by simp; omega) _).cell hgbl
  go_wp2_with (go_at_call 123; go_fit (column_any q n cq k _); rintro e w1 ⟨rfl, hw1⟩; have Hw1 := Lib.hid hw1; clear hw1)
  have hs1 : w1.heap.size = w.heap.size + 5 := by rw [Hw1.out]; simp
  have hbk : Boxed w1 (w.heap.size + 1 + 1 + 1 + 1) 3 (.int .i64 (k : Int)) := by
    rw [Hw1.out]
    have := Boxed.new ((((w.alloc (.cells #[.int .i64 (i : Int)] 3)).alloc (.cells #[.bool false, .string ⟨#[]⟩] 28)).alloc (.cells #[.bool false, .string ⟨#[]⟩] 28)).alloc (.cells #[.slice q n cq] 63)) 3 (.int .i64 (k : Int))
    simpa using this
  have hbm : Boxed w1 (w.heap.size + 1 + 1 + 1) 63 (.slice q n cq) := by
    rw [Hw1.out]
    have := (Boxed.new (((w.alloc (.cells #[.int .i64 (i : Int)] 3)).alloc (.cells #[.bool false, .string ⟨#[]⟩] 28)).alloc (.cells #[.bool false, .string ⟨#[]⟩] 28)) 63 (.slice q n cq)).alloc (.cells #[.int .i64 (k : Int)] 3)
    simpa using this
  have hb7 : BoxAt w1 (w.heap.size + 1 + 1) (.bool false) (.string ⟨#[]⟩) := by
    rw [Hw1.out]
    have h := BoxAt.new ((w.alloc (.cells #[.int .i64 (i : Int)] 3)).alloc (.cells #[.bool false, .string ⟨#[]⟩] 28)) (.bool false) (.string ⟨#[]⟩) 28
    have hl := h.2.2.2.2
    have h2 := (h.below ((Below.refl _ _).alloc (Nat.le_refl _) (.cells #[.slice q n cq] 63)) hl)
    have h3 := (h2.below ((Below.refl _ _).alloc (Nat.le_refl _) (.cells #[.int .i64 (k : Int)] 3)) h2.2.2.2.2)
    simpa using h3
  have hb6 : BoxAt w1 (w.heap.size + 1) (.bool false) (.string ⟨#[]⟩) := by
    rw [Hw1.out]
    have h := BoxAt.new (w.alloc (.cells #[.int .i64 (i : Int)] 3)) (.bool false) (.string ⟨#[]⟩) 28
    have h1 := (h.below ((Below.refl _ _).alloc (Nat.le_refl _) (.cells #[.bool false, .string ⟨#[]⟩] 28)) h.2.2.2.2)
    have h2 := (h1.below ((Below.refl _ _).alloc (Nat.le_refl _) (.cells #[.slice q n cq] 63)) h1.2.2.2.2)
    have h3 := (h2.below ((Below.refl _ _).alloc (Nat.le_refl _) (.cells #[.int .i64 (k : Int)] 3)) h2.2.2.2.2)
    simpa using h3
  have hb4 : Boxed w1 w.heap.size 3 (.int .i64 (i : Int)) := by
    rw [Hw1.out]
    exact ((((Boxed.new w 3 (.int .i64 (i : Int))).alloc _).alloc _).alloc _).alloc _
  have hw10 : Below w.heap.size w w1 := by
    rw [Hw1.out]
    exact (((((Below.refl _ _).alloc (Nat.le_refl _) _).alloc (by simp) _).alloc (by simp; omega) _).alloc (by simp; omega) _).alloc (by simp; omega) _
  clear Hw1
  refine rangeW2 (gf := 131) (lb := #[.pointer (some ⟨w.heap.size + 1 + 1 + 1, 0, none⟩), .pointer (some ⟨w.heap.size + 1 + 1 + 1 + 1, 0, none⟩)]) rfl (enters_of Try.func131 (by kernel_rfl) rfl)
    (encs := encC) (G := GCol G n k) (S := fun xs => xs = colL G k n) (T := fun _ _ => False) (Kp := KpCol w.heap.size (w.heap.size + 1 + 1 + 1) (w.heap.size + 1 + 1 + 1 + 1))
    (Pre := fun X => Boxed X (w.heap.size + 1 + 1 + 1) 63 (.slice q n cq) ∧ Boxed X (w.heap.size + 1 + 1 + 1 + 1) 3 (.int .i64 (k : Int)) ∧ Below w.heap.size w X)
    (fun l J Jx X hX hJ _ hY h0 => col1_in l w.heap.size _ _ n c k q cq G J Jx hJ hY w X (Nat.le_refl _) hX.2.2 (hX.2.2.size) hX.1 hX.2.1 hG hk hn h0)
    (by rintro r X h; exact h.elim) (fun h k => h.trans k) (fun X l o o' hl _ _ => KpCol.put (by omega) (by omega) (by omega))
    (fun X hX => ⟨(hX.block _ hbm.lt).trans hbm, (hX.block _ hbk.lt).trans hbk, hw10.trans (hX.mono hw10.size)⟩) (fun _ => rfl)
    (IPrd w w1.heap.size i (fun j => F i j * G j k) G n k) (fun _ _ _ => False) (IPrd.abides (by omega)) (fun _ _ _ _ _ h => h.elim)
    ⟨0, by omega, rfl, hb7, hb6, hb4, hw10, Nat.le_refl _⟩
    (fun z W => IPrd w w1.heap.size i (fun j => F i j * G j k) G n k z.1 W ∧ GCol G n k z.1 z.2.1 W ∧ ∃ u, w1.heap.size ≤ u ∧ BoxAt W u (.bool (canon z.2.1.2).neg) (.string (canon z.2.1.2).mag) ∧ z.2.2 = { tmps := #[.int .i64 (i : Int), .int .i64 (k : Int), .pointer (some ⟨gb, 0, none⟩), .pointer (some ⟨ga, 0, none⟩), .pointer (some ⟨w.heap.size, 0, none⟩), undef, .pointer (some ⟨w.heap.size + 1, 0, none⟩), .pointer (some ⟨w.heap.size + 1 + 1, 0, none⟩), .int .i64 (z.2.1.1 : Int), .pointer (some ⟨u, 0, none⟩), .slice q n cq, .int .i64 (k : Int), (.func (.func 131) #[] #[.pointer (some ⟨w.heap.size + 1 + 1 + 1, 0, none⟩), .pointer (some ⟨w.heap.size + 1 + 1 + 1 + 1, 0, none⟩)]), .int .i64 (z.2.1.1 : Int), .agg #[.bool (canon z.2.1.2).neg, .string (canon z.2.1.2).mag], undef, undef, undef, undef, undef, undef, undef, undef, undef, undef, undef, undef], defers := [] })
    ?hM ?assign ?body ?done ?stop
  case hM =>
    rintro ⟨pre, z, a⟩ W W' row ⟨h1, h2, u, h3, h4, h5⟩ hg hr
    exact ⟨IPrd.abides (by omega) _ _ _ _ h1 hg hr, h2, u, h3, boxAt_turn h4 hg (fun r e => hr r e), h5⟩
  case assign =>
    rintro l pre ⟨j, x⟩ X K hI hz hK
    dsimp only [encC] at hK ⊢
    obtain ⟨Z, hZ⟩ : ∃ Z, canon x = Z := ⟨_, rfl⟩
    rw [hZ] at hK ⊢
    gi_wp2
    obtain ⟨j', hj', hp, h7, h6, h4, hb, hs⟩ := hI
    have hI2 : IPrd w w1.heap.size i (fun j => F i j * G j k) G n k pre X := ⟨j', hj', hp, h7, h6, h4, hb, hs⟩
    refine hK _ _ ⟨(IPrd.abides (by omega)).alloc _ hI2, hz, X.heap.size, hs, BoxAt.new X _ _ _, rfl⟩ ((KeepsOthers.alloc _ _).from _) ⟨(Below.refl _ _).alloc (by omega) _, Below.heap_alloc _ _ _ (by omega), Below.heap_alloc _ _ _ (by omega)⟩
  case body =>
    rintro l pre ⟨jj, x⟩ a X ⟨⟨j', hj', hp, h7, h6, h4, hb, hs⟩, ⟨j, hj, hp2, hx⟩, u, hu, hbu, hae⟩
    dsimp only at hp hp2 hae hbu hx
    obtain ⟨hx1, hx2⟩ := Prod.mk.inj hx
    subst hx1
    have hje : jj = j' := colL_inj (hp2.symm.trans hp)
    subst hje
    subst hx2
    subst hae
    subst hp2
    obtain ⟨fb, fo, rfl, hfb, H, hH, hR⟩ := hF.cells hi
    obtain ⟨ab, ao, hpe, hab, hac⟩ := (hR i hi).cells hj
    have a2 := hH i hi
    rw [hpe] at a2
    obtain ⟨a3, a4⟩ := hac jj hj
    have d0 := cell_below hb ha
    have d2 := cell_below hb a2
    have d3 := cell_below hb a3
    have d4 := cell_below hb a4
    have d5 := h4.cell
    obtain ⟨d6, d7, _, _, hul⟩ := hbu
    have i0 : (0 : Int) ≤ (i : Int) := by omega
    have i1 : (i : Int) < (r : Int) := by omega
    have j0 : (0 : Int) ≤ (jj : Int) := by omega
    have j1 : (jj : Int) < (n : Int) := by omega
    have HM := Lib.hid (fun W => mulc_any (F i jj) (G jj k) (hsF i jj hi hj) (hsG jj k hj hk) W)
    have HA := Lib.hid (fun W => addc_any (dotN (fun j => F i j * G j k) jj) (F i jj * G jj k) (hsD jj (by omega)) (hsP jj hj) W)
    rw [show dotN (fun j => F i j * G j k) jj + F i jj * G jj k = dotN (fun j => F i j * G j k) (jj + 1) from rfl] at HA
    have HN := Lib.hid (fun Z (a : Act) (h : Below X.heap.size X Z) => prd_next (k := k) (G := G) (a := a) h hj h7 h6 h4 hb hs (by omega))
    obtain ⟨XF, hXF⟩ : ∃ Z, canon (F i jj) = Z := ⟨_, rfl⟩
    obtain ⟨XG, hXG⟩ : ∃ Z, canon (G jj k) = Z := ⟨_, rfl⟩
    obtain ⟨XP, hXP⟩ : ∃ Z, canon (F i jj * G jj k) = Z := ⟨_, rfl⟩
    obtain ⟨XS, hXS⟩ : ∃ Z, canon (dotN (fun j => F i j * G j k) jj) = Z := ⟨_, rfl⟩
    obtain ⟨XT, hXT⟩ : ∃ Z, canon (dotN (fun j => F i j * G j k) (jj + 1)) = Z := ⟨_, rfl⟩
    rw [hXF] at HM d3 d4
    rw [hXG] at HM d6 d7 ⊢
    rw [hXP] at HM HA
    rw [hXS] at HA h7
    rw [hXT] at HA HN
    clear hXF hXG hXP hXS hXT
    have H7 := Lib.hid h7
    have hXw := hb.size
    have hgaX : ga < X.heap.size := by omega
    have hfbX : fb < X.heap.size := by omega
    have habX : ab < X.heap.size := by omega
    obtain ⟨SS, hSe⟩ : ∃ SS : World → Prop, SS = fun W => W.cell? ⟨ga, 0, none⟩ = some (.slice (some ⟨fb, fo, none⟩) r cp) ∧ W.cell? ⟨fb, fo + i, none⟩ = some (.slice (some ⟨ab, ao, none⟩) n (H i).2) ∧ W.cell? ⟨ab, ao + jj * 2, none⟩ = some (.bool XF.neg) ∧ W.cell? ⟨ab, ao + jj * 2 + 1, none⟩ = some (.string XF.mag) ∧ W.cell? ⟨w.heap.size, 0, none⟩ = some (.int .i64 (i : Int)) ∧ W.cell? ⟨u, 0, none⟩ = some (.bool XG.neg) ∧ W.cell? ⟨u, 1, none⟩ = some (.string XG.mag) := ⟨_, rfl⟩
    have HS : Hid (∀ W, Below X.heap.size X W → SS W) := Lib.hid (fun W hW => by rw [hSe]; exact ⟨cell_below hW d0, cell_below hW d2, cell_below hW d3, cell_below hW d4, cell_below hW d5, cell_below hW d6, cell_below hW d7⟩)
    have HS2 : Hid (∀ W v1 v2, SS W → SS ((W.setCell ⟨w.heap.size + 1 + 1, 0, none⟩ v1).setCell ⟨w.heap.size + 1 + 1, 1, none⟩ v2)) := Lib.hid (fun W v1 v2 hW => by
      rw [hSe] at hW ⊢
      obtain ⟨s1, s2, s3, s4, s5, s6, s7⟩ := hW
      refine ⟨?_, ?_, ?_, ?_, ?_, ?_, ?_⟩ <;> (rw [World.cell?_setCell_other _ _ _ _ (by intro hh; simp only [Addr.mk.injEq] at hh; omega), World.cell?_setCell_other _ _ _ _ (by intro hh; simp only [Addr.mk.injEq] at hh; omega)]; assumption))
    clear d0 d2 d3 d4 d5 d6 d7 hac hH hR hpe a2 a3 a4 h7 h6 h4 hsF hsG hsD hsP hF hG ha hb3 hb hp hb4 hb6 hb7 hbm hbk hw10 hx
    have hd : Below X.heap.size X X.drew := (Below.refl _ _).drew
    gi_wp2
    refine region_lift (by kernel_rfl) (by kernel_rfl) (by rintro ⟨_, _, h⟩; exact h) ?_
    refine wpAny_of_held (S := SS) _ _ _ _ ?_
    have hSS := HS.out _ hd
    refine wpAnyH_take (i := 1) (v := ?_) rfl (by kernel_rfl) (by kernel_rfl) (by kernel_rfl) (fun _ _ _ h => h) (Or.inl ⟨by rfl, ?_⟩) hSS ?_
    rotate_left 1
    next => intro w hSw; rw [hSe] at hSw; obtain ⟨s1, s2, s3, s4, s5, s6, s7⟩ := hSw; go_simp; try with_reducible rfl
    refine wpAnyH_take (i := 2) (v := ?_) rfl (by kernel_rfl) (by kernel_rfl) (by kernel_rfl) (fun _ _ _ h => h) (Or.inl ⟨by rfl, ?_⟩) hSS ?_
    rotate_left 1
    next => intro w hSw; rw [hSe] at hSw; obtain ⟨s1, s2, s3, s4, s5, s6, s7⟩ := hSw; go_simp; try with_reducible rfl
    refine wpAnyH_take (i := 3) (v := ?_) rfl (by kernel_rfl) (by kernel_rfl) (by kernel_rfl) (fun _ _ _ h => h) (Or.inl ⟨by rfl, ?_⟩) hSS ?_
    rotate_left 1
    next => intro w hSw; rw [hSe] at hSw; obtain ⟨s1, s2, s3, s4, s5, s6, s7⟩ := hSw; go_simp; try with_reducible rfl
    refine wpAnyH_take (i := 4) (v := ?_) rfl (by kernel_rfl) (by kernel_rfl) (by kernel_rfl) (fun _ _ _ h => h) (Or.inl ⟨by rfl, ?_⟩) hSS ?_
    rotate_left 1
    next => intro w hSw; rw [hSe] at hSw; obtain ⟨s1, s2, s3, s4, s5, s6, s7⟩ := hSw; go_simp; try with_reducible rfl
    refine wpAnyH_take (i := 5) (v := ?_) rfl (by kernel_rfl) (by kernel_rfl) (by kernel_rfl) (fun _ _ _ h => h) (Or.inl ⟨by rfl, ?_⟩) hSS ?_
    rotate_left 1
    next => intro w hSw; rw [hSe] at hSw; obtain ⟨s1, s2, s3, s4, s5, s6, s7⟩ := hSw; go_simp; try with_reducible rfl
    refine wpAnyH_take (i := 6) (v := ?_) rfl (by kernel_rfl) (by kernel_rfl) (by kernel_rfl) (fun _ _ _ h => h) (Or.inl ⟨by rfl, ?_⟩) hSS ?_
    rotate_left 1
    next => intro w hSw; rw [hSe] at hSw; obtain ⟨s1, s2, s3, s4, s5, s6, s7⟩ := hSw; go_simp; try with_reducible rfl
    refine wpAnyH_take (i := 7) (v := ?_) rfl (by kernel_rfl) (by kernel_rfl) (by kernel_rfl) (fun _ _ _ h => h) (Or.inl ⟨by rfl, ?_⟩) hSS ?_
    rotate_left 1
    next => intro w hSw; rw [hSe] at hSw; obtain ⟨s1, s2, s3, s4, s5, s6, s7⟩ := hSw; go_simp; try with_reducible rfl
    refine wpAnyH_take (i := 8) (v := ?_) rfl (by kernel_rfl) (by kernel_rfl) (by kernel_rfl) (fun _ _ _ h => h) (Or.inl ⟨by rfl, ?_⟩) hSS ?_
    rotate_left 1
    next => intro w hSw; rw [hSe] at hSw; obtain ⟨s1, s2, s3, s4, s5, s6, s7⟩ := hSw; go_simp; try with_reducible rfl
    simp only [Act.put, List.getElem_toArray, List.getElem_cons_zero, List.getElem_cons_succ, List.setIfInBounds_toArray, List.set_cons_zero, List.set_cons_succ]
    refine wpAnyH_ready (rs := [0, 9]) (by kernel_rfl) (by simp) ?_
    refine AllReadyH.cons rfl ?_ ?_
    · intro K hK
      obtain ⟨z0, z1, z2, z3, z4⟩ := H7.out.below hd H7.out.2.2.2.2
      go_simp
      refine hK.out _ _ hSS (fun _ => ?_)
      clear hK K
      refine wpAnyH_ready (rs := [9]) (by kernel_rfl) (by simp) ?_
      refine AllReadyH.cons rfl (fun K hK => ?_) AllReadyH.nil
      go_simp
      refine (HM.out _).mono ?_
      rintro e5 w5 ⟨rfl, hb5⟩
      have hb5 : Below X.heap.size X w5 := hd.trans (hb5.mono (Nat.le_refl _))
      dsimp only
      refine hK.out _ _ (HS.out _ hb5) (fun _ => ?_)
      clear hK K
      refine wpAnyH_ready (rs := [10]) (by kernel_rfl) (by simp) ?_
      refine AllReadyH.cons rfl (fun K hK => ?_) AllReadyH.nil
      go_simp
      refine (HA.out _).mono ?_
      rintro e6 w6 ⟨rfl, hb6⟩
      have hb6 : Below X.heap.size X w6 := hb5.trans (hb6.mono hb5.size)
      dsimp only
      refine hK.out _ _ (HS.out _ hb6) (fun _ => ?_)
      clear hK K
      refine wpAnyH_ready (rs := [11]) (by kernel_rfl) (by simp) ?_
      refine AllReadyH.cons rfl (fun K hK => ?_) AllReadyH.nil
      obtain ⟨z0, z1, z2, z3, z4⟩ := H7.out.below hb6 H7.out.2.2.2.2
      go_simp
      refine hK.out _ _ (HS2.out _ _ _ (HS.out _ hb6)) (fun _ => ?_)
      clear hK K
      refine wpAnyH_done (by kernel_rfl) ?_ _
      exact HN.out _ { tmps := #[], defers := [] } hb6
    · refine AllReadyH.cons rfl ?_ AllReadyH.nil
      intro K hK
      go_simp
      refine (HM.out _).mono ?_
      rintro e5 w5 ⟨rfl, hb5⟩
      have hb5 : Below X.heap.size X w5 := hd.trans (hb5.mono (Nat.le_refl _))
      dsimp only
      refine hK.out _ _ (HS.out _ hb5) (fun _ => ?_)
      clear hK K
      refine wpAnyH_ready (rs := [0]) (by kernel_rfl) (by simp) ?_
      refine AllReadyH.cons rfl (fun K hK => ?_) AllReadyH.nil
      obtain ⟨z0, z1, z2, z3, z4⟩ := H7.out.below hb5 H7.out.2.2.2.2
      go_simp
      refine hK.out _ _ (HS.out _ hb5) (fun _ => ?_)
      clear hK K
      refine wpAnyH_ready (rs := [10]) (by kernel_rfl) (by simp) ?_
      refine AllReadyH.cons rfl (fun K hK => ?_) AllReadyH.nil
      go_simp
      refine (HA.out _).mono ?_
      rintro e6 w6 ⟨rfl, hb6⟩
      have hb6 : Below X.heap.size X w6 := hb5.trans (hb6.mono hb5.size)
      dsimp only
      refine hK.out _ _ (HS.out _ hb6) (fun _ => ?_)
      clear hK K
      refine wpAnyH_ready (rs := [11]) (by kernel_rfl) (by simp) ?_
      refine AllReadyH.cons rfl (fun K hK => ?_) AllReadyH.nil
      obtain ⟨z0, z1, z2, z3, z4⟩ := H7.out.below hb6 H7.out.2.2.2.2
      go_simp
      refine hK.out _ _ (HS2.out _ _ _ (HS.out _ hb6)) (fun _ => ?_)
      clear hK K
      refine wpAnyH_done (by kernel_rfl) ?_ _
      exact HN.out _ { tmps := #[], defers := [] } hb6
  case done =>
    rintro D xs X hD hS ⟨j, hj, hp, h7, h6, h4, hbX, hs⟩ hK
    have hjn : j = n := colL_inj (hp.symm.trans hS)
    subst hjn
    obtain ⟨Z, hZ⟩ : ∃ Z, canon (dotN (fun j => F i j * G j k) j) = Z := ⟨_, rfl⟩
    rw [hZ] at h7
    have HZ := Lib.hid hZ
    have HK := Lib.hid hK
    have HB := Lib.hid hbX
    have H6 := Lib.hid h6
    obtain ⟨z0, z1, z2, z3, z4⟩ := h7
    obtain ⟨y0, y1, y2, y3, y4⟩ := h6
    clear hK hbX h4 hF hG hsF hsG hsD hsP hw10 hb4 hb6 hb7 hbm hbk hS hp hZ
    go_wp2
    have v2 := (HB.out.setCell (p := ⟨w.heap.size + 1, 0, none⟩) (by simp) (.bool Z.neg)).setCell (p := ⟨w.heap.size + 1, 1, none⟩) (by simp) (.string Z.mag)
    have hK4 : ((X.setCell ⟨w.heap.size + 1, 0, none⟩ (.bool Z.neg)).setCell ⟨w.heap.size + 1, 1, none⟩ (.string Z.mag)).heap[D]? = some (.deferred (some [])) := ((Below.heap_setCell _ _ _ D (by simp; omega)).trans (Below.heap_setCell _ _ _ D (by simp; omega))).trans HK.out
    have hbx := boxp_set H6.out (.bool Z.neg) (.string Z.mag)
    generalize (X.setCell ⟨w.heap.size + 1, 0, none⟩ (.bool Z.neg)).setCell ⟨w.heap.size + 1, 1, none⟩ (.string Z.mag) = V at *
    refine ⟨by simp, .inl ⟨_, _, rfl, run_takeDeferred hK4, ?_⟩⟩
    have f0 := (cell_of_block (World.putObj_heap_other (w := V) (o := .deferred none) (show w.heap.size + 1 ≠ D by omega)) 0).trans hbx.1
    have f1 := (cell_of_block (World.putObj_heap_other (w := V) (o := .deferred none) (show w.heap.size + 1 ≠ D by omega)) 1).trans hbx.2.1
    refine ⟨.agg #[.bool Z.neg, .string Z.mag], ?_, by rw [HZ.out], ?_⟩
    · simp [results, Try.results122, go_sem, f0, f1]
    · exact v2.trans (belowK_b (w := w) (Nat.le_refl _) _ D _ _ (by omega) hK4 rfl rfl)
  case stop =>
    rintro D c pre X hD h hK
    exact h.elim
end Go.Proofs.Ytlaoijfphkhchaa
