/- eigenvector.Least. -/
import Derived.Test.YtlaoijfphkhchaaB32
namespace Go.Proofs.Ytlaoijfphkhchaa
open Go.RowKit Go.Shelf
attribute [local go_sem] Oper.semAt_some
theorem dec_sz {x u : Nat → Int} {N s : Nat} (hs : s < N) (h0 : ∀ t, t < N → 0 ≤ u t) (hu : ∀ t, t < N → u t ≤ decE x s t) : szE u N < szE x N := by
  have key : ∀ k, k ≤ N → 0 ≤ dotN u k ∧ dotN u k ≤ dotN x k ∧ (s < k → dotN u k < dotN x k) := by
    intro k
    induction k with
    | zero => intro _; exact ⟨Int.le_refl _, Int.le_refl _, fun h => absurd h (Nat.not_lt_zero _)⟩
    | succ k ih =>
      intro hk
      obtain ⟨a, b, c⟩ := ih (by omega)
      have h1 := h0 k (by omega)
      have h2 := hu k (by omega)
      unfold decE at h2
      simp only [dotN]
      by_cases e : k = s
      · rw [if_pos e] at h2
        exact ⟨by omega, by omega, fun _ => by omega⟩
      · rw [if_neg e] at h2
        refine ⟨by omega, by omega, fun h => ?_⟩
        have := c (by omega)
        omega
  obtain ⟨a, b, c⟩ := key N (Nat.le_refl _)
  have := c hs
  unfold szE
  omega
/-- No component can become less. -/
def LeastD (fr te : Nat → Nat) (n N m : Nat) (x : Nat → Int) : Prop := ∀ s, s < N → x s ≠ 0 → ∀ u, GrO fr te n N m (decE x s) u → ∀ t, t < N → u t = 0
def RetLeast (fr te : Nat → Nat) (n N m : Nat) (v : Nat → Int) (w : World) (e : Ending) (w' : World) : Prop :=
  ∃ u q cq, (∀ s, s < N → u s ≤ v s) ∧ Hld fr te n N m u ∧ (∃ s, s < N ∧ u s ≠ 0) ∧ LeastD fr te n N m u ∧ e = .returned (.tuple #[.slice q N cq, .int .i64 0]) ∧ VRow w' q N u ∧ Below w.heap.size w w'
def markD (D : Nat) : Deferred := { target := .collected D, args := #[] }
/-- The marks of the ranges that have run: their blocks hold no call. -/
def Marks (B : Nat) (Ds : List Nat) (W : World) : Prop := Ds.Nodup ∧ ∀ D ∈ Ds, B ≤ D ∧ W.heap[D]? = some (.deferred (some []))
theorem Marks.keep {B : Nat} {Ds : List Nat} {W W' : World} (h : Marks B Ds W) (k : ∀ (D : Nat) (o : Obj), W.heap[D]? = some o → o.isCells = false → W'.heap[D]? = some o) : Marks B Ds W' :=
  ⟨h.1, fun D hD => ⟨(h.2 D hD).1, k D _ (h.2 D hD).2 rfl⟩⟩
theorem Marks.lt {B : Nat} {Ds : List Nat} {W : World} (h : Marks B Ds W) : ∀ D ∈ Ds, D < W.heap.size := fun D hD => (Array.getElem?_eq_some_iff.1 (h.2 D hD).2).1
theorem Marks.cons {B D : Nat} {Ds : List Nat} {W : World} (h : Marks B Ds W) (hB : B ≤ D) (hn : ∀ D' ∈ Ds, D' < D) (hD : W.heap[D]? = some (.deferred (some []))) : Marks B (D :: Ds) W :=
  ⟨List.nodup_cons.2 ⟨fun hm => by have := hn D hm; omega, h.1⟩, fun D' hD' => by
    rcases List.mem_cons.1 hD' with e | hm
    · subst e; exact ⟨hB, hD⟩
    · exact h.2 D' hm⟩
/-- The function leaves: the marks are taken, one after the other. -/
theorem leaves_marks {F : Fence} {k : Nat} {P : Program} {fn : Func} {tmps : Array Value} {R : Ending → World → Prop} {B : Nat} : ∀ (Ds : List Nat) (W : World), Marks B Ds W →
    (∀ W', KpC W W' → Below B W W' → LeavesInM F k P fn tmps R [] .returning W') → LeavesInM F k P fn tmps R (Ds.map markD) .returning W
  | [], W, _, h => h W ⟨Nat.le_refl _, fun _ _ h _ => h⟩ (Below.refl _ _)
  | D :: Ds, W, hM, h => by
    obtain ⟨hnd, hD⟩ := hM
    obtain ⟨hB, hK⟩ := hD D (List.mem_cons_self ..)
    refine ⟨by simp, .inl ⟨D, _, rfl, run_takeDeferred hK, ?_⟩⟩
    have hb : Below B W (W.putObj D (.deferred none)) := ⟨rfl, rfl, rfl, by simp, fun b hb => World.putObj_heap_other (by omega)⟩
    have hk : KpC W (W.putObj D (.deferred none)) := KpC.put _ hK rfl
    refine leaves_marks Ds _ ⟨(List.nodup_cons.1 hnd).2, fun D' hD' => ⟨(hD D' (List.mem_cons_of_mem _ hD')).1, ?_⟩⟩ fun W' hk' hb' => h W' (hk.trans hk') (hb.trans hb')
    rw [World.putObj_heap_other (by rintro rfl; exact (List.nodup_cons.1 hnd).1 hD')]
    exact (hD D' (List.mem_cons_of_mem _ hD')).2
theorem SlAt.setBox {W : World} {sz k g : Nat} {t : TypeId} {u : Value} {a : Option Addr} {C : Nat → Nat → Value} (h : SlAt sz W a k C) (hb : Boxed W g t u) (hC : ∀ i j, C i j ≠ u) (v : Value) : SlAt sz (W.setCell ⟨g, 0, none⟩ v) a k C := by
  rcases h with h | ⟨b, off, rfl, hlt, hc⟩
  · exact .inl h
  · by_cases h0 : k = 0 ∨ sz = 0
    · rcases h0 with h0 | h0
      · exact .inl h0
      · exact .inr ⟨b, off, rfl, by simpa using hlt, fun i hi j hj => by omega⟩
    · refine .inr ⟨b, off, rfl, by simpa using hlt, fun i hi j hj => ?_⟩
      have h1 := hc i hi j hj
      have hne : b ≠ g := by
        intro hbb
        rw [hbb] at h1
        unfold Boxed at hb
        unfold World.cell? at h1
        rw [hb] at h1
        generalize off + i * sz + j = ix at h1
        cases ix with
        | zero => simp at h1; exact hC i j h1.symm
        | succ ix => simp at h1
      rw [World.cell?_setCell_other _ _ _ _ (by intro hh; injection hh with h2 _; exact hne (by first | exact h2 | exact h2.symm))]
      exact h1
theorem BoxAt3.setFar {W : World} {g g' : Nat} {a b c : Value} (h : BoxAt3 W g a b c) (hne : g' ≠ g) (v : Value) : BoxAt3 (W.setCell ⟨g', 0, none⟩ v) g a b c := by
  refine ⟨by simpa using h.1, ?_, ?_, ?_⟩ <;> rw [World.cell?_setCell_other _ _ _ _ (by intro hh; injection hh with h2 _; exact hne (by first | exact h2 | exact h2.symm))]
  · exact h.2.1
  · exact h.2.2.1
  · exact h.2.2.2
theorem boxed_far {W : World} {g g' : Nat} {t : TypeId} {u : Value} (h : Boxed W g t u) (hne : g' ≠ g) (v : Value) : Boxed (W.setCell ⟨g', 0, none⟩ v) g t u :=
  (Below.heap_setCell W ⟨g', 0, none⟩ v g (fun e => hne (by first | exact e | exact e.symm))).trans h
theorem Marks.setCell {B : Nat} {Ds : List Nat} {W : World} (h : Marks B Ds W) {g : Nat} {t : TypeId} {u : Value} (hb : Boxed W g t u) (v : Value) : Marks B Ds (W.setCell ⟨g, 0, none⟩ v) :=
  ⟨h.1, fun D hD => ⟨(h.2 D hD).1, by
    have h1 := (h.2 D hD).2
    have hne : D ≠ g := fun e => by
      unfold Boxed at hb
      rw [e, hb] at h1; cases h1
    rw [Below.heap_setCell W ⟨g, 0, none⟩ v D (by first | exact hne | exact hne.symm)]; exact h1⟩⟩
theorem Marks.below {B : Nat} {Ds : List Nat} {W W' : World} (h : Marks B Ds W) (hb : Below W.heap.size W W') : Marks B Ds W' :=
  ⟨h.1, fun D hD => ⟨(h.2 D hD).1, by rw [hb.block D (h.lt D hD)]; exact (h.2 D hD).2⟩⟩
/-- In the midst of a round. -/
structure LsM (LL : Int) (N n : Nat) (E : Nat → Nat → Int) (p : Option Addr) (c : Nat) (w : World) (g0 gf : Nat) (q : Option Addr) (cq : Nat) (x : Nat → Int) (Ds : List Nat) (W : World) : Prop where
  bx : BoxAt3 W g0 (.int .i64 LL) (.int .i64 (N : Int)) (.slice p n c)
  bv : Boxed W (g0 + 1) 38 (.slice q N cq)
  bf : Boxed W gf 4 (.bool false)
  edges : EdgAt W p n E
  row : VRow W q N x
  below : Below g0 w W
  marks : Marks g0 Ds W
theorem LsM.next {LL : Int} {N n : Nat} {E : Nat → Nat → Int} {p : Option Addr} {c : Nat} {w : World} {g0 gf : Nat} {q : Option Addr} {cq : Nat} {x : Nat → Int} {Ds : List Nat} {W W' : World} (h : LsM LL N n E p c w g0 gf q cq x Ds W) (hb : Below W.heap.size W W') (hg : g0 ≤ W.heap.size) : LsM LL N n E p c w g0 gf q cq x Ds W' :=
  ⟨h.bx.below hb, (hb.block _ h.bv.lt).trans h.bv, (hb.block _ h.bf.lt).trans h.bf, SlAt.mono h.edges (Nat.le_refl _) hb, SlAt.mono h.row (Nat.le_refl _) hb, h.below.trans (hb.mono hg), h.marks.below hb⟩
/-- Between two rounds. -/
structure LsR (LL : Int) (N n m : Nat) (E : Nat → Nat → Int) (p : Option Addr) (c : Nat) (v : Nat → Int) (w : World) (g0 gf : Nat) (b : Bool) (q : Option Addr) (cq : Nat) (x : Nat → Int) (Ds : List Nat) (k : Nat) (W : World) : Prop where
  bx : BoxAt3 W g0 (.int .i64 LL) (.int .i64 (N : Int)) (.slice p n c)
  bv : Boxed W (g0 + 1) 38 (.slice q N cq)
  bf : Boxed W gf 4 (.bool b)
  gl : g0 + 1 < gf
  edges : EdgAt W p n E
  row : VRow W q N x
  le : ∀ s, s < N → x s ≤ v s
  hld : Hld (frE E) (toE E) n N m x
  ne : ∃ s, s < N ∧ x s ≠ 0
  done : b = false → LeastD (frE E) (toE E) n N m x
  meas : (if b = true then szE x N + 1 else 0) ≤ k
  below : Below g0 w W
  marks : Marks g0 Ds W
def LeastI (LL : Int) (N n m : Nat) (E : Nat → Nat → Int) (p : Option Addr) (c : Nat) (v : Nat → Int) (pv : Option Addr) (cv : Nat) (w : World) (g0 : Nat) (q0 : Option Addr) (cq0 : Nat) (k : Nat) (a : Act) (W : World) : Prop :=
  ∃ (gf : Nat) (b : Bool) (q : Option Addr) (cq : Nat) (x : Nat → Int) (Ds : List Nat) (u10 u20 u21 u22 u23 u24 u25 u26 u27 u28 u29 u30 : Value),
    LsR LL N n m E p c v w g0 gf b q cq x Ds k W ∧ a = { tmps := #[.agg #[.int .i64 LL, .int .i64 (N : Int), .slice p n c], .slice pv N cv, .int .i64 (m : Int), .pointer (some ⟨g0, 0, none⟩), .pointer (some ⟨g0 + 1, 0, none⟩), undef, .slice none 0 0, .int .i64 0, .int .i64 0, .pointer (some ⟨gf, 0, none⟩), u10, .agg #[.int .i64 LL, .int .i64 (N : Int), .slice p n c], .slice pv N cv, .int .i64 (m : Int), .int .i64 0, .int .i64 0, .bool false, undef, .slice pv N cv, .slice q0 N cq0, u20, u21, u22, u23, u24, u25, u26, u27, u28, u29, u30, undef], defers := Ds.map markD }
/-- How a round of the range may be left: a vector that is less has been found, and lies in the boxes. -/
structure LsX (LL : Int) (N n m : Nat) (E : Nat → Nat → Int) (p : Option Addr) (c : Nat) (x : Nat → Int) (w : World) (g0 gf : Nat) (Ds : List Nat) (W : World) : Prop where
  bx : BoxAt3 W g0 (.int .i64 LL) (.int .i64 (N : Int)) (.slice p n c)
  bf : Boxed W gf 4 (.bool true)
  edges : EdgAt W p n E
  found : ∃ s u q cq, s < N ∧ x s ≠ 0 ∧ GrO (frE E) (toE E) n N m (decE x s) u ∧ (∃ t, t < N ∧ u t ≠ 0) ∧ Boxed W (g0 + 1) 38 (.slice q N cq) ∧ VRow W q N u
  below : Below g0 w W
  marks : Marks g0 Ds W
def LsI (N n m : Nat) (E : Nat → Nat → Int) (x : Nat → Int) (W1 : World) (pre : List (Nat × Option Addr × Nat)) (W : World) : Prop :=
  (∀ y ∈ pre, ∀ u, GrO (frE E) (toE E) n N m (decE x y.1) u → ∀ t, t < N → u t = 0) ∧ Below W1.heap.size W1 W
theorem LsI.abides {N n m : Nat} {E : Nat → Nat → Int} {x : Nat → Int} {W1 : World} : AbT (TurnT W1.heap.size (fun _ _ => False)) (LsI N n m E x W1) := by
  rintro pre W W' row ⟨h1, h2⟩ hg hr
  exact ⟨h1, h2.grown hg h2.size (fun u e => by have := turn_ge (hr u e); omega)⟩
theorem boxed_turn {W W' : World} {row : Option Nat} {B g : Nat} {t : TypeId} {u : Value} (h : Boxed W g t u) (hg : W.grownBy W' row) (hr : ∀ r, row = some r → TurnT B (fun _ _ => False) r W) : Boxed W' g t u :=
  h.kept hg (fun e => by
    rcases hr g e.symm with h1 | ⟨_, o, ho, hc⟩
    · exact h1
    · rw [show W.heap[g]? = _ from h] at ho; cases ho; cases hc)
theorem LsX.abides {LL : Int} {N n m : Nat} {E : Nat → Nat → Int} {p : Option Addr} {c : Nat} {x : Nat → Int} {w : World} {g0 gf B : Nat} {Ds : List Nat} (hB : g0 < B) (hD : ∀ D ∈ Ds, D < B) {W W' : World} {row : Option Nat}
    (h : LsX LL N n m E p c x w g0 gf Ds W) (hg : W.grownBy W' row) (hr : ∀ r, row = some r → TurnT B (fun _ _ => False) r W) (hs : B ≤ W.heap.size) : LsX LL N n m E p c x w g0 gf Ds W' := by
  obtain ⟨h1, h2, h3, ⟨s, u, q, cq, f1, f2, f3, f4, f5, f6⟩, h5, h6⟩ := h
  refine ⟨⟨Nat.lt_of_lt_of_le h1.1 hg.size, cell_turnB h1.2.1 hg hr, cell_turnB h1.2.2.1 hg hr, cell_turnB h1.2.2.2 hg hr⟩, boxed_turn h2 hg hr, SlAt.turn h3 hg hr, ⟨s, u, q, cq, f1, f2, f3, f4, boxed_turn f5 hg hr, SlAt.turn f6 hg hr⟩, h5.grown hg (by omega) (fun r e => by have := turn_ge (hr r e); omega), h6.1, fun D hm => ⟨(h6.2 D hm).1, ?_⟩⟩
  rw [hg.block D (h6.lt D hm) (fun e => by have := turn_ge (hr D e.symm); have := hD D hm; omega)]
  exact (h6.2 D hm).2
set_option maxRecDepth 100000 in
theorem Least_err (L S : Int) (n : Nat) (p : Option Addr) (c : Nat) (m : Int) (nv : Nat) (pv : Option Addr) (cv : Nat) (r : Int) (hr0 : r ≠ 0) (w : World)
    (hK : ∀ W, Below w.heap.size w W → Calls Try.prog 27 #[.agg #[.int .i64 L, .int .i64 S, .slice p n c], .slice pv nv cv, .int .i64 m] W (RetInt r W)) :
    Calls Try.prog 28 #[.agg #[.int .i64 L, .int .i64 S, .slice p n c], .slice pv nv cv, .int .i64 m] w (RetNilE r w) := by
  refine calls_marks Try.func28 rfl ?_
  simp only [Try.ntmps28, List.size_toArray, List.length_cons, List.length_nil, Nat.reduceAdd, Nat.reduceSub, Array.replicate_succ, Array.replicate_zero, List.push_toArray, List.append_toArray, List.nil_append, List.cons_append]
  have HK := Lib.hid hK
  have e1 : (r != 0) = true := by rw [bne_iff_ne]; exact hr0
  have hal : Below w.heap.size w ((w.alloc (.cells #[.int .i64 L, .int .i64 S, .slice p n c] 24)).alloc (.cells #[.slice pv nv cv] 38)) := ((Below.refl _ _).alloc (Nat.le_refl _) _).alloc (by simp) _
  have Hal := Lib.hid hal
  clear hK hr0 hal
  go_wp2_with fail
  refine (HK.out _ Hal.out).mono ?_
  rintro e W1 ⟨rfl, hb⟩
  dsimp only
  have Hb := Lib.hid (Hal.out.trans (hb.mono Hal.out.size))
  clear hb HK Hal
  go_wp2
  refine ⟨.tuple #[.slice none 0 0, .int .i64 r], ?_, rfl, Hb.out⟩
  simp [results, Try.results28, go_sem]
theorem ckV_zero {fr te : Nat → Nat} {n N m : Nat} {v : Nat → Int} (hv : ∀ s, s < N → 0 ≤ v s) (h : ckV fr te n N m v = 0) : (∃ s, s < N ∧ v s ≠ 0) ∧ Hld fr te n N m v := by
  unfold ckV at h
  split at h
  · cases h
  split at h
  · cases h
  rename_i h1 h2
  rw [Bool.not_eq_false] at h1
  obtain ⟨s, hs, hne⟩ := anyN_true.1 h1
  rw [Bool.not_eq_true] at h2
  exact ⟨⟨s, hs, by simpa using hne⟩, fun s hs => ⟨hv s hs, by have := anyN_false.1 h2 s hs; rw [decide_eq_false_iff_not] at this; omega⟩⟩
set_option maxRecDepth 100000 in
set_option maxHeartbeats 8000000 in
theorem Least_ok (LL : Int) (N n m : Nat) (E : Nat → Nat → Int) (p : Option Addr) (c : Nat) (v : Nat → Int) (pv : Option Addr) (cv : Nat) (hr : vChk LL N n E m N v = 0) (hc : ckV (frE E) (toE E) n N m v = 0) (w : World) (hE : EdgAt w p n E) (hV : VRow w pv N v) :
    Calls Try.prog 28 #[.agg #[.int .i64 LL, .int .i64 (N : Int), .slice p n c], .slice pv N cv, .int .i64 (m : Int)] w (RetLeast (frE E) (toE E) n N m v w) := by
  obtain ⟨hg, hm1, hm2, _, hv⟩ := vChk_zero hr
  obtain ⟨_, _, _, hS, hn, _⟩ := gChk_zero hg
  have hok : EdOk N n E := by have := gChk_ok hg; simpa using this
  obtain ⟨hne, hld⟩ := ckV_zero (fun s hs => (hv s hs).1) hc
  obtain ⟨W0, hW0⟩ : ∃ W, (w.alloc (.cells #[.int .i64 LL, .int .i64 (N : Int), .slice p n c] 24)).alloc (.cells #[.slice pv N cv] 38) = W := ⟨_, rfl⟩
  have hb0 : Below w.heap.size w W0 := by rw [← hW0]; exact ((Below.refl _ _).alloc (Nat.le_refl _) _).alloc (by simp) _
  have hbx : BoxAt3 W0 w.heap.size (.int .i64 LL) (.int .i64 (N : Int)) (.slice p n c) := by rw [← hW0]; exact (BoxAt3.new w _ _ _ _).below ((Below.refl _ _).alloc (Nat.le_refl _) _)
  have hbv : Boxed W0 (w.heap.size + 1) 38 (.slice pv N cv) := by
    rw [← hW0]
    have := Boxed.new (w.alloc (.cells #[.int .i64 LL, .int .i64 (N : Int), .slice p n c] 24)) 38 (.slice pv N cv)
    simpa using this
  have hE0 : EdgAt W0 p n E := hE.mono (Nat.le_refl _) hb0
  have hV0 : VRow W0 pv N v := hV.below (Nat.le_refl _) hb0
  have HC := Lib.hid (EvCheck_ok LL N n m E p c v pv cv hr W0 hE0 hV0)
  rw [hc] at HC
  have HCl := Lib.hid (fun W (hW : Below W0.heap.size W0 W) => clone_any N pv cv v (by omega) W (hV0.below (Nat.le_refl _) hW))
  have HB : Hid (∀ W, Below W0.heap.size W0 W → BoxAt3 W w.heap.size (.int .i64 LL) (.int .i64 (N : Int)) (.slice p n c) ∧ Boxed W (w.heap.size + 1) 38 (.slice pv N cv) ∧ Below w.heap.size w W) := Lib.hid (fun W hW => ⟨hbx.below hW, (hW.block _ hbv.lt).trans hbv, hb0.trans (hW.mono hb0.size)⟩)
  obtain ⟨_, c0, c1, c2⟩ := hbx
  have c3 := hbv.cell
  have HE := Lib.hid hE0
  clear hE hV hE0 hV0 hb0 hbv
  refine calls_marks Try.func28 rfl ?_
  simp only [Try.ntmps28, List.size_toArray, List.length_cons, List.length_nil, Nat.reduceAdd, Nat.reduceSub, Array.replicate_succ, Array.replicate_zero, List.push_toArray, List.append_toArray, List.nil_append, List.cons_append]
  go_wp2_with fail
  try rw [hW0]
  refine HC.out.mono ?_
  rintro e W1 ⟨rfl, hb⟩
  dsimp only
  have Hb1 := Lib.hid hb
  obtain ⟨⟨_, z0, z1, z2⟩, hbv, _⟩ := HB.out _ hb
  have z3 := hbv.cell
  clear hb HC c0 c1 c2 c3 hW0
  go_wp2_with fail
  refine (HCl.out _ Hb1.out).mono ?_
  rintro e W2 ⟨q, cq, rfl, hq, hb⟩
  dsimp only
  have Hq := Lib.hid hq
  have Hb2 := Lib.hid (Hb1.out.trans (hb.mono Hb1.out.size))
  obtain ⟨⟨_, z0, z1, z2⟩, hbv, _⟩ := HB.out _ Hb2.out
  have z3 := hbv.cell
  have z4 := hbv.frozen
  clear hq hb HCl Hb1 hbv
  go_wp2_with fail
  have hne2 := hne
  have hb3 : Below W0.heap.size W0 W2 := Hb2.out
  obtain ⟨hbx2, hbv2, hbw2⟩ := HB.out _ hb3
  have hsz2 : w.heap.size + 1 < W2.heap.size := hbv2.lt
  have hset := hbv2.set (.slice q N cq)
  have hrow2 : VRow W2 q N v := Hq.out.row
  have hE2 : EdgAt W2 p n E := HE.out.mono (Nat.le_refl _) hb3
  have hkc : ∀ (a : Addr) (u : Value), a.block ≠ w.heap.size + 1 → W2.cell? a = some u → (W2.setCell ⟨w.heap.size + 1, 0, none⟩ (.slice q N cq)).cell? a = some u := fun a u hne h => by
    rw [World.cell?_setCell_other _ _ _ _ (by intro hh; rw [← hh] at hne; exact hne rfl)]; exact h
  have hfar : ∀ (sz k : Nat) (a : Option Addr) (C : Nat → Nat → Value), SlAt sz W2 a k C → (∀ i j, C i j ≠ .slice pv N cv) → SlAt sz (W2.setCell ⟨w.heap.size + 1, 0, none⟩ (.slice q N cq)) a k C := fun sz k a C h hC => h.setBox hbv2 hC _
  have hR0 : LsR LL N n m E p c v w w.heap.size W2.heap.size true q cq v [] (szE v N + 1) ((W2.setCell ⟨w.heap.size + 1, 0, none⟩ (.slice q N cq)).alloc (.cells #[.bool true] 4)) := by
    have hal := (Below.refl (W2.setCell ⟨w.heap.size + 1, 0, none⟩ (.slice q N cq)).heap.size (W2.setCell ⟨w.heap.size + 1, 0, none⟩ (.slice q N cq))).alloc (Nat.le_refl _) (.cells #[.bool true] 4)
    refine ⟨BoxAt3.below ⟨by simpa using hbx2.1, hkc _ _ (by simp) hbx2.2.1, hkc _ _ (by simp) hbx2.2.2.1, hkc _ _ (by simp) hbx2.2.2.2⟩ hal, (hal.block _ (by simpa using hbv2.lt)).trans hset, ?_, by omega, SlAt.mono (hfar _ _ _ _ hE2 (fun i j => by simp [edC])) (Nat.le_refl _) hal, SlAt.mono (hfar _ _ _ _ hrow2 (fun i j => by simp)) (Nat.le_refl _) hal, fun _ _ => Int.le_refl _, hld, hne, fun h => (by cases h), by rw [if_pos rfl]; exact Nat.le_refl _, (hbw2.setCell (p := ⟨w.heap.size + 1, 0, none⟩) (by simp) _).trans (hal.mono (by simp; omega)), ⟨List.nodup_nil, fun D h => (by cases h)⟩⟩
    have := Boxed.new (W2.setCell ⟨w.heap.size + 1, 0, none⟩ (.slice q N cq)) 4 (.bool true)
    simpa using this
  have HR0 := Lib.hid hR0
  clear hR0 hfar hkc hset hrow2 hE2 hbx2 hbv2 hbw2 z0 z1 z2 z3 z4 hne2 hb3 Hb2 Hq HB
  generalize (W2.setCell ⟨w.heap.size + 1, 0, none⟩ (.slice q N cq)).alloc (.cells #[.bool true] 4) = V at *
  obtain ⟨g0, hg0⟩ : ∃ g, w.heap.size = g := ⟨_, rfl⟩
  rw [hg0] at HR0 ⊢
  refine wp_loop_ghost (LeastI LL N n m E p c v pv cv w g0 q cq) (szE v N + 1) ⟨_, true, q, cq, v, [], _, _, _, _, _, _, _, _, _, _, _, _, HR0.out, rfl⟩ ?_
  clear HR0
  intro k a wr hI
  obtain ⟨gf, b, q1, cq1, x, Ds, u10, u20, u21, u22, u23, u24, u25, u26, u27, u28, u29, u30, hR, rfl⟩ := hI
  obtain ⟨HI, hHI⟩ : ∃ I, LeastI LL N n m E p c v pv cv w g0 q cq = I := ⟨_, rfl⟩
  rw [hHI]
  have HHI := Lib.hid hHI
  clear hHI
  have HR := Lib.hid hR
  have hbf := hR.bf.cell
  have hbff := hR.bf.frozen
  obtain ⟨ds, hds⟩ : ∃ ds, Ds.map markD = ds := ⟨_, rfl⟩
  rw [hds]
  have Hds := Lib.hid hds
  clear hR hds
  cases b
  · have hbv := HR.out.bv.cell
    clear hbff
    go_wp2
    rw [← Hds.out]
    refine leaves_marks (B := g0) Ds _ HR.out.marks fun W' hk hb => ?_
    refine ⟨.tuple #[.slice q1 N cq1, .int .i64 0], ?_, x, q1, cq1, HR.out.le, HR.out.hld, HR.out.ne, HR.out.done rfl, rfl, HR.out.row.kept hk, by rw [hg0]; exact HR.out.below.trans hb⟩
    simp [results, Try.results28, go_sem]
  · have hbv := HR.out.bv.cell
    obtain ⟨_, b0, b1, b2⟩ := HR.out.bx
    have hgl := HR.out.gl
    have c0 : (wr.setCell ⟨gf, 0, none⟩ (.bool false)).cell? ⟨g0, 0, none⟩ = some (.int .i64 LL) := by rw [World.cell?_setCell_other _ _ _ _ (by intro hh; simp only [Addr.mk.injEq] at hh; omega)]; exact b0
    have c1 : (wr.setCell ⟨gf, 0, none⟩ (.bool false)).cell? ⟨g0, 1, none⟩ = some (.int .i64 (N : Int)) := by rw [World.cell?_setCell_other _ _ _ _ (by intro hh; simp only [Addr.mk.injEq] at hh; omega)]; exact b1
    have c2 : (wr.setCell ⟨gf, 0, none⟩ (.bool false)).cell? ⟨g0, 2, none⟩ = some (.slice p n c) := by rw [World.cell?_setCell_other _ _ _ _ (by intro hh; simp only [Addr.mk.injEq] at hh; omega)]; exact b2
    have c3 : (wr.setCell ⟨gf, 0, none⟩ (.bool false)).cell? ⟨g0 + 1, 0, none⟩ = some (.slice q1 N cq1) := by rw [World.cell?_setCell_other _ _ _ _ (by intro hh; simp only [Addr.mk.injEq] at hh; omega)]; exact hbv
    go_upto_region 8 with (fail)
    clear c0 c1 c2 c3 b0 b1 b2 hbf hbff hbv
    have hM : LsM LL N n E p c w g0 gf q1 cq1 x Ds (wr.setCell ⟨gf, 0, none⟩ (.bool false)) := by
      obtain ⟨h1, h2, h3, h4, h5, h6, h7, h8, h9, h10, h11, h12, h13⟩ := HR.out
      exact ⟨h1.setFar (by omega) _, boxed_far h2 (by omega) _, h3.set _, SlAt.setBox h5 h3 (fun i j => by simp [edC]) _, SlAt.setBox h6 h3 (fun i j => by simp) _, h12.setCell (by simp; omega) _, h13.setCell h3 _⟩
    generalize wr.setCell ⟨gf, 0, none⟩ (.bool false) = X at *
    have HM := Lib.hid hM
    obtain ⟨_, b0, b1, b2⟩ := hM.bx
    have b3 := hM.bv.cell
    have HLe := Lib.hid (less_any LL (N : Int) n p c (.slice q1 N cq1) (m : Int) X ⟨q1, cq1, by rw [Int.toNat_natCast]⟩)
    clear hM
    go_wp2_with fail
    refine HLe.out.mono ?_
    rintro e W3 ⟨rfl, hW3⟩
    dsimp only
    have hb3 : Below X.heap.size X W3 := by rw [hW3]; exact (((Below.refl _ _).alloc (Nat.le_refl _) _).alloc (by simp) _).alloc (by simp; omega) _
    have hsz3 : W3.heap.size = X.heap.size + 3 := by rw [hW3]; simp
    have hl1 : BoxAt3 W3 X.heap.size (.int .i64 LL) (.int .i64 (N : Int)) (.slice p n c) := by
      rw [hW3]
      exact ((BoxAt3.new X _ _ _ _).below ((Below.refl _ _).alloc (Nat.le_refl _) _)).below ((Below.refl _ _).alloc (Nat.le_refl _) _)
    have hl2 : Boxed W3 (X.heap.size + 1) 38 (.slice q1 N cq1) := by
      rw [hW3]
      have := (Boxed.new (X.alloc (.cells #[.int .i64 LL, .int .i64 (N : Int), .slice p n c] 24)) 38 (.slice q1 N cq1)).alloc (.cells #[.int .i64 (m : Int)] 3)
      simpa using this
    have hl3 : Boxed W3 (X.heap.size + 1 + 1) 3 (.int .i64 (m : Int)) := by
      rw [hW3]
      have := Boxed.new ((X.alloc (.cells #[.int .i64 LL, .int .i64 (N : Int), .slice p n c] 24)).alloc (.cells #[.slice q1 N cq1] 38)) 3 (.int .i64 (m : Int))
      simpa using this
    have hgX : g0 + 1 < X.heap.size := HM.out.bv.lt
    have hM3 := HM.out.next hb3 (by omega)
    have hP3 : LessP LL N n m E p c x q1 cq1 (X.heap.size + 1) X.heap.size (X.heap.size + 1 + 1) W3 := ⟨hl2, hl1, hl3, hM3.edges, hM3.row⟩
    have HM3 := Lib.hid hM3
    have HP3 := Lib.hid hP3
    clear hl1 hl2 hl3 hM3 hP3 hb3 hW3 b0 b1 b2 b3 HLe HM
    obtain ⟨g1, hg1⟩ : ∃ g, X.heap.size = g := ⟨_, rfl⟩
    rw [hg1] at HP3 hgX hsz3 ⊢
    clear hg1
    have hxv : ∀ s, s < N → 0 ≤ x s ∧ x s ≤ 1000000 := fun s hs => ⟨(HR.out.hld s hs).1, by have := HR.out.le s hs; have := (hv s hs).2; omega⟩
    have Hxv := Lib.hid hxv
    have HDl : Hid (∀ D ∈ Ds, D < W3.heap.size) := Lib.hid HM3.out.marks.lt
    have Hok := Lib.hid hok
    clear hxv hok
    go_wp2_with fail
    refine rangeW (gf := 92) (lb := #[.pointer (some ⟨g1 + 1, 0, none⟩), .pointer (some ⟨g1, 0, none⟩), .pointer (some ⟨g1 + 1 + 1, 0, none⟩)]) rfl (enters_of Try.func92 (by kernel_rfl) rfl)
      (encs := encL N) (G := fun _ z W => GLs (frE E) (toE E) n N m x z W) (S := AllS N x) (T := fun _ _ => False) (Kp := KpC)
      (Pre := fun X => LessP LL N n m E p c x q1 cq1 (g1 + 1) g1 (g1 + 1 + 1) X)
      (fun l J Jx X hX hJ _ hY h0 => less1_in l LL N n m E p c x q1 cq1 _ _ _ (by omega) (by omega) (by omega) (by omega) Hok.out Hxv.out J Jx hJ hY X hX h0)
      (by rintro r X h; exact h.elim) (fun h k => h.trans k) (fun X l o o' hl ho hc => KpC.put o' ho hc)
      (fun X hX => HP3.out.below hX) (fun _ => rfl)
      (fun z pre W W' row h hg hr => by
        obtain ⟨u, h1, h2, h3, h4⟩ := h
        exact ⟨u, h1, h2, h3, SlAt.turn h4 hg hr⟩)
      (LsI N n m E x W3) (fun cd _ W => cd = .exit 2 ∧ LsX LL N n m E p c x w g0 gf Ds W ∧ W3.heap.size ≤ W.heap.size) LsI.abides
      (fun cd pre W W' row h hg hr => ⟨h.1, h.2.1.abides (by omega) HDl.out hg hr h.2.2, Nat.le_trans h.2.2 hg.size⟩)
      ⟨fun y hy => (by cases hy), Below.refl _ _⟩
      (fun z => { tmps := #[.agg #[.int .i64 LL, .int .i64 (N : Int), .slice p n c], .slice pv N cv, .int .i64 (m : Int), .pointer (some ⟨g0, 0, none⟩), .pointer (some ⟨g0 + 1, 0, none⟩), undef, .slice none 0 0, .int .i64 0, .int .i64 0, .pointer (some ⟨gf, 0, none⟩), .slice z.2.1 N z.2.2, .agg #[.int .i64 LL, .int .i64 (N : Int), .slice p n c], .slice pv N cv, .int .i64 (m : Int), .int .i64 0, .int .i64 0, .bool false, undef, .slice pv N cv, .slice q N cq, .bool true, .agg #[.int .i64 LL, .int .i64 (N : Int), .slice p n c], .slice q1 N cq1, .int .i64 (m : Int), .func (.func 92) #[] #[.pointer (some ⟨g1 + 1, 0, none⟩), .pointer (some ⟨g1, 0, none⟩), .pointer (some ⟨g1 + 1 + 1, 0, none⟩)], .slice z.2.1 N z.2.2, u26, u27, u28, u29, u30, undef], defers := [] }) ?assign ?body ?done ?stop
    case assign =>
      rintro l ⟨s, qs, cs⟩ Y K hK
      dsimp only [encL] at hK ⊢
      gi_wp2
      exact hK
    case body =>
      rintro l pre ⟨s, qs, cs⟩ Y ⟨hpre, hbY⟩ ⟨u, hs, hxs, hu, hrow⟩
      dsimp only at hs hxs hu hrow
      have HZ := Lib.hid (evZero_any N qs cs u (by omega) Y hrow)
      have hMY := HM3.out.next hbY (by omega)
      have HMY := Lib.hid hMY
      have HbY := Lib.hid hbY
      have Hpre := Lib.hid hpre
      have Hu := Lib.hid hu
      have Hrow := Lib.hid hrow
      have Hxs := Lib.hid hxs
      have Hs := Lib.hid hs
      clear hMY hbY hpre hu hrow hxs hs
      by_cases hz : ∀ t, t < N → u t = 0
      · have ha : anyN (fun k => u k != 0) N = false := anyN_false.2 fun i hi => by rw [hz i hi]; rfl
        rw [ha] at HZ
        have Hz := Lib.hid hz
        clear ha hz
        gi_wp2
        refine ⟨trivial, ?_⟩
        refine CallsIn.mono (CallsIn.inRound l (callsIn_wide.2 HZ.out)) ?_
        rintro e Y2 ⟨rfl, hb2⟩
        have Hb2 := Lib.hid hb2
        clear hb2 HZ
        gi_wp2
        refine ⟨keeps_of_below Hb2.out, KpC.of_below Hb2.out, fun y hy u' hu' t ht => ?_, HbY.out.trans (Hb2.out.mono HbY.out.size)⟩
        rcases List.mem_append.1 hy with h | h
        · exact Hpre.out y h u' hu' t ht
        · obtain rfl := List.mem_singleton.1 h
          rw [GrO.unique hu' Hu.out t ht]
          exact Hz.out t ht
      · have ha : anyN (fun k => u k != 0) N = true := anyN_true.2 (Classical.byContradiction fun hn => hz fun s hs => Classical.byContradiction fun hne => hn ⟨s, hs, by rw [bne_iff_ne]; exact hne⟩)
        rw [ha] at HZ
        have Hz : Hid (∃ t, t < N ∧ u t ≠ 0) := Lib.hid (Classical.byContradiction fun hn => hz fun t ht => Classical.byContradiction fun hne => hn ⟨t, ht, hne⟩)
        clear ha hz
        gi_wp2
        refine ⟨trivial, ?_⟩
        refine CallsIn.mono (CallsIn.inRound l (callsIn_wide.2 HZ.out)) ?_
        rintro e Y2 ⟨rfl, hb2⟩
        have hM2 := HMY.out.next hb2 (by have := HbY.out.size; omega)
        have d0 := hM2.bv.cell
        have d1 := hM2.bv.frozen
        have d2 := hM2.bf.cell
        have d3 := hM2.bf.frozen
        have n1 : ¬ gf = g0 + 1 := by omega
        have n2 : ¬ g0 + 1 = gf := by omega
        have HM2 := Lib.hid hM2
        have Hb2 := Lib.hid hb2
        clear hb2 HZ hM2
        gi_wp2
        have hgs : g0 ≤ Y2.heap.size := by have := HbY.out.size; have := Hb2.out.size; omega
        have hst1 := boxed_far (HM2.out.bf) n2 (.slice qs N cs)
        refine ⟨(keeps_of_below Hb2.out).trans (((KeepsOthers.setCell _ _ _).from _).trans ((KeepsOthers.setCell _ _ _).from _)), rfl, ⟨?_, hst1.set _, ?_, ⟨s, u, qs, cs, Hs.out, Hxs.out, Hu.out, Hz.out, boxed_far (HM2.out.bv.set _) n1 _, ?_⟩, ?_, ?_⟩, ?_⟩
        · exact (HM2.out.bx.setFar (by omega) _).setFar (by omega) _
        · exact SlAt.setBox (SlAt.setBox HM2.out.edges HM2.out.bv (fun i j => by simp [edC]) _) hst1 (fun i j => by simp [edC]) _
        · exact SlAt.setBox (SlAt.setBox (SlAt.mono Hrow.out (Nat.le_refl _) Hb2.out) HM2.out.bv (fun i j => by simp) _) hst1 (fun i j => by simp) _
        · exact (HM2.out.below.setCell (by simp) _).setCell (by simp; omega) _
        · exact (HM2.out.marks.setCell HM2.out.bv _).setCell hst1 _
        · have := HbY.out.size
          have := Hb2.out.size
          simp; omega
    case done =>
      rintro D xs Y hD hS ⟨hpre, hbY⟩ hK
      have hMY := HM3.out.next hbY (by omega)
      have HLD : Hid (LeastD (frE E) (toE E) n N m x) := Lib.hid (fun s hs hne u hu t ht => by
        obtain ⟨y, hy, he⟩ := hS s hs hne
        subst he
        exact hpre y hy u hu t ht)
      have HMk := Lib.hid (hMY.marks.cons (D := D) (by omega) (fun D' h => by have := HDl.out D' h; omega) hK)
      have hbf := hMY.bf.cell
      have HMY := Lib.hid hMY
      have HK := Lib.hid hK
      clear hpre hbY hMY hS hK
      go_wp2_with fail
      have hal := (Below.refl Y.heap.size Y).alloc (Nat.le_refl _) (.cells #[.bool false] 4)
      have hgy : g0 + 1 < Y.heap.size := HMY.out.bv.lt
      refine ⟨0, by have := HR.out.meas; rw [if_pos rfl] at this; omega, ?_⟩
      rw [← HHI.out]
      have hls := fun k0 hk0 => (LsR.mk (LL := LL) (v := v) (k := k0) (HMY.out.bx.below hal) ((hal.block _ HMY.out.bv.lt).trans HMY.out.bv) (Boxed.new Y _ _) (hgy) (SlAt.mono HMY.out.edges (Nat.le_refl _) hal) (SlAt.mono HMY.out.row (Nat.le_refl _) hal) (HR.out.le) (HR.out.hld) (HR.out.ne) (fun _ => HLD.out) hk0 (HMY.out.below.trans (hal.mono (by omega))) (HMk.out.below hal))
      rw [← Hds.out]
      exact ⟨Y.heap.size, false, q1, cq1, x, D :: Ds, _, _, _, _, _, _, _, _, _, _, _, _, hls _ (by simp), rfl⟩
    case stop =>
      rintro D cd pre Y hD ⟨rfl, hX, hsY⟩ hK
      have hbf := hX.bf.cell
      have HX := Lib.hid hX
      have HMk := Lib.hid (hX.marks.cons (D := D) (by omega) (fun D' h => by have := HDl.out D' h; omega) hK)
      clear hX hK
      go_wp2_with fail
      have hal := (Below.refl Y.heap.size Y).alloc (Nat.le_refl _) (.cells #[.bool true] 4)
      obtain ⟨h1, h2, h3, ⟨s, u, q2, cq2, f1, f2, f3, f4, f5, f6⟩, h5, h6⟩ := HX.out
      have hgy : g0 + 1 < Y.heap.size := f5.lt
      have hle : ∀ t, t < N → u t ≤ x t := fun t ht => by
        have := f3.1 t ht
        unfold decE at this
        split at this <;> omega
      have hsz : szE u N < szE x N := dec_sz f1 (fun t ht => f3.nonneg t ht) f3.1
      refine ⟨szE u N + 1, by have := HR.out.meas; rw [if_pos rfl] at this; omega, ?_⟩
      rw [← HHI.out]
      have hls := fun k0 hk0 => (LsR.mk (LL := LL) (v := v) (k := k0) (h1.below hal) ((hal.block _ f5.lt).trans f5) (Boxed.new Y _ _) (hgy) (SlAt.mono h3 (Nat.le_refl _) hal) (SlAt.mono f6 (Nat.le_refl _) hal) (fun t ht => Int.le_trans (hle t ht) (HR.out.le t ht)) (f3.2.1) (f4) (fun h => (by cases h)) hk0 (h5.trans (hal.mono (by omega))) (HMk.out.below hal))
      rw [← Hds.out]
      exact ⟨Y.heap.size, true, q2, cq2, u, D :: Ds, _, _, _, _, _, _, _, _, _, _, _, _, hls _ (by rw [if_pos rfl]; exact Nat.le_refl _), rfl⟩
end Go.Proofs.Ytlaoijfphkhchaa
