/- window.Build. -/
import Derived.Test.YtcafeffgaokiaaaK30
import Derived.Test.YtcafeffgaokiaaaK28
import Derived.Maps.OwnIn
import Derived.Sort.CutIn
import Derived.Laws.Rows
import Derived.Test.YtcafeffgaokiaaaK31
import Derived.Test.YtcafeffgaokiaaaK23
namespace Go.Proofs.Ytcafeffgaokiaaa
open Go.RowKit Go.Maps Go.Lib Go.Sort
attribute [local go_sem] Oper.semAt_some wideF
def zDec : Value := .agg #[.int .i64 0, .int .i64 0, .int .i64 0, .int .i64 0, .int .i64 0, .slice none 0 0]
def decV (l : Int) (B I P F : Nat) (v : Value) : Value := .agg #[.int .i64 l, .int .i64 (B : Int), .int .i64 (I : Int), .int .i64 (P : Int), .int .i64 (F : Int), v]
/-- What window.Build answers; lo: the entries lie in blocks from there on. -/
def BuildPost (lo : Nat) (l : Int) (B I : Nat) (m : EM) (P F N : Nat) (e : Ending) (w' : World) : Prop :=
  (manyP m.r I N = true ∧ e = .returned (.tuple #[zDec, .int .i64 4])) ∨
  (manyP m.r I N = false ∧ ¬ Cons (pathE m P N) ∧ e = .returned (.tuple #[zDec, .int .i64 17])) ∨
  (manyP m.r I N = false ∧ Cons (pathE m P N) ∧ ∃ (es : List Ent) (a : Option Addr) (cap : Nat), e = .returned (.tuple #[decV l B I P F (.slice a es.length cap), .int .i64 0]) ∧ EntsAt w' a es ∧ Built (pathE m P N) es ∧ ∀ q, a = some q → lo ≤ q.block)
theorem alloc3 (w : World) (A B C : Obj) : (((w.alloc A).alloc B).alloc C).heap[w.heap.size]? = some A ∧ (((w.alloc A).alloc B).alloc C).heap[w.heap.size + 1]? = some B ∧ (((w.alloc A).alloc B).alloc C).heap[w.heap.size + 1 + 1]? = some C ∧ (((w.alloc A).alloc B).alloc C).heap.size = w.heap.size + 1 + 1 + 1 := by
  have s1 : (w.alloc A).heap.size = w.heap.size + 1 := World.size_alloc _ _
  have s2 : ((w.alloc A).alloc B).heap.size = w.heap.size + 1 + 1 := by rw [World.size_alloc, s1]
  have h2 := World.alloc_heap_new (w.alloc A) B
  have h3 := World.alloc_heap_new ((w.alloc A).alloc B) C
  rw [s1] at h2
  rw [s2] at h3
  refine ⟨?_, ?_, h3, by rw [World.size_alloc, s2]⟩
  · exact (Below.heap_alloc _ _ _ (by rw [s2]; omega)).trans ((Below.heap_alloc _ _ _ (by rw [s1]; omega)).trans (World.alloc_heap_new w A))
  · exact (Below.heap_alloc _ _ _ (by rw [s2]; omega)).trans h2
def encO (l b i : Int) (p : Option Addr) (r c : Nat) : Obj := .cells #[.int .i64 l, .int .i64 b, .int .i64 i, .slice p r c] 24 (0, 0)
def decO (l b i p f : Int) (v : Value) : Obj := .cells #[.int .i64 l, .int .i64 b, .int .i64 i, .int .i64 p, .int .i64 f, v] 30 (0, 0)
def errO (e : Int) : Obj := .cells #[.int .i64 e] 31 (0, 0)
theorem cells_encO {W : World} {g : Nat} {l b i : Int} {p : Option Addr} {r c : Nat} (h : W.heap[g]? = some (encO l b i p r c)) : W.cell? ⟨g, 0, none⟩ = some (.int .i64 l) ∧ W.cell? ⟨g, 1, none⟩ = some (.int .i64 b) ∧ W.cell? ⟨g, 2, none⟩ = some (.int .i64 i) ∧ W.cell? ⟨g, 3, none⟩ = some (.slice p r c) := by
  unfold encO at h
  refine ⟨?_, ?_, ?_, ?_⟩ <;> simp [World.cell?, h]
theorem cells_decO {W : World} {g : Nat} {l b i p f : Int} {v : Value} (h : W.heap[g]? = some (decO l b i p f v)) : (W.cell? ⟨g, 0, none⟩ = some (.int .i64 l) ∧ W.cell? ⟨g, 1, none⟩ = some (.int .i64 b) ∧ W.cell? ⟨g, 2, none⟩ = some (.int .i64 i) ∧ W.cell? ⟨g, 3, none⟩ = some (.int .i64 p) ∧ W.cell? ⟨g, 4, none⟩ = some (.int .i64 f) ∧ W.cell? ⟨g, 5, none⟩ = some v) ∧ W.frozen? ⟨g, 0, none⟩ = false ∧ W.frozen? ⟨g, 1, none⟩ = false ∧ W.frozen? ⟨g, 2, none⟩ = false ∧ W.frozen? ⟨g, 3, none⟩ = false ∧ W.frozen? ⟨g, 4, none⟩ = false ∧ W.frozen? ⟨g, 5, none⟩ = false := by
  unfold decO at h
  refine ⟨⟨?_, ?_, ?_, ?_, ?_, ?_⟩, ?_, ?_, ?_, ?_, ?_, ?_⟩ <;> simp [World.cell?, World.frozen?, h]
theorem ents_block {W W' : World} {blk : Nat} {es : List Ent} (h : EntsAt W (some ⟨blk, 0, none⟩) es) (hb : W'.heap[blk]? = W.heap[blk]?) : EntsAt W' (some ⟨blk, 0, none⟩) es := by
  rcases h with h | ⟨b, off, he, hlt, hc⟩
  · exact .inl h
  · cases he
    refine .inr ⟨blk, 0, rfl, ?_, fun i hi j hj => ?_⟩
    · rw [Array.getElem?_eq_getElem hlt] at hb
      exact (Array.getElem?_eq_some_iff.1 hb).1
    · rw [← hc i hi j hj]
      unfold World.cell?
      simp only [hb]
theorem full_pos {ps xs : List (ByteArray × Nat)} (h : Full ps xs) (hp : 0 < ps.length) : 0 < xs.length := by
  obtain ⟨y, hy⟩ := List.exists_mem_of_length_pos hp
  exact List.length_pos_of_mem ((h.1 y).2 hy)
theorem set_cells {W : World} {g : Nat} {cs : Array Value} {t : TypeId} (h : W.heap[g]? = some (.cells cs t (0, 0))) (j : Nat) (v : Value) : (W.setCell ⟨g, j, none⟩ v).heap[g]? = some (.cells (cs.setIfInBounds j v) t (0, 0)) := by
  rw [setCell_eq]
  simp [mapBlock, h, onCells, Array.getElem?_modify]
/-- Both results are stored. -/
theorem put_facts {W : World} {g : Nat} {l0 b0 i0 p0 f0 e0 : Int} {v0 : Value} (h1 : W.heap[g]? = some (decO l0 b0 i0 p0 f0 v0)) (h2 : W.heap[g + 1]? = some (errO e0)) (l b i p f e : Int) (v : Value) (X : World)
    (hX : X = (((((((W.setCell ⟨g, 0, none⟩ (.int .i64 l)).setCell ⟨g, 1, none⟩ (.int .i64 b)).setCell ⟨g, 2, none⟩ (.int .i64 i)).setCell ⟨g, 3, none⟩ (.int .i64 p)).setCell ⟨g, 4, none⟩ (.int .i64 f)).setCell ⟨g, 5, none⟩ v).setCell ⟨g + 1, 0, none⟩ (.int .i64 e))) :
    X.heap[g]? = some (decO l b i p f v) ∧ X.heap[g + 1]? = some (errO e) ∧ (∀ k, k ≠ g → k ≠ g + 1 → X.heap[k]? = W.heap[k]?) ∧ X.heap.size = W.heap.size ∧ ∀ (B : Nat) (w : World), B ≤ g → Below B w W → Below B w X := by
  unfold decO at h1
  unfold errO at h2
  have s6 := set_cells (set_cells (set_cells (set_cells (set_cells (set_cells h1 0 (.int .i64 l)) 1 (.int .i64 b)) 2 (.int .i64 i)) 3 (.int .i64 p)) 4 (.int .i64 f)) 5 v
  have hs : ∀ (Y : World) (q j k : Nat) (u : Value), k ≠ q → (Y.setCell ⟨q, j, none⟩ u).heap[k]? = Y.heap[k]? := fun Y q j k u hk => Below.heap_setCell Y ⟨q, j, none⟩ u k hk
  subst hX
  refine ⟨?_, ?_, fun k k1 k2 => ?_, by simp, fun B w hB hb => ?_⟩
  · rw [hs _ _ _ _ _ (by omega), s6]
    simp [decO]
  · refine (set_cells (cs := #[.int .i64 e0]) (t := 31) ?_ 0 (.int .i64 e)).trans ?_
    · rw [hs _ _ _ _ _ (by omega), hs _ _ _ _ _ (by omega), hs _ _ _ _ _ (by omega), hs _ _ _ _ _ (by omega), hs _ _ _ _ _ (by omega), hs _ _ _ _ _ (by omega)]
      exact h2
    · simp [errO]
  · rw [hs _ _ _ _ _ k2, hs _ _ _ _ _ k1, hs _ _ _ _ _ k1, hs _ _ _ _ _ k1, hs _ _ _ _ _ k1, hs _ _ _ _ _ k1, hs _ _ _ _ _ k1]
  · exact ((((((hb.setCell (p := ⟨g, 0, none⟩) hB _).setCell (p := ⟨g, 1, none⟩) hB _).setCell (p := ⟨g, 2, none⟩) hB _).setCell (p := ⟨g, 3, none⟩) hB _).setCell (p := ⟨g, 4, none⟩) hB _).setCell (p := ⟨g, 5, none⟩) hB _).setCell (p := ⟨g + 1, 0, none⟩) (Nat.le_succ_of_le hB) _
theorem load_dec {W : World} {g : Nat} {l b i p f : Int} {v : Value} (h : W.heap[g]? = some (decO l b i p f v)) : (loadVar 30 ⟨g, 0, none⟩).run Try.prog W = .ok (.agg #[.int .i64 l, .int .i64 b, .int .i64 i, .int .i64 p, .int .i64 f, v]) W :=
  run_loadVar_row W g _ _ _ _ _ h Try.underlying30 rfl (by kernel_rfl)
theorem results2_run {fn : Func} {p q : Tmp} {ty tq : TypeId} (h : fn.results = #[.cell p ty, .cell q tq]) (tmps : Array Value) (P : Program) (w : World) (a b : Addr) (v u : Value) (ha : tmps.getD p undef = .pointer (some a)) (hb : tmps.getD q undef = .pointer (some b)) (h1 : (loadVar ty a).run P w = .ok v w) (h2 : (loadVar tq b).run P w = .ok u w) : (results fn tmps).run P w = .ok (.tuple #[v, u]) w := by
  rw [results_cells2 h, ha, hb]
  simp [asAddr, Result.andThen, h1, h2]
theorem load_errno {W : World} {g : Nat} {e : Int} (h : W.heap[g]? = some (errO e)) : (loadVar 31 ⟨g, 0, none⟩).run Try.prog W = .ok (.int .i64 e) W := by
  have hc : W.cell? ⟨g, 0, none⟩ = some (.int .i64 e) := by unfold errO at h; simp [World.cell?, h]
  have hagg : (isAgg 31).run Try.prog W = .ok false W := by
    unfold isAgg
    rw [Sem.run_bind, run_underlying Try.underlying31 W]
    rfl
  simp [loadVar, Sem.run_bind, hagg, hc, go_sem]
/-- The results of window.Build, from the objects. -/
theorem build_results {W : World} {g1 g2 : Nat} {l b i p f e : Int} {v : Value} (h1 : W.heap[g1]? = some (decO l b i p f v)) (h2 : W.heap[g2]? = some (errO e)) (tmps : Array Value) (hp : tmps.getD 6 undef = .pointer (some ⟨g1, 0, none⟩)) (hq : tmps.getD 7 undef = .pointer (some ⟨g2, 0, none⟩)) :
    (results Try.f31 tmps).run Try.prog W = .ok (.tuple #[.agg #[.int .i64 l, .int .i64 b, .int .i64 i, .int .i64 p, .int .i64 f, v], .int .i64 e]) W :=
  results2_run rfl tmps _ W _ _ _ _ hp hq (load_dec h1) (load_errno h2)
theorem cell_errO {W : World} {g : Nat} {e : Int} (h : W.heap[g]? = some (errO e)) : W.cell? ⟨g, 0, none⟩ = some (.int .i64 e) ∧ W.frozen? ⟨g, 0, none⟩ = false := by
  unfold errO at h
  refine ⟨?_, ?_⟩ <;> simp [World.cell?, World.frozen?, h]
theorem paths_boxes (X : World) (g : Nat) (hg : X.heap.size = g) (L b i : Int) (m : EM) (p : Option Addr) (c : Nat) (P F : Int) (t1 t2 t3 : TypeId) (w1 : World)
    (h : w1 = ((X.alloc (.cells #[.int .i64 L, .int .i64 b, .int .i64 i, .slice p m.r c] t1)).alloc (.cells #[.int .i64 P] t2)).alloc (.cells #[.int .i64 F] t3)) :
    w1.heap.size = g + 1 + 1 + 1 ∧ Below X.heap.size X w1 ∧ EBox w1 g L b i m p c ∧ w1.cell? ⟨g + 1, 0, none⟩ = some (.int .i64 P) ∧ w1.cell? ⟨g + 1 + 1, 0, none⟩ = some (.int .i64 F) := by
  obtain ⟨a1, a2, a3, a4⟩ := alloc3 X (.cells #[.int .i64 L, .int .i64 b, .int .i64 i, .slice p m.r c] t1) (.cells #[.int .i64 P] t2) (.cells #[.int .i64 F] t3)
  rw [← h, hg] at a1 a2 a3 a4
  refine ⟨a4, ?_, ⟨?_, ?_, ?_, ?_⟩, ?_, ?_⟩
  · rw [h]; exact (((Below.refl _ X).alloc (Nat.le_refl _) _).alloc (by simp) _).alloc (by simp; omega) _
  · simp [World.cell?, a1]
  · simp [World.cell?, a1]
  · simp [World.cell?, a1]
  · simp [World.cell?, a1]
  · simp [World.cell?, a2]
  · simp [World.cell?, a3]
theorem turn_block {C k : Nat} {A B : World} {row : Option Nat} (hg : A.grownBy B row) (hr : ∀ r, row = some r → TurnT C (fun _ _ => False) r A) (hk : k < C) {o : Obj} (ho : A.heap[k]? = some o) : B.heap[k]? = some o :=
  (hg.block k (Array.getElem?_eq_some_iff.1 ho).1 (fun e => by
    rcases hr k e.symm with h | h
    · exact h.elim
    · omega)).trans ho
theorem turn_below {C S : Nat} {w A B : World} {row : Option Nat} (h : Below S w A) (hs : S ≤ A.heap.size) (hg : A.grownBy B row) (hr : ∀ r, row = some r → TurnT C (fun _ _ => False) r A) (hC : S ≤ C) : Below S w B :=
  h.grown hg hs fun k e => by
    rcases hr k e with h1 | ⟨h1, _⟩
    · exact h1.elim
    · exact Nat.le_trans hC h1
/-- What the loop over the paths leaves as it is: the box of the map, the results. -/
def RdB (w : World) (g h S : Nat) (E : Obj) (W : World) : Prop :=
  W.heap[h + 1]? = some (.cells #[.map (some h)] 109 (0, 0)) ∧ W.heap[g]? = some E ∧ W.heap[g + 1]? = some (decO 0 0 0 0 0 (.slice none 0 0)) ∧ W.heap[g + 1 + 1]? = some (errO 0) ∧ Below w.heap.size w W ∧ S ≤ W.heap.size
theorem RdB.turn {w : World} {g h S C : Nat} {E : Obj} {A B : World} {row : Option Nat} (hR : RdB w g h S E A) (hg : A.grownBy B row) (hr : ∀ r, row = some r → TurnT C (fun _ _ => False) r A) (h1 : h + 1 < C) (h2 : g + 1 + 1 < C) (h3 : w.heap.size ≤ C) : RdB w g h S E B :=
  ⟨turn_block hg hr h1 hR.1, turn_block hg hr (by omega) hR.2.1, turn_block hg hr (by omega) hR.2.2.1, turn_block hg hr h2 hR.2.2.2.1, turn_below hR.2.2.2.2.1 hR.2.2.2.2.1.size hg hr h3, Nat.le_trans hR.2.2.2.2.2 hg.size⟩
/-- Behind a turn of the map's block. -/
theorem RdB.map {w : World} {g h S : Nat} {E : Obj} {A B : World} (hR : RdB w g h S E A) (hg : A.grownBy B (some h)) (h1 : g + 1 + 1 < h) (h3 : w.heap.size ≤ h) : RdB w g h S E B := by
  have hb : ∀ k o, k ≠ h → A.heap[k]? = some o → B.heap[k]? = some o := fun k o hk ho => (hg.block k (Array.getElem?_eq_some_iff.1 ho).1 (fun e => hk (by cases e; rfl))).trans ho
  exact ⟨hb _ _ (by omega) hR.1, hb _ _ (by omega) hR.2.1, hb _ _ (by omega) hR.2.2.1, hb _ _ (by omega) hR.2.2.2.1, hR.2.2.2.2.1.grown hg hR.2.2.2.2.1.size (fun k e => by cases e; exact h3), Nat.le_trans hR.2.2.2.2.2 hg.size⟩
theorem keep_map {B h : Nat} {W W1 : World} (hg : W.grownBy W1 (some h)) (hh : h < B) : KeepsFrom B W W1 := ⟨hg.size, fun k o hk ho _ => (hg.block k (Array.getElem?_eq_some_iff.1 ho).1 (fun e => by cases e; omega)).trans ho⟩
theorem kph_map {lo hi h n : Nat} {D : DataW Unit} {W W1 : World} (hg : W.grownBy W1 (some h)) (ho : OwnM W h n D) : KpH lo hi W W1 :=
  ⟨hg.size, fun b o _ hb hc => (hg.block b (Array.getElem?_eq_some_iff.1 hb).1 (fun e => by
    cases e
    obtain ⟨o2, ho2, hc2⟩ := ho.obj
    rw [hb] at ho2; cases ho2; rw [hc] at hc2; cases hc2)).trans hb⟩
theorem keep_put {B g : Nat} {W X : World} (hs : X.heap.size = W.heap.size) (h : ∀ k, k ≠ g → k ≠ g + 1 → X.heap[k]? = W.heap[k]?) (hB : g + 1 < B) : KeepsFrom B W X := ⟨by omega, fun k o hk ho _ => (h k (by omega) (by omega)).trans ho⟩
/-- A window that a path writes. -/
theorem path_small {m : EM} {I B P N : Nat} (hm : m.Ok I B) (hPN : P < N) (hN : N ≤ 16) (hB : B ≤ 16) (hI : I ≤ 256) {x : ByteArray × Nat} (hx : x ∈ pathE m P N) : x.1.size ≤ maxLen ∧ x.2 < 256 := by
  obtain ⟨s, l, h1, h2, h3, rfl⟩ := (pathE_mem hm hPN x).1 hx
  have h4 := encW_size hm l s ByteArray.empty h1 h3
  have h5 : l.length * B ≤ 16 * 16 := Nat.mul_le_mul (by omega) hB
  refine ⟨?_, ?_⟩
  · show (encW m s l ByteArray.empty).1.size ≤ maxLen
    rw [h4, show ByteArray.empty.size = 0 from rfl]
    unfold maxLen
    omega
  · show l.getD P 0 < 256
    rw [List.getD_eq_getElem?_getD, List.getElem?_eq_getElem (by omega)]
    exact Nat.lt_of_lt_of_le (h3 _ (List.getElem_mem _)) hI
theorem path_few {m : EM} {I B P N : Nat} (hm : m.Ok I B) (hmany : manyP m.r I N = false) : (pathE m P N).length ≤ 65536 := by
  rw [pathE_len hm]
  unfold manyP at hmany
  have := of_decide_eq_false hmany
  omega
/-- What the loop over the map holds: the decoder with its entries, the results. -/
def RdC (w : World) (g k S : Nat) (l : Int) (B I P F : Nat) (pre : List (ByteArray × Nat)) (v : Value) (W : World) : Prop :=
  W.heap[k]? = some (decO l (B : Int) (I : Int) (P : Int) (F : Int) v) ∧ OwnEs W S v pre ∧ W.heap[g + 1]? = some (decO 0 0 0 0 0 (.slice none 0 0)) ∧ W.heap[g + 1 + 1]? = some (errO 0) ∧ Below w.heap.size w W ∧ S ≤ W.heap.size
theorem RdC.turn {w : World} {g k S : Nat} {l : Int} {B I P F : Nat} {pre : List (ByteArray × Nat)} {v : Value} {X Y : World} {row : Option Nat} {C T : Nat} (h : RdC w g k S l B I P F pre v X) (hg : X.grownBy Y row) (hr : ∀ r, row = some r → TurnT C (TB T) r X) (h1 : w.heap.size ≤ C) (h2 : w.heap.size ≤ T) : RdC w g k S l B I P F pre v Y :=
  ⟨tb_cells h.1 rfl hg hr, tb_ents h.2.1 hg hr, tb_cells h.2.2.1 rfl hg hr, tb_cells h.2.2.2.1 rfl hg hr, tb_below h.2.2.2.2.1 h.2.2.2.2.1.size hg hr h1 h2, Nat.le_trans h.2.2.2.2.2 hg.size⟩
/-- An entry is laid in. -/
theorem RdC.box {w : World} {g k S : Nat} {l : Int} {B I P F : Nat} {pre : List (ByteArray × Nat)} {v : Value} {X Y : World} {o : Obj} (h : RdC w g k S l B I P F pre v X) (hg : (X.alloc o).grownBy Y v.ownBlock) (hk : k < S) : Y.heap[k]? = some (decO l (B : Int) (I : Int) (P : Int) (F : Int) v) := by
  have hlt : k < X.heap.size := (Array.getElem?_eq_some_iff.1 h.1).1
  refine (hg.block k (by simp; omega) fun e => ?_).trans ((Below.heap_alloc _ _ _ hlt).trans h.1)
  have := (World.ownsRow.lt h.2.1 k e.symm).1
  omega
theorem RdC.step {w : World} {g k S : Nat} {l : Int} {B I P F : Nat} {pre : List (ByteArray × Nat)} {z : ByteArray × Nat} {v v' : Value} {X Y : World} {o : Obj} (h : RdC w g k S l B I P F pre v X) (hg : (X.alloc o).grownBy Y v.ownBlock) (hown : OwnEs Y S v' (pre ++ [z])) (hk : k < S) (h1 : g + 1 + 1 < k) (h2 : w.heap.size ≤ k) :
    X.heap.size ≤ (Y.setCell ⟨k, 5, none⟩ v').heap.size ∧ (∀ (b : Nat) (o : Obj), X.heap[b]? = some o → o.isCells = false → (Y.setCell ⟨k, 5, none⟩ v').heap[b]? = some o) ∧ RdC w g k S l B I P F (pre ++ [z]) v' (Y.setCell ⟨k, 5, none⟩ v') := by
  have hsz : X.heap.size ≤ Y.heap.size := by have := hg.size; simp at this; omega
  have hs : ∀ (q j b : Nat) (u : Value), b ≠ q → (Y.setCell ⟨q, j, none⟩ u).heap[b]? = Y.heap[b]? := fun q j b u hb => Below.heap_setCell Y ⟨q, j, none⟩ u b hb
  have hlow : ∀ b o, b < S → b ≠ k → X.heap[b]? = some o → (Y.setCell ⟨k, 5, none⟩ v').heap[b]? = some o := fun b o hb hne ho => by
    have hlt : b < X.heap.size := (Array.getElem?_eq_some_iff.1 ho).1
    rw [hs _ _ _ _ hne]
    refine (hg.block b (by simp; omega) fun e => ?_).trans ((Below.heap_alloc _ _ _ hlt).trans ho)
    have := (World.ownsRow.lt h.2.1 b e.symm).1
    omega
  have hS := h.2.2.2.2.2
  refine ⟨by simpa using hsz, fun b o2 ho hc => ?_, ?_, ?_, hlow _ _ (by omega) (by omega) h.2.2.1, hlow _ _ (by omega) (by omega) h.2.2.2.1, ?_, by simp; omega⟩
  · have hlt : b < X.heap.size := (Array.getElem?_eq_some_iff.1 ho).1
    have hne : b ≠ k := fun e => by rw [e, h.1] at ho; cases ho; cases hc
    rw [hs _ _ _ _ hne]
    refine (hg.block b (by simp; omega) fun e => ?_).trans ((Below.heap_alloc _ _ _ hlt).trans ho)
    rcases ents_ne h.2.1 ho (fun cur e => by rw [e] at hc; cases hc) with h3 | h3
    · rw [h3] at e; cases e
    · exact h3 e.symm
  · have hb := h.box hg hk
    unfold decO at hb ⊢
    rw [set_cells hb]
    simp
  · exact ownsRow_setCell_below hown (by show k < S; exact hk) _
  · have hb1 : Below w.heap.size w Y := by
      have h3 := h.2.2.2.2.1
      refine (h3.alloc h3.size o).grown hg (by have := h3.size; simp; omega) fun b e => ?_
      have := (World.ownsRow.lt h.2.1 b e).1
      omega
    exact hb1.setCell (p := ⟨k, 5, none⟩) h2 _
/-- The end of window.Build. -/
theorem build_ret {R : Ending → World → Prop} (tmps : Array Value) (X X4 : World) (g1 g2 D1 D2 : Nat) {l b i p f e : Int} {v : Value} (hX : X = X4) (hp : tmps.getD 6 undef = .pointer (some ⟨g1, 0, none⟩)) (hq : tmps.getD 7 undef = .pointer (some ⟨g2, 0, none⟩))
    (k1 : X4.heap[D1]? = some (.deferred (some []))) (k2 : X4.heap[D2]? = some (.deferred (some []))) (h1 : X4.heap[g1]? = some (decO l b i p f v)) (h2 : X4.heap[g2]? = some (errO e)) (hD : D1 < D2) (hg1 : g1 < D1) (hg2 : g2 < D1)
    (hR : ∀ X5 : World, (∀ k, k ≠ D1 → k ≠ D2 → X5.heap[k]? = X4.heap[k]?) → (∀ B (w : World), B ≤ D1 → Below B w X4 → Below B w X5) → R (.returned (.tuple #[.agg #[.int .i64 l, .int .i64 b, .int .i64 i, .int .i64 p, .int .i64 f, v], .int .i64 e])) X5) :
    bodyPostM Fence.wide 4 Try.prog Try.f31 R Exit.ret { tmps := tmps, defers := [{ target := .collected D2, args := #[] }, { target := .collected D1, args := #[] }] } X := by
  subst hX
  refine ⟨by simp, .inl ⟨_, _, rfl, run_takeDeferred k2, ?_⟩⟩
  refine ⟨by simp, .inl ⟨_, _, rfl, run_takeDeferred ((World.putObj_heap_other (by omega)).trans k1), ?_⟩⟩
  refine ⟨_, build_results (g1 := g1) (g2 := g2) ((World.putObj_heap_other (by omega)).trans ((World.putObj_heap_other (by omega)).trans h1)) ((World.putObj_heap_other (by omega)).trans ((World.putObj_heap_other (by omega)).trans h2)) _ hp hq, ?_⟩
  refine hR _ (fun k n1 n2 => by rw [World.putObj_heap_other n1, World.putObj_heap_other n2]) (fun B w hB h4 => ?_)
  exact ⟨h4.os, h4.tape, h4.output, by simpa using h4.size, fun b hb => by rw [World.putObj_heap_other (by omega), World.putObj_heap_other (by omega)]; exact h4.block b hb⟩
/-- Entries of different windows, all of them from a list. -/
def NewS (ps pre : List (ByteArray × Nat)) : Prop := (pre.map (·.1)).Nodup ∧ ∀ x ∈ pre, x ∈ ps
theorem NewS.few {ps pre : List (ByteArray × Nat)} (h : NewS ps pre) : pre.length ≤ ps.length := by
  have hn : (pre.map (·.1.data.toList)).Nodup := by
    have h1 : pre.Pairwise fun a b => a.1 ≠ b.1 := List.pairwise_map.1 h.1
    exact List.pairwise_map.2 (h1.imp fun hab e => hab (ba_same e))
  have hs : pre.map (·.1.data.toList) ⊆ ps.map (·.1.data.toList) := by
    intro w hw
    obtain ⟨x, hx, rfl⟩ := List.mem_map.1 hw
    exact List.mem_map.2 ⟨x, h.2 x hx, rfl⟩
  have := len_subset _ _ hn hs
  rwa [List.length_map, List.length_map] at this
theorem NewS.snoc {ps pre : List (ByteArray × Nat)} (h : NewS ps pre) {z : ByteArray × Nat} (hz : z ∈ ps) (hn : z.1 ∉ pre.map (·.1)) : NewS ps (pre ++ [z]) := by
  refine ⟨?_, fun x hx => ?_⟩
  · rw [List.map_append, List.map_cons, List.map_nil, List.nodup_append]
    refine ⟨h.1, by simp, ?_⟩
    intro a ha b hb e
    rw [List.mem_singleton] at hb
    subst hb
    exact hn (e ▸ ha)
  · rcases List.mem_append.1 hx with hx | hx
    · exact h.2 x hx
    · rw [List.mem_singleton] at hx; rw [hx]; exact hz
set_option maxRecDepth 100000 in
set_option maxHeartbeats 8000000 in
theorem build_aux (l : Int) (B I : Nat) (m : EM) (p : Option Addr) (c P F P1 N : Nat) (w : World) (hA : m.At w p) (hf : m.Fit) (he : encCheck l (B : Int) (I : Int) m = 0) (hB : B ≤ 16) (hI1 : 1 ≤ I) (hI : I ≤ 256) (r1 : 0 < m.r) (r2 : m.r ≤ 64) (hok : m.Ok I B) (hPN : P < N) (hNle : N ≤ 16) (hPF : P + F < 16)
    (r3 : wrap64 ((P : Int) + 1) = (P1 : Int)) (r4 : IntKind.i64.wrap ((P : Int) + 1) = (P1 : Int)) (r5 : wrap64 ((P1 : Int) + (F : Int)) = (N : Int)) (r6 : IntKind.i64.wrap ((P1 : Int) + (F : Int)) = (N : Int)) (EN : Hid (P + 1 + F = N)) :
    Calls Try.prog 31 #[.agg #[.int .i64 l, .int .i64 (B : Int), .int .i64 (I : Int), .slice p m.r c], .int .i64 (P : Int), .int .i64 (F : Int)] w fun e w' => BuildPost w.heap.size l B I m P F N e w' ∧ Below w.heap.size w w' := by
  have R3 := Lib.hid r3
  have R4 := Lib.hid r4
  have R5 := Lib.hid r5
  have R6 := Lib.hid r6
  clear r3 r4 r5 r6
  obtain ⟨V, hV⟩ : ∃ V, ((w.alloc (encO l (B : Int) (I : Int) p m.r c)).alloc (decO 0 0 0 0 0 (.slice none 0 0))).alloc (errO 0) = V := ⟨_, rfl⟩
  have hbV : Below w.heap.size w V := by rw [← hV]; exact (((Below.refl w.heap.size w).alloc (Nat.le_refl _) _).alloc (by simp) _).alloc (by simp; omega) _
  obtain ⟨g, hg⟩ : ∃ g, w.heap.size = g := ⟨_, rfl⟩
  obtain ⟨o0, o1, o2, hsV⟩ := alloc3 w (encO l (B : Int) (I : Int) p m.r c) (decO 0 0 0 0 0 (.slice none 0 0)) (errO 0)
  rw [hV, hg] at o0 o1 o2 hsV
  have HO := Lib.hid (fun (W : World) (h : Below V.heap.size V W) => show W.heap[g]? = some (encO l (B : Int) (I : Int) p m.r c) ∧ W.heap[g + 1]? = some (decO 0 0 0 0 0 (.slice none 0 0)) ∧ W.heap[g + 1 + 1]? = some (errO 0) from
    ⟨(h.block _ (by omega)).trans o0, (h.block _ (by omega)).trans o1, (h.block _ (by omega)).trans o2⟩)
  obtain ⟨x0, x1, x2, x3⟩ := cells_encO o0
  clear o0 o1 o2
  unfold encO decO errO at hV
  have HC := Lib.hid (fun (W : World) (h : Below w.heap.size w W) => encCheck_any l (B : Int) (I : Int) m p c W (hA.below (Nat.le_refl _) h) hf)
  rw [he] at HC
  refine calls_marks Try.func31 rfl ?_
  simp only [Try.ntmps31, List.size_toArray, List.length_cons, List.length_nil, Nat.reduceAdd, Nat.reduceSub, Array.replicate_succ, Array.replicate_zero, List.push_toArray, List.append_toArray, List.nil_append, List.cons_append]
  have HCM := Lib.hid (fun (W : World) => manyW_any l (B : Int) I m p c N W (Nat.le_trans hNle (by decide)) hI1 hI r2)
  have HbV := Lib.hid hbV
  clear hbV he
  go_upto_region 1 with (fail)
  clear hV
  go_wp2_with fail
  refine (HC.out _ HbV.out).mono ?_; rintro e W1 ⟨rfl, hb⟩
  obtain ⟨y0, y1, y2, y3⟩ := cells_encO (HO.out _ hb).1
  have HB1 := Lib.hid hb
  clear hb x0 x1 x2 x3
  have p1 : ¬ (P : Int) < 0 := by omega
  have p2 : ¬ (F : Int) < 0 := by omega
  have p3 : ¬ (16 : Int) ≤ (P : Int) := by omega
  have p4 : wrap64 (16 - (P : Int)) = ((16 - P : Nat) : Int) := by rw [show (16 : Int) - (P : Int) = ((16 - P : Nat) : Int) from by omega]; exact wrapN _ (by omega)
  have p5 : IntKind.i64.wrap (16 - (P : Int)) = ((16 - P : Nat) : Int) := (IntWalk.i64_left _).trans p4
  have p6 : ¬ ((16 - P : Nat) : Int) ≤ (F : Int) := by omega
  have q1 : decide ((P : Int) < 0) = false := decide_eq_false p1
  have q2 : decide ((F : Int) < 0) = false := decide_eq_false p2
  have q3 : decide ((16 : Int) ≤ (P : Int)) = false := decide_eq_false p3
  have q4 : decide (16 ≤ F + P) = false := decide_eq_false (by omega)
  have HW1 := Lib.hid (HbV.out.trans (HB1.out.mono HbV.out.size))
  clear p1 p2 p3 p4 p5 p6
  have r3 := R3.out
  have r4 := R4.out
  have r5 := R5.out
  have r6 := R6.out
  go_upto_region 5 with (fail)
  go_wp2_with fail
  clear r3 r4 r5 r6 R3 R4 R5 R6
  refine (HCM.out W1).mono ?_; rintro e W2 ⟨rfl, hb⟩
  have HB2 := Lib.hid (HB1.out.trans (hb.mono HB1.out.size))
  have HW2 := Lib.hid (HW1.out.trans (hb.mono HW1.out.size))
  obtain ⟨o0, o1, o2⟩ := HO.out _ HB2.out
  obtain ⟨y0, y1, y2, y3⟩ := cells_encO o0
  obtain ⟨⟨z0, z1, z2, z3, z4, z5⟩, f0, f1, f2, f3, f4, f5⟩ := cells_decO o1
  obtain ⟨u0, fu⟩ := cell_errO o2
  have O0 := Lib.hid o0
  have O1 := Lib.hid o1
  have O2 := Lib.hid o2
  clear hb o0 o1 o2 HB1 HW1
  by_cases hmany : manyP m.r I N = true
  · rw [hmany]
    go_wp2
    (try simp only [Exit.inBlock, Exit.then])
    refine ⟨_, build_results (g1 := g + 1) (g2 := g + 1 + 1) ?_ ?_ _ rfl rfl, .inl ⟨hmany, rfl⟩, ?_⟩
    · exact (put_facts O1.out O2.out _ _ _ _ _ _ _ _ rfl).1
    · exact (put_facts O1.out O2.out _ _ _ _ _ _ _ _ rfl).2.1
    · exact (put_facts O1.out O2.out _ _ _ _ _ _ _ _ rfl).2.2.2.2 _ _ (by omega) HW2.out
  have hmf : manyP m.r I N = false := by simpa using hmany
  rw [hmf]
  have Hmf := Lib.hid hmf
  clear hmany hmf
  obtain ⟨h, hh⟩ : ∃ x, W2.heap.size = x := ⟨_, rfl⟩
  have hmm := @run_makeMap Try.prog
  go_upto_region 8 with (fail)
  clear hmm
  have hgh : g + 1 + 1 < h := by have := HB2.out.size; omega
  obtain ⟨W3, hW3⟩ : ∃ W3, (W2.alloc (.map #[] 0)).alloc (.cells #[.map (some h)] 109) = W3 := ⟨_, rfl⟩
  have hs3 : W3.heap.size = h + 1 + 1 := by rw [← hW3]; simp [hh]
  have hb3 : Below W2.heap.size W2 W3 := by rw [← hW3]; exact ((Below.refl _ _).alloc (Nat.le_refl _) _).alloc (by simp) _
  have hown3 : OwnM W3 h 0 (.map []) := by rw [← hW3, ← hh]; exact (World.ownsMap_made W2 _ _ _).alloc _
  have hbx3 : W3.heap[h + 1]? = some (.cells #[.map (some h)] 109 (0, 0)) := by
    rw [← hW3]; have := World.alloc_heap_new (W2.alloc (.map #[] 0)) (.cells #[.map (some h)] 109); rwa [World.size_alloc, hh] at this
  have HB3 := Lib.hid (HB2.out.trans (hb3.mono HB2.out.size))
  have HW3 := Lib.hid (HW2.out.trans (hb3.mono HW2.out.size))
  obtain ⟨o0, o1, o2⟩ := HO.out _ HB3.out
  obtain ⟨x0, x1, x2, x3⟩ := cells_encO o0
  have HOwn3 := Lib.hid hown3
  have HBx3 := Lib.hid hbx3
  have N0 := Lib.hid o0
  have N1 := Lib.hid o1
  have N2 := Lib.hid o2
  clear y0 y1 y2 y3 z0 z1 z2 z3 z4 z5 f0 f1 f2 f3 f4 f5 u0 fu O0 O1 O2 o0 o1 o2 hb3 hown3 hbx3
  rw [hW3]
  clear hW3 HB2 HW2
  go_wp2_with fail
  refine (paths_any l (B : Int) (I : Int) p m.r c (P : Int) (F : Int) W3).mono ?_
  rintro e W4 ⟨rfl, hw4⟩
  dsimp only
  rw [hs3]
  obtain ⟨hs4, hb4, hE4, hP4, hF4⟩ := paths_boxes W3 (h + 1 + 1) hs3 l (B : Int) (I : Int) m p c (P : Int) (F : Int) _ _ _ W4 hw4
  have HW4 := Lib.hid (HW3.out.trans (hb4.mono HW3.out.size))
  have hown4 : OwnM W4 h 0 (.map []) := HOwn3.out.of_block (hb4.block _ (by omega))
  have hR4 : RdB w g h W4.heap.size (encO l (B : Int) (I : Int) p m.r c) W4 := ⟨(hb4.block _ (by omega)).trans HBx3.out, (hb4.block _ (by omega)).trans N0.out, (hb4.block _ (by omega)).trans N1.out, (hb4.block _ (by omega)).trans N2.out, HW4.out, Nat.le_refl _⟩
  have hgw : w.heap.size ≤ h := by omega
  have hsq := paths_seq w h (h + 1) (h + 1 + 1) (h + 1 + 1 + 1) (h + 1 + 1 + 1 + 1) hgw (.inr (by omega)) (.inr (by omega)) (.inr (by omega)) l (B : Int) (I : Int) m p c I B P F hA hok hI r2 (by rw [EN.out]; exact hNle) hB
  rw [EN.out] at hsq
  have HSm := Lib.hid (fun (x : ByteArray × Nat) (hx : x ∈ pathE m P N) => path_small hok hPN hNle hB hI hx)
  have HFw := Lib.hid (path_few (P := P) hok Hmf.out)
  have HNe : Hid (0 < (pathE m P N).length) := Lib.hid (by rw [pathE_len hok]; exact Nat.mul_pos r1 (Nat.pow_pos hI1))
  clear hw4 hb4 HOwn3 HBx3 N0 N1 N2 HB3 HW3 x0 x1 x2 x3 hs3 HbV HC HCM HO hA hf hok hB hI1 hI r2 hsV
  go_wp2_with fail
  refine rangeW0 (gf := 84) (lb := #[.pointer (some ⟨h + 1 + 1 + 1, 0, none⟩), .pointer (some ⟨h + 1 + 1 + 1 + 1, 0, none⟩), .pointer (some ⟨h + 1 + 1, 0, none⟩)]) rfl (enters_of Try.func84 (by kernel_rfl) rfl)
    (hsq.toX (Kx := fun _ _ => True)) (fun _ _ _ => trivial) (by rintro r X h; exact h.elim) (fun h k => h.trans k) (fun X o o' ho hc => KpH.put o' ho hc)
    (fun X hX _ => ⟨by have := hX.size; omega, Low.of_below (HW4.out.trans (hX.mono HW4.out.size)), hE4.kept (lo := h) (hi := h + 1) (KpH.of_below hX) (.inr (by omega)), (KpH.of_below (lo := h) (hi := h + 1) hX).cell hP4 (.inr (by show h + 1 ≤ h + 1 + 1 + 1; omega)), (KpH.of_below (lo := h) (hi := h + 1) hX).cell hF4 (.inr (by show h + 1 ≤ h + 1 + 1 + 1 + 1; omega))⟩) (fun _ => rfl)
    (fun x s A B row h _ _ => h)
    (fun pre X => ∃ D, OwnM X h pre.length D ∧ MapOf D pre ∧ RdB w g h W4.heap.size (encO l (B : Int) (I : Int) p m.r c) X)
    (fun cd _ X => cd = .ret ∧ ¬ Cons (pathE m P N) ∧ X.heap[g + 1]? = some (decO 0 0 0 0 0 (.slice none 0 0)) ∧ X.heap[g + 1 + 1]? = some (errO 17) ∧ Below w.heap.size w X)
    (fun s A B row hh hg hr => by
      obtain ⟨D, h1, h2, h3⟩ := hh
      obtain ⟨o, ho, _⟩ := h1.obj
      exact ⟨D, h1.of_block ((turn_block hg hr (by omega) ho).trans ho.symm), h2, h3.turn hg hr (by omega) (by omega) (by omega)⟩)
    (fun cd s A B row hh hg hr => ⟨hh.1, hh.2.1, turn_block hg hr (by omega) hh.2.2.1, turn_block hg hr (by omega) hh.2.2.2.1, turn_below hh.2.2.2.2 hh.2.2.2.2.size hg hr (by omega)⟩)
    ⟨_, hown4, mapOf_nil, hR4⟩ ?a1 ?assign ?body ?done ?stop
  case assign =>
    intro lp x X K hK
    dsimp only [encP]
    gi_wp2
    exact hK
  case body =>
    rintro lp pre z X ⟨D, hown, hM, hR⟩ ⟨post, hpost⟩
    have hz : z ∈ pathE m P N := by rw [← hpost]; simp
    obtain ⟨hz1, hz2⟩ := HSm.out z hz
    have hpl : pre.length < 1000000 := by
      have h1 := HFw.out
      rw [← hpost, List.length_append] at h1
      omega
    have hkey := keyS hz1
    have hbx : X.cell? ⟨h + 1, 0, none⟩ = some (.map (some h)) := by have := hR.1; simp [World.cell?, this]
    have hcc := fun (cs : ByteArray × Nat) (hcs : cs ∈ pre) => show cs ∈ pathE m P N by rw [← hpost]; exact List.mem_append_left _ hcs
    have HC1 := Lib.hid hcc
    have HR1 := Lib.hid hR
    have HM1 := Lib.hid hM
    have HZ := Lib.hid hz
    have hwf : (Lit.int .i64 (z.2 : Int)).wf = true := by simp [Lit.wf, IntKind.min, IntKind.max, IntKind.signed, IntKind.bits]; omega
    clear hpost hR hM hcc hz hsq
    gi_upto_region 12 with (first
      | (gi_at_lookup; refine wpListIn_lookup_own_ok_int _ rfl _ _ 109 rfl 9 3 .i64 lawS Try.underlying109 Try.underlying3 (zeroI _) h pre.length D rfl hown _ _ rfl hkey ?_; intro cv hat hwc))
    have HLk := Lib.hid (mapOf_look HM1.out hat (i := z.2))
    cases hh : has D (kyL z.1)
    · have HSame : Hid (∀ j, (z.1, j) ∈ pre → j = z.2) := Lib.hid (HLk.out.2 (by rw [hh]; simp))
      clear hat hwc HLk
      gi_wp2_with (gi_at_mapUpdate; refine wpListIn_mapUpdate_own _ rfl _ _ _ 109 rfl 9 3 lawS Try.underlying109 _ h pre.length _ rfl hown (by unfold maxLen; omega) _ _ _ rfl rfl hkey (inD z.2) [] (plainElem_int Try.underlying3 hwf) ?_; intro X1 hown1 hg1)
      exact ⟨keep_map hg1 (by omega), kph_map hg1 hown, _, by rw [List.length_append]; exact hown1, mapOf_put HM1.out (HSame.out), HR1.out.map hg1 (by omega) (by omega)⟩
    by_cases hci : cv = (z.2 : Int)
    · have HSame : Hid (∀ j, (z.1, j) ∈ pre → j = z.2) := Lib.hid (HLk.out.2 (by rintro ⟨_, h2⟩; exact h2 hci))
      have hnb : ((cv : Int) != (z.2 : Int)) = false := by rw [hci]; simp
      clear hat hwc HLk
      gi_wp2_with (gi_at_mapUpdate; refine wpListIn_mapUpdate_own _ rfl _ _ _ 109 rfl 9 3 lawS Try.underlying109 _ h pre.length _ rfl hown (by unfold maxLen; omega) _ _ _ rfl rfl hkey (inD z.2) [] (plainElem_int Try.underlying3 hwf) ?_; intro X1 hown1 hg1)
      exact ⟨keep_map hg1 (by omega), kph_map hg1 hown, _, by rw [List.length_append]; exact hown1, mapOf_put HM1.out (HSame.out), HR1.out.map hg1 (by omega) (by omega)⟩
    have hnb : ((cv : Int) != (z.2 : Int)) = true := by simpa using hci
    have HBad : Hid (¬ Cons (pathE m P N)) := Lib.hid (by
      obtain ⟨j, hj, hne⟩ := HLk.out.1 ⟨hh, hci⟩
      exact fun hc => hne (hc z.1 j z.2 (HC1.out _ hj) HZ.out))
    obtain ⟨⟨z0, z1, z2, z3, z4, z5⟩, f0, f1, f2, f3, f4, f5⟩ := cells_decO HR1.out.2.2.1
    obtain ⟨u0, fu⟩ := cell_errO HR1.out.2.2.2.1
    clear hat hwc HLk
    gi_wp2
    have HPf := Lib.hid (put_facts HR1.out.2.2.1 HR1.out.2.2.2.1 0 0 0 0 0 17 (.slice none 0 0) _ rfl)
    exact ⟨keep_put HPf.out.2.2.2.1 HPf.out.2.2.1 (by omega), rfl, HBad.out, HPf.out.1, HPf.out.2.1, HPf.out.2.2.2.2 _ _ (by omega) HR1.out.2.2.2.2.1⟩
  case stop =>
    rintro D cd pre X hD ⟨rfl, hnc, h1, h2, h3⟩ hK
    have HK := Lib.hid hK
    have H1 := Lib.hid h1
    have H2 := Lib.hid h2
    have H3 := Lib.hid h3
    have HNc := Lib.hid hnc
    clear hK h1 h2 h3 hnc hsq
    go_wp2
    refine ⟨by simp, .inl ⟨_, _, rfl, run_takeDeferred HK.out, ?_⟩⟩
    refine ⟨_, build_results (g1 := g + 1) (g2 := g + 1 + 1) ((World.putObj_heap_other (by omega)).trans H1.out) ((World.putObj_heap_other (by omega)).trans H2.out) _ rfl rfl, .inr (.inl ⟨Hmf.out, HNc.out, rfl⟩), ?_⟩
    exact ⟨H3.out.os, H3.out.tape, H3.out.output, by simpa using H3.out.size, fun b hb => by rw [World.putObj_heap_other (by omega)]; exact H3.out.block b hb⟩
  case done =>
    rintro D1 xs X hD1 rfl ⟨Dm, hown, hM, hR⟩ hK1
    have HK1 := Lib.hid hK1
    obtain ⟨x0, x1, x2, x3⟩ := cells_encO hR.2.1
    have hbx : X.cell? ⟨h + 1, 0, none⟩ = some (.map (some h)) := by have := hR.1; simp [World.cell?, this]
    have HR1 := Lib.hid hR
    have HM1 := Lib.hid hM
    have HOw := Lib.hid hown
    have hsX : W4.heap.size ≤ X.heap.size := hR.2.2.2.2.2
    obtain ⟨k, hk⟩ : ∃ k, X.heap.size = k := ⟨_, rfl⟩
    clear hK1 hR hM hsq hown
    go_upto_region 16 with (fail)
    obtain ⟨Y, hY⟩ : ∃ Y, X.alloc (decO l (B : Int) (I : Int) (P : Int) (F : Int) (.slice none 0 0)) = Y := ⟨_, rfl⟩
    have hYs : Y.heap.size = k + 1 := by rw [← hY]; simp [hk]
    have hYb : Below X.heap.size X Y := by rw [← hY]; exact (Below.refl _ _).alloc (Nat.le_refl _) _
    have hYd : Y.heap[k]? = some (decO l (B : Int) (I : Int) (P : Int) (F : Int) (.slice none 0 0)) := by rw [← hY, ← hk]; exact World.alloc_heap_new X _
    have hbY : Y.cell? ⟨h + 1, 0, none⟩ = some (.map (some h)) := (hYb.cell (by show h + 1 < _; omega)).trans hbx
    have HYb := Lib.hid hYb
    have HYd := Lib.hid hYd
    unfold decO at hY
    rw [hY]
    clear x0 x1 x2 x3 hbx hY hYb hYd
    go_wp2_with fail
    refine (all_any h Y).mono ?_
    rintro e Z ⟨rfl, hZ⟩
    dsimp only
    rw [hYs]
    have hZb : Below Y.heap.size Y Z := by rw [hZ]; exact (Below.refl _ _).alloc (Nat.le_refl _) _
    have hZs : Z.heap.size = k + 1 + 1 := by rw [hZ]; simp [hYs]
    have hZc : Z.cell? ⟨k + 1, 0, none⟩ = some (.map (some h)) := by
      have := World.alloc_heap_new Y (.cells #[.map (some h)] 109)
      rw [← hZ, hYs] at this
      simp [World.cell?, this]
    have hXZ : Below X.heap.size X Z := HYb.out.trans (hZb.mono HYb.out.size)
    have hwZ : Below w.heap.size w Z := HR1.out.2.2.2.2.1.trans (hXZ.mono HR1.out.2.2.2.2.1.size)
    have hownZ : OwnM Z h (pathE m P N).length Dm := HOw.out.of_block (hXZ.block _ (by omega))
    have hRC : RdC w g k Z.heap.size l B I P F [] (.slice none 0 0) Z := ⟨(hZb.block _ (by omega)).trans HYd.out, World.ownsRow_nil _ _ _ _, (hXZ.block _ (by omega)).trans HR1.out.2.2.1, (hXZ.block _ (by omega)).trans HR1.out.2.2.2.1, hwZ, Nat.le_refl _⟩
    have hD1Z : Z.heap[D1]? = some (.deferred (some [])) := (hXZ.block _ (Array.getElem?_eq_some_iff.1 HK1.out).1).trans HK1.out
    have HD1Z := Lib.hid hD1Z
    have hD1k : D1 < k := by rw [← hk]; exact (Array.getElem?_eq_some_iff.1 HK1.out).1
    have HCs := Lib.hid (mapOf_cons HM1.out)
    have hM1 := HM1.out
    clear hZ hZb hXZ hwZ hD1Z HK1 HOw HR1 HYb HYd hbY hYs
    go_wp2_with fail
    trace_state
    refine rangeW0 (gf := 86) (lb := #[.pointer (some ⟨k + 1, 0, none⟩)]) rfl (enters_of Try.func86 (by kernel_rfl) rfl)
      ((all_seq h (pathE m P N).length (Z.heap.size + 1) (k + 1) Dm (pathE m P N) hM1 (by omega)).toX (Kx := fun _ _ => True)) (fun _ _ _ => trivial) (fun r X h => ⟨by have := h.1; omega, by have := h.1; omega⟩) (fun h k => h.trans k) (fun X o o' ho hc => KpA.put X o')
      (fun X hX hs => ⟨hs, (hX.cell (by show k + 1 < _; omega)).trans hZc, hownZ.of_block (hX.block _ (by omega))⟩) (fun _ => rfl)
      (fun x s A B row h _ _ => h)
      (fun pre X => NewS (pathE m P N) pre ∧ X.heap[D1]? = some (.deferred (some [])) ∧ ∃ v, RdC w g k Z.heap.size l B I P F pre v X) (fun _ _ _ => False)
      (fun s A B row hh hg hr => ⟨hh.1, (hg.block D1 (Array.getElem?_eq_some_iff.1 hh.2.1).1 (fun e => by
        rcases hr D1 e.symm with ⟨h1, _⟩ | ⟨h1, _⟩ <;> omega)).trans hh.2.1, hh.2.2.choose, hh.2.2.choose_spec.turn hg hr (by omega) (by omega)⟩) (fun _ _ _ _ _ hh _ _ => hh)
      ⟨⟨List.nodup_nil, (fun x hx => absurd hx (by simp))⟩, HD1Z.out, _, hRC⟩ ?a2 ?assign2 ?body2 ?done2 ?stop2
    case assign2 =>
      intro lp x X K hK
      dsimp only [encP]
      gi_wp2
      exact hK
    case stop2 =>
      intro D cd pre X _ hh _
      exact hh.elim
    case body2 =>
      rintro lp pre z X ⟨hNw, hD, v, hR⟩ ⟨hz, hnew⟩
      have HDx := Lib.hid hD
      have HRx := Lib.hid hR
      obtain ⟨⟨z0, z1, z2, z3, z4, z5⟩, f0, f1, f2, f3, f4, f5⟩ := cells_decO hR.1
      have hown1 : OwnEs (X.alloc (.cells #[.string z.1, .int .i64 (z.2 : Int)] 86)) Z.heap.size v pre := World.ownsRow.alloc hR.2.1 _
      have hcl : (X.alloc (.cells #[.string z.1, .int .i64 (z.2 : Int)] 86)).heap[X.heap.size]? = some (.cells #[.string z.1, .int .i64 (z.2 : Int)] 86 (0, 0)) := World.alloc_heap_new X _
      have hZX : Z.heap.size ≤ X.heap.size := hR.2.2.2.2.2
      have hpl : pre.length < 1000000000 := Nat.lt_of_le_of_lt (Nat.le_trans hNw.few HFw.out) (by decide)
      have HNw := Lib.hid (hNw.snoc hz hnew)
      clear hR z0 z1 z2 z3 z4 hNw hz hnew hD
      gi_wp2_with (gi_at_builtin; refine append_entIn rfl _ _ rfl Z.heap.size v pre rfl hown1 X.heap.size z rfl hcl hpl (by simp; omega) ?_; intro v' X1 hown2 hg2; have hbx2 := HRx.out.box hg2 (by omega); obtain ⟨⟨_, _, _, _, _, s5⟩, _, _, _, _, _, t5⟩ := cells_decO hbx2; have Hst := Lib.hid (HRx.out.step hg2 hown2 (by omega) (by omega) (by omega)); obtain ⟨gE, cE, hv2⟩ := ents_form hown2; subst hv2; clear hown2 hg2 hbx2)
      exact ⟨⟨Hst.out.1, fun b o _ hb hc => Hst.out.2.1 b o hb hc⟩, ⟨Hst.out.1, fun b o _ hb hc => Hst.out.2.1 b o hb hc⟩, HNw.out, Hst.out.2.1 _ _ HDx.out rfl, _, Hst.out.2.2⟩
    case done2 =>
      rintro D2 xs X2 hD2 hFull ⟨hNw, hZ1, v, hR⟩ hK2
      have hxs := full_pos hFull HNe.out
      have hlx : xs.length ≤ 65536 := Nat.le_trans hNw.few HFw.out
      obtain ⟨blk, cap, cur, rfl, hb1, hb2, hb3, hH⟩ := ents_holds hR.2.1 hxs
      have hS := sortE_any (xs.map toEnt).toArray blk 0 cap X2 hH hb2 (by simp; omega)
      have hsz : (xs.map toEnt).toArray.size = xs.length := by simp
      have hBs := fun d' => built_sorted (d' := d') hFull
      rw [hsz] at hS hBs
      obtain ⟨⟨z0, z1, z2, z3, z4, z5⟩, f0, f1, f2, f3, f4, f5⟩ := cells_decO hR.1
      have HR2 := Lib.hid hR
      have HK2 := Lib.hid hK2
      have HH := Lib.hid hH
      have HB3 := Lib.hid hb3
      have HBs := Lib.hid hBs
      have HS := Lib.hid hS
      have HZ1 : Hid (X2.heap[D1]? = some (.deferred (some []))) := Lib.hid hZ1
      clear hZ1 hR hK2 hH hb3 hFull hNw hS hBs z0 z1 z2 z3 z4 hownZ hM1 hRC hZc f0 f1 f2 f3 f4 f5
      go_wp2_with fail
      refine HS.out.mono ?_
      rintro e X3 ⟨rfl, d', n, os, hP, hSo, hX3⟩
      dsimp only
      have hds : d'.size = (xs.map toEnt).toArray.size := hP.1
      have hX3k : ∀ b, b < X2.heap.size → blk ≠ b → X3.heap[b]? = X2.heap[b]? := fun b hb hne => by rw [hX3]; exact sorted_block hb hne
      have hX3s : X2.heap.size ≤ X3.heap.size := by rw [hX3]; exact sorted_size
      have HE3 : Hid (EntsAt X3 (some ⟨blk, 0, none⟩) d'.toList) := Lib.hid (by rw [hX3]; exact holds_ents (sorted_holds HH.out hb2 hds) (Nat.lt_of_lt_of_le hb2 sorted_size))
      have HBel : Hid (Below w.heap.size w X3) := Lib.hid (HR2.out.2.2.2.2.1.trans (by rw [hX3]; exact sorted_below (by omega) hb2))
      have HBt := Lib.hid (HBs.out d' hP hSo)
      have hdl : d'.toList.length = xs.length := by rw [Array.length_toList, hds, hsz]
      have h3D : D1 ≠ blk := by omega
      have h3D2 : D2 ≠ blk := fun e => by
        have := HK2.out
        rw [e, HB3.out] at this
        cases this
      have h3k := (hX3k k (by omega) (by omega)).trans HR2.out.1
      have h31 := (hX3k (g + 1) (by omega) (by omega)).trans HR2.out.2.2.1
      have h32 := (hX3k (g + 1 + 1) (by omega) (by omega)).trans HR2.out.2.2.2.1
      have H3D1 := Lib.hid ((hX3k D1 (by omega) (by omega)).trans HZ1.out)
      have H3D2 := Lib.hid ((hX3k D2 (Array.getElem?_eq_some_iff.1 HK2.out).1 (fun e => h3D2 e.symm)).trans HK2.out)
      have HPf := Lib.hid (put_facts h31 h32 l (B : Int) (I : Int) (P : Int) (F : Int) 0 (.slice (some ⟨blk, 0, none⟩) xs.length cap) _ rfl)
      obtain ⟨⟨z0, z1, z2, z3, z4, z5⟩, _, _, _, _, _, _⟩ := cells_decO h3k
      obtain ⟨⟨y0, y1, y2, y3, y4, y5⟩, f0, f1, f2, f3, f4, f5⟩ := cells_decO h31
      obtain ⟨u0, fu⟩ := cell_errO h32
      clear h3k h31 h32 hX3k hX3 HR2 HK2 HZ1 HS HH HBs HB3
      go_wp2
      refine build_ret _ _ _ (g + 1) (g + 1 + 1) D1 D2 rfl rfl rfl ((HPf.out.2.2.1 D1 (by omega) (by omega)).trans H3D1.out) ((HPf.out.2.2.1 D2 (by omega) (by omega)).trans H3D2.out) HPf.out.1 HPf.out.2.1 (by omega) (by omega) (by omega) (fun X5 hX5 hB5 => ⟨.inr (.inr ⟨Hmf.out, HCs.out, d'.toList, some ⟨blk, 0, none⟩, cap, ?_, ?_, HBt.out, ?_⟩), ?_⟩)
      · rw [hdl]; rfl
      · exact ents_block HE3.out ((hX5 blk (by omega) (by omega)).trans (HPf.out.2.2.1 blk (by omega) (by omega)))
      · intro q hq
        cases hq
        show w.heap.size ≤ blk
        omega
      · exact hB5 _ _ (by omega) (HPf.out.2.2.2.2 _ _ (by omega) HBel.out)
theorem sumN {P F N : Nat} (hN : P + 1 + F = N) (h : N ≤ 1000) : wrap64 (((P + 1 : Nat) : Int) + (F : Int)) = (N : Int) := by
  rw [← Int.natCast_add, hN]; exact wrapN N h
/-- window.Build. -/
theorem build_any (l b i : Int) (m : EM) (p : Option Addr) (c P F N : Nat) (w : World) (hA : m.At w p) (hf : m.Fit) (he : encCheck l b i m = 0) (hN : P + 1 + F = N) (hNle : N ≤ 16) :
    Calls Try.prog 31 #[.agg #[.int .i64 l, .int .i64 b, .int .i64 i, .slice p m.r c], .int .i64 (P : Int), .int .i64 (F : Int)] w fun e w' => BuildPost w.heap.size l b.toNat i.toNat m P F N e w' ∧ Below w.heap.size w w' := by
  obtain ⟨⟨l1, l2⟩, ⟨b1, b2⟩, ⟨i1, i2⟩, ⟨r1, r2⟩, hok, hwd⟩ := encCheck_ok he
  obtain ⟨B, rfl⟩ : ∃ B : Nat, b = B := ⟨b.toNat, by omega⟩
  obtain ⟨I, rfl⟩ : ∃ I : Nat, i = I := ⟨i.toNat, by omega⟩
  rw [Int.toNat_natCast, Int.toNat_natCast] at hok ⊢
  have e1 : P + 1 ≤ 1000 := Nat.le_trans (show P + 1 ≤ 16 by omega) (by decide)
  have e2 : B ≤ 16 := by omega
  have e3 : 1 ≤ I := by omega
  have e4 : I ≤ 256 := by omega
  have e5 : P < N := by omega
  have e6 : P + F < 16 := by omega
  exact build_aux l B I m p c P F (P + 1) N w hA hf he e2 e3 e4 r1 r2 hok e5 hNle e6 (wrapN (P + 1) e1) ((IntWalk.i64_left _).trans (wrapN (P + 1) e1)) (sumN hN (Nat.le_trans hNle (by decide))) ((IntWalk.i64_left _).trans (sumN hN (Nat.le_trans hNle (by decide)))) (Lib.hid hN)
end Go.Proofs.Ytcafeffgaokiaaa
