/- Lists of rows of the call's own that are written afterwards; grooveref04.zeros. capacity.adjacency: the matrix of a graph. -/
import Derived.Test.YtlaoijfphkhchaaB21
import Derived.Test.YtlaoijfphkhchaaB7
import Derived.Test.YtlaoijfphkhchaaB20
namespace Go.Proofs.Ytlaoijfphkhchaa
open Go.RowKit

/-- A list of rows under way: its rows lie in blocks of their own. -/
def SumG (w : World) (B M : Nat) (v : Value) (i n : Nat) (S : Nat → Nat → Int) : Prop :=
  ∃ Q : Nat → Nat, OwnH w B v ((List.range i).map fun j => .slice (some ⟨Q j, 0, none⟩) n n) ∧ (∀ j, j < i → RowT w (Q j) n (S j) ∧ B ≤ Q j ∧ Q j < M) ∧ ∀ j k, j < k → k < i → Q j ≠ Q k
theorem SumG.made (w : World) {B : Nat} (M n : Nat) (S : Nat → Nat → Int) (h : B ≤ w.heap.size) : SumG (w.alloc (.cells #[] 53)) B M (.slice (some ⟨w.heap.size, 0, none⟩) 0 0) 0 n S := ⟨fun _ => 0, OwnH.made w h, fun j hj => by omega, fun j k _ hk => by omega⟩
theorem SumG.below {w w' : World} {B M : Nat} {v : Value} {i n : Nat} {S : Nat → Nat → Int} (h : SumG w B M v i n S) (hb : Below w.heap.size w w') : SumG w' B M v i n S := by
  obtain ⟨Q, h1, h2, h3⟩ := h
  exact ⟨Q, h1.below (Nat.le_refl _) hb, fun j hj => ⟨(h2 j hj).1.kept (hb.block _ (h2 j hj).1.z.1), (h2 j hj).2⟩, h3⟩
/-- append(out, make(..)) of one row. -/
theorem wpList_append_grid {ops : Array Oper} {rest : List Oper} {o : Oper} {a : Act} {Q : Exit → Act → World → Prop} {w : World} (hgd : o.guard = none) (s x : Operand)
    (ho : o.op = .call { callee := .builtin .append, args := #[s, x], argTypes := #[63, 63] })
    (B M : Nat) (v : Value) (i n : Nat) (S : Nat → Nat → Int) (hv : a.eval s = v) (hsum : SumG w B M v i n S) (g c q : Nat) (hx : a.eval x = .slice (some ⟨g, 0, none⟩) 1 c)
    (hc : w.cell? ⟨g, 0, none⟩ = some (.slice (some ⟨q, 0, none⟩) n n)) (hr : RowT w q n (S i)) (hq : B ≤ q) (hM : M ≤ q) (hn : i < 1000000000000) (hbase : B ≤ w.heap.size)
    (h : ∀ v' w', SumG w' B w'.heap.size v' (i + 1) n S → Below B w w' → wpList Try.prog ops Q rest (a.put o.dst v') w') : wpList Try.prog ops Q (o :: rest) a w := by
  obtain ⟨QQ, h1, h2, h3⟩ := hsum
  refine wpList_append_hdr hgd s x ho B v _ hv h1 g c (some ⟨q, 0, none⟩) n n hx hc (by simpa using hn) hbase fun v' w' k1 k2 => ?_
  refine h v' w' ?_ (below_append (Below.refl _ _) h1 k2 hbase (Nat.le_refl _))
  have hkeep : ∀ {q : Nat} {f : Nat → Int}, RowT w q n f → RowT w' q n f := fun hr => hr.kept (k2.block _ hr.z.1 (own_ne_row h1 hr))
  refine ⟨fun j => if j = i then q else QQ j, ?_, fun j hj => ?_, fun j k hjk hk => ?_⟩
  · have e : ((List.range (i + 1)).map fun j => Value.slice (some ⟨if j = i then q else QQ j, 0, none⟩) n n) = ((List.range i).map fun j => .slice (some ⟨QQ j, 0, none⟩) n n) ++ [.slice (some ⟨q, 0, none⟩) n n] := by
      rw [List.range_succ, List.map_append]
      congr 1
      · refine List.map_congr_left fun j hj => ?_
        have := List.mem_range.1 hj
        rw [if_neg (by omega)]
      · simp
    rw [e]
    exact k1
  · dsimp only
    by_cases e : j = i
    · subst e
      rw [if_pos rfl]
      exact ⟨hkeep hr, hq, (hkeep hr).z.1⟩
    · rw [if_neg e]
      have hj2 := h2 j (by omega)
      exact ⟨hkeep hj2.1, hj2.2.1, (hkeep hj2.1).z.1⟩
  · dsimp only
    rw [if_neg (by omega)]
    by_cases e : k = i
    · rw [if_pos e]
      have := (h2 j (by omega)).2.2
      omega
    · rw [if_neg e]
      exact h3 j k hjk (by omega)
/-- A list of rows in blocks of their own. -/
structure Grid (w : World) (B g r c : Nat) (A : Nat → Nat) (F : Nat → Nat → Int) : Prop where
  low : B ≤ g
  lt : g < w.heap.size
  hdr : ∀ i, i < r → w.cell? ⟨g, i, none⟩ = some (.slice (some ⟨A i, 0, none⟩) c c)
  row : ∀ i, i < r → RowT w (A i) c (F i) ∧ B ≤ A i
  ne : ∀ i, i < r → A i ≠ g
  inj : ∀ i j, i < j → j < r → A i ≠ A j
theorem Grid.call {w w' : World} {B g r c : Nat} {A : Nat → Nat} {F : Nat → Nat → Int} (h : Grid w B g r c A F) (hb : Below w.heap.size w w') : Grid w' B g r c A F :=
  ⟨h.low, Nat.lt_of_lt_of_le h.lt hb.size, fun i hi => cell_below hb (h.hdr i hi), fun i hi => ⟨(h.row i hi).1.kept (hb.block _ (h.row i hi).1.z.1), (h.row i hi).2⟩, h.ne, h.inj⟩
theorem Grid.congr {w : World} {B g r c : Nat} {A : Nat → Nat} {F G : Nat → Nat → Int} (h : Grid w B g r c A F) (e : ∀ i k, i < r → k < c → F i k = G i k) : Grid w B g r c A G :=
  ⟨h.low, h.lt, h.hdr, fun i hi => ⟨(h.row i hi).1.congr fun k hk => e i k hi hk, (h.row i hi).2⟩, h.ne, h.inj⟩
theorem Grid.set {w : World} {B g r c : Nat} {A : Nat → Nat} {F : Nat → Nat → Int} (h : Grid w B g r c A F) {i : Nat} (hi : i < r) (k : Nat) (v : Int) :
    Grid ((w.setCell ⟨A i, k * 2, none⟩ (.bool (canon v).neg)).setCell ⟨A i, k * 2 + 1, none⟩ (.string (canon v).mag)) B g r c A (fun a b => if a = i ∧ b = k then v else F a b) := by
  refine ⟨h.low, by simpa using h.lt, fun j hj => ?_, fun j hj => ⟨?_, (h.row j hj).2⟩, h.ne, h.inj⟩
  · have := h.ne i hi
    rw [World.cell?_setCell_other _ _ _ _ (by intro hh; simp only [Addr.mk.injEq] at hh; omega), World.cell?_setCell_other _ _ _ _ (by intro hh; simp only [Addr.mk.injEq] at hh; omega)]
    exact h.hdr j hj
  · by_cases e : j = i
    · subst e
      exact ((h.row j hj).1.set k v).congr fun b _ => by
        by_cases eb : b = k
        · rw [if_pos eb, if_pos ⟨rfl, eb⟩]
        · rw [if_neg eb, if_neg (fun hh => eb hh.2)]
    · have hne : A j ≠ A i := by
        rcases Nat.lt_or_gt_of_ne e with hlt | hgt
        · exact h.inj j i hlt hi
        · exact fun hh => h.inj i j hgt hj hh.symm
      have hk2 : ((w.setCell ⟨A i, k * 2, none⟩ (.bool (canon v).neg)).setCell ⟨A i, k * 2 + 1, none⟩ (.string (canon v).mag)).heap[A j]? = w.heap[A j]? := by
        rw [heap_setCell_other _ _ _ _ hne, heap_setCell_other _ _ _ _ hne]
      exact ((h.row j hj).1.kept hk2).congr fun b _ => by rw [if_neg (fun hh => e hh.1)]
theorem Grid.mat {w : World} {B g r c : Nat} {A : Nat → Nat} {F : Nat → Nat → Int} (h : Grid w B g r c A F) : MatF w (some ⟨g, 0, none⟩) r c F :=
  ⟨fun i => (some ⟨A i, 0, none⟩, c), .inr ⟨g, 0, rfl, h.lt, fun i hi j hj => by
    have : j = 0 := by omega
    subst this
    simpa using h.hdr i hi⟩, fun i hi => (h.row i hi).1.z.row⟩
theorem SumG.grid {w : World} {B M : Nat} {v : Value} {r n : Nat} {S : Nat → Nat → Int} (h : SumG w B M v r n S) (h0 : 0 < r) : ∃ g cap A, v = .slice (some ⟨g, 0, none⟩) r cap ∧ Grid w B g r n A S := by
  obtain ⟨Q, h1, h2, h3⟩ := h
  have hl : ((List.range r).map fun j => Value.slice (some ⟨Q j, 0, none⟩) n n).length = r := by simp
  have hrow := h1
  have h4 : w.ownsRow B 53 1 v ((List.range r).map fun j => Value.slice (some ⟨Q j, 0, none⟩) n n).length ((List.range r).map fun j => Value.slice (some ⟨Q j, 0, none⟩) n n) := h1
  rw [hl] at h4
  rcases h4.2 with ⟨_, h5⟩ | ⟨g, cap, cur, rfl, hg, hh, hnc, _, hsz, htk⟩
  · omega
  · refine ⟨g, cap, Q, rfl, hg, (Array.getElem?_eq_some_iff.1 hh).1, fun i hi => ?_, fun i hi => ⟨(h2 i hi).1, (h2 i hi).2.1⟩, fun i hi hh2 => ?_, h3⟩
    · have := h4.cells (g := g) rfl i (.slice (some ⟨Q i, 0, none⟩) n n) (by simp [List.getElem?_range hi])
      rwa [Addr.add_lit, Nat.zero_add] at this
    · have := own_ne_row hrow (h2 i hi).1
      rw [hh2] at this
      exact this rfl
def RetGrid (r c : Nat) (F : Nat → Nat → Int) (w : World) (e : Ending) (w' : World) : Prop := ∃ g cap A, e = .returned (.slice (some ⟨g, 0, none⟩) r cap) ∧ Grid w' w.heap.size g r c A F ∧ Below w.heap.size w w'
end Go.Proofs.Ytlaoijfphkhchaa
namespace Go.Proofs.Ytlaoijfphkhchaa
open Go.RowKit Go.Shelf
/-- How many of the first edges lead from s to t. -/
def cntE (E : Nat → Nat → Int) : Nat → Nat → Nat → Nat
  | 0, _, _ => 0
  | i + 1, s, t => cntE E i s t + if E i 0 = (s : Int) ∧ E i 2 = (t : Int) then 1 else 0
theorem cntE_le (E : Nat → Nat → Int) (i s t : Nat) : cntE E i s t ≤ i := by
  induction i with
  | zero => exact Nat.le_refl _
  | succ i ih => unfold cntE; split <;> omega
def adjE (E : Nat → Nat → Int) (n s t : Nat) : Int := (cntE E n s t : Nat)
/-- The edges lead to states of the graph. -/
def EdOk (N n : Nat) (E : Nat → Nat → Int) : Prop := ∀ i, i < n → ∃ s t : Nat, E i 0 = s ∧ E i 2 = t ∧ s < N ∧ t < N
/-- Block g is a table of 32 rows of 32 integers, and may be written. -/
def CntAt (w : World) (g : Nat) (f : Nat → Nat → Nat) : Prop := g < w.heap.size ∧ ∀ s t, s < 32 → t < 32 → w.cell? ⟨g, s * 32 + t, none⟩ = some (.int .i64 (f s t : Nat)) ∧ w.frozen? ⟨g, s * 32 + t, none⟩ = false
theorem CntAt.below {w w' : World} {g B : Nat} {f : Nat → Nat → Nat} (h : CntAt w g f) (hb : Below B w w') (hg : g < B) : CntAt w' g f :=
  ⟨Nat.lt_of_lt_of_le h.1 hb.size, fun s t hs ht => ⟨(hb.cell (p := ⟨g, _, none⟩) hg).trans (h.2 s t hs ht).1, (hb.frozen (p := ⟨g, _, none⟩) hg).trans (h.2 s t hs ht).2⟩⟩
theorem CntAt.congr {w : World} {g : Nat} {f h : Nat → Nat → Nat} (hz : CntAt w g f) (e : ∀ s t, s < 32 → t < 32 → f s t = h s t) : CntAt w g h := ⟨hz.1, fun s t hs ht => by rw [← e s t hs ht]; exact hz.2 s t hs ht⟩
theorem CntAt.set {w : World} {g s t : Nat} {f : Nat → Nat → Nat} (h : CntAt w g f) (_hs : s < 32) (ht : t < 32) (v : Nat) : CntAt (w.setCell ⟨g, s * 32 + t, none⟩ (.int .i64 v)) g (fun a b => if a = s ∧ b = t then v else f a b) := by
  refine ⟨by simpa using h.1, fun a b ha hb => ⟨?_, by rw [World.frozen?_setCell]; exact (h.2 a b ha hb).2⟩⟩
  dsimp only
  by_cases e : a = s ∧ b = t
  · obtain ⟨rfl, rfl⟩ := e
    rw [if_pos ⟨rfl, rfl⟩]
    exact World.cell?_setCell_same w _ _ (h.2 a b ha hb).1
  · rw [if_neg e, World.cell?_setCell_other _ _ _ _ (by intro hh; simp only [Addr.mk.injEq] at hh; omega)]
    exact (h.2 a b ha hb).1
theorem zeros_table : Try.zeroCells134 = Array.replicate 1024 (.int .i64 0) := by kernel_rfl
theorem CntAt.new (w : World) (E : Nat → Nat → Int) : CntAt (w.alloc (.cells Try.zeroCells134 134)) w.heap.size (cntE E 0) := by
  have hblk : (w.alloc (.cells Try.zeroCells134 134)).heap[w.heap.size]? = some (.cells Try.zeroCells134 134 (0, 0)) := heap_alloc_new w _
  refine ⟨by simp, fun s t hs ht => ⟨?_, ?_⟩⟩
  · unfold World.cell?; simp only [hblk]
    rw [zeros_table]
    have h : s * 32 + t < 1024 := by omega
    simp [h, cntE]
  · unfold World.frozen?; simp only [hblk]; simp
theorem cntE_step {E : Nat → Nat → Int} {k s t : Nat} (h0 : E k 0 = s) (h2 : E k 2 = t) (a b : Nat) : (if a = s ∧ b = t then cntE E k s t + 1 else cntE E k a b) = cntE E (k + 1) a b := by
  show _ = cntE E k a b + _
  rw [h0, h2]
  by_cases e : a = s ∧ b = t
  · obtain ⟨rfl, rfl⟩ := e
    rw [if_pos ⟨rfl, rfl⟩, if_pos ⟨rfl, rfl⟩]
  · rw [if_neg e, if_neg (by omega), Nat.add_zero]
set_option maxRecDepth 100000 in
set_option maxHeartbeats 4000000 in
theorem capAdj_any (L : Int) (N n : Nat) (E : Nat → Nat → Int) (p : Option Addr) (c : Nat) (hN : N ≤ 32) (hn : n ≤ 1000000) (hok : EdOk N n E) (w : World) (hE : EdgAt w p n E) :
    Calls Try.prog 78 #[.agg #[.int .i64 L, .int .i64 (N : Int), .slice p n c]] w (RetMat N N (adjE E n) w) := by
  have hb0 : Below w.heap.size w ((w.alloc (.cells #[.int .i64 L, .int .i64 (N : Int), .slice p n c] 24)).alloc (.cells Try.zeroCells134 134)) := ((Below.refl _ _).alloc (Nat.le_refl _) _).alloc (by simp) _
  obtain ⟨W1, hW1⟩ : ∃ W, (w.alloc (.cells #[.int .i64 L, .int .i64 (N : Int), .slice p n c] 24)).alloc (.cells Try.zeroCells134 134) = W := ⟨_, rfl⟩
  have hbx : BoxAt3 W1 w.heap.size (.int .i64 L) (.int .i64 (N : Int)) (.slice p n c) := by rw [← hW1]; exact (BoxAt3.new w _ _ _ _).below ((Below.refl _ _).alloc (Nat.le_refl _) _)
  have hct : CntAt W1 (w.heap.size + 1) (cntE E 0) := by
    rw [← hW1]
    have := CntAt.new (w.alloc (.cells #[.int .i64 L, .int .i64 (N : Int), .slice p n c] 24)) E
    simpa using this
  rw [hW1] at hb0
  have HE0 := Lib.hid hE
  have HE1 := Lib.hid (show EdgAt W1 p n E from hE.mono (Nat.le_refl _) hb0)
  have Hb0 := Lib.hid hb0
  have Hbx := Lib.hid hbx
  have Hct := Lib.hid hct
  have HOk := Lib.hid hok
  clear hE hb0 hbx hct hok
  go_enter Try.func78, Try.ntmps78
  go_upto_region 2 with (fail)
  clear hW1
  obtain ⟨g0, hg0⟩ : ∃ g, w.heap.size = g := ⟨_, rfl⟩
  have Hg0 := Lib.hid hg0
  rw [hg0] at Hbx Hct ⊢
  clear hg0
  have z2 := Hbx.out.2.2.2
  go_wp2_with fail
  clear z2
  go_loopw [13] (fun iv wr => ∃ k : Nat, k ≤ n ∧ iv = .int .i64 (k : Nat) ∧ Hid (CntAt wr (g0 + 1) (cntE E k)) ∧ Hid (Below (g0 + 1) W1 wr)) (fun iv _ => n - (intOf iv).toNat)
  case atStart => exact ⟨0, by omega, by go_num, Hct, Lib.hid (Below.refl _ _)⟩
  case round =>
    clear Hct
    obtain ⟨k, hk, rfl, Hct, Hb⟩ := hrel
    by_cases hlt : k < n
    · have i1 : (k : Int) < (n : Int) := by omega
      have i0 : (0 : Int) ≤ (k : Int) := by omega
      obtain ⟨b, off, rfl, hbl, hcE⟩ : ∃ b off, p = some ⟨b, off, none⟩ ∧ b < g0 + 1 ∧ ∀ i, i < n → ∀ j, j < 3 → wr.cell? ⟨b, off + i * 3 + j, none⟩ = some (edC E i j) := by
        rcases HE1.out with h | ⟨b, off, rfl, h1, h2⟩
        · omega
        · rcases HE0.out with h | ⟨b', off', h3, h4, _⟩
          · omega
          · cases h3
            have hb9 : b < g0 + 1 := by have := Hg0.out; omega
            exact ⟨b, off, rfl, hb9, fun i hi j hj => by rw [Hb.out.cell (p := ⟨b, _, none⟩) hb9]; exact h2 i hi j hj⟩
      have x0 := hcE k hlt 0 (by omega)
      have x1 := hcE k hlt 1 (by omega)
      have x2 := hcE k hlt 2 (by omega)
      obtain ⟨s, t, hs, ht, hs32, ht32⟩ := HOk.out k hlt
      have Hst : Hid (∀ a b, (if a = s ∧ b = t then cntE E k s t + 1 else cntE E k a b) = cntE E (k + 1) a b) := Lib.hid (cntE_step hs ht)
      simp only [edC, Nat.add_zero] at x0 x1 x2
      rw [hs] at x0
      rw [ht] at x2
      obtain ⟨e1, he1⟩ : ∃ e, E k 1 = e := ⟨_, rfl⟩
      rw [he1] at x1
      have y0 := (Hct.out.2 s t (by omega) (by omega)).1
      have y1 := (Hct.out.2 s t (by omega) (by omega)).2
      have hcv := cntE_le E k s t
      have q4 : g0 + 1 < wr.heap.size := Hct.out.1
      have Hfin : Hid (∀ (o : Obj) (u : Int), u = ((cntE E k s t : Nat) : Int) + 1 → CntAt ((wr.setCell ⟨g0 + 1, s * 32 + t, none⟩ (.int .i64 u)).alloc o).drew (g0 + 1) (cntE E (k + 1)) ∧ Below (g0 + 1) W1 ((wr.setCell ⟨g0 + 1, s * 32 + t, none⟩ (.int .i64 u)).alloc o).drew) := Lib.hid (fun o u hu => by
        have h1 := (Hct.out.set (by omega) (by omega) (cntE E k s t + 1)).congr fun a b _ _ => Hst.out a b
        rw [show ((cntE E k s t + 1 : Nat) : Int) = u from by rw [hu]; push_cast; rfl] at h1
        refine ⟨h1.below (((Below.refl _ _).alloc (Nat.le_refl _) _).drew) (by simpa using q4), ((Hb.out.setCell (Nat.le_refl _) _).alloc (by simp; omega) _).drew⟩)
      obtain ⟨cv, hcve⟩ : ∃ v, cntE E k s t = v := ⟨_, rfl⟩
      rw [hcve] at y0 hcv Hfin
      have wc : IntKind.i64.wrap ((cv : Int) + 1) = (cv : Int) + 1 := IntWalk.i64_in _ (by omega)
      have s1 : (s : Int) < 32 := by omega
      have t1 : (t : Int) < 32 := by omega
      clear hs ht he1 hcve Hst hcE Hct
      go_wp2_with fail
      go_region
      go_wp2
      go_roundw
      case rel => exact ⟨k + 1, by omega, by go_num, Lib.hid (Hfin.out _ _ rfl).1, Lib.hid (Hfin.out _ _ rfl).2⟩
      case measure => simp [intOf]; omega
    · have i1 : ¬ (k : Int) < (n : Int) := by omega
      have hke : k = n := by omega
      rw [hke] at Hct
      have q1 : wr.cell? ⟨g0, 1, none⟩ = some (.int .i64 (N : Int)) := by rw [Hb.out.cell (p := ⟨g0, _, none⟩) (by show g0 < g0 + 1; omega)]; exact Hbx.out.2.2.1
      obtain ⟨Z, hZ⟩ : ∃ Z, wr = Z := ⟨_, rfl⟩
      have hbz : Below w.heap.size w Z := by rw [← hZ]; exact Hb0.out.trans (Hb.out.mono (by have := Hg0.out; omega))
      have q2 : Z.cell? ⟨g0, 2, none⟩ = some (.slice p n c) := by rw [← hZ, Hb.out.cell (p := ⟨g0, _, none⟩) (by show g0 < g0 + 1; omega)]; exact Hbx.out.2.2.2
      have hsz : g0 + 1 < Z.heap.size := by rw [← hZ]; exact Hct.out.1
      rw [hZ] at Hct q1 ⊢
      have Hbz := Lib.hid hbz
      have HQ : Hid (∀ W, Below Z.heap.size Z W → W.cell? ⟨g0, 1, none⟩ = some (.int .i64 (N : Int)) ∧ CntAt W (g0 + 1) (cntE E n) ∧ Below w.heap.size w W) := Lib.hid (fun W hW => ⟨cell_below hW q1, Hct.out.below hW hsz, hbz.trans (hW.mono hbz.size)⟩)
      clear hke hZ Hb hbz q2 hsz Hct
      go_wp2_with fail
      clear q1
      go_loopw [6, 30] (fun v iv wr => ∃ i : Nat, i ≤ N ∧ iv = .int .i64 (i : Nat) ∧ Hid (SumH wr Z.heap.size v i N (adjE E n)) ∧ Hid (Below Z.heap.size Z wr)) (fun _ iv _ => N - (intOf iv).toNat)
      case atStart => exact ⟨0, by omega, by go_num, Lib.hid (SumH.nil _ _ _ _), Lib.hid (Below.refl _ _)⟩
      case round =>
        obtain ⟨i, hi, rfl, HSm, HY⟩ := hrel
        by_cases hil : i < N
        · have i2 : (i : Int) < (N : Int) := by omega
          obtain ⟨q1, hct, _⟩ := HQ.out _ HY.out
          have Hct := Lib.hid hct
          clear hct
          have hmk := make_zs N (by omega) wr
          obtain ⟨R, hR⟩ : ∃ R, wr = R := ⟨_, rfl⟩
          rw [hR] at HSm HY Hct hmk q1 ⊢
          clear hR
          have hal := (Below.refl R.heap.size R).alloc (Nat.le_refl _) (.cells (madeCells #[.bool false, .string ⟨#[]⟩] (N * 2)) 28)
          have Hal := Lib.hid hal
          have Hrow : Hid (RowT (R.alloc (.cells (madeCells #[.bool false, .string ⟨#[]⟩] (N * 2)) 28)) R.heap.size N (fun k => if k < 0 then adjE E n i k else 0)) := Lib.hid (RowT.of_made.congr fun k hk => (if_neg (by omega)).symm)
          have hgz : Z.heap.size ≤ R.heap.size := HY.out.size
          clear hal
          go_wp2_with fail
          clear hmk
          obtain ⟨gr, hgr⟩ : ∃ g, R.heap.size = g := ⟨_, rfl⟩
          rw [hgr] at Hrow hgz Hal ⊢
          generalize R.alloc (.cells (madeCells #[.bool false, .string ⟨#[]⟩] (N * 2)) 28) = V at *
          have Hgr := Lib.hid hgr
          clear q1 hgr
          go_loopw [38] (fun tv wr => ∃ t : Nat, t ≤ N ∧ tv = .int .i64 (t : Nat) ∧ Hid (RowT wr gr N (fun k => if k < t then adjE E n i k else 0)) ∧ Hid (Below gr R wr)) (fun tv _ => N - (intOf tv).toNat)
          case atStart => exact ⟨0, by omega, by go_num, Hrow, Hal⟩
          case round =>
            clear Hrow Hal
            obtain ⟨t, ht, rfl, Hrow, Hal⟩ := hrel
            by_cases htl : t < N
            · have i3 : (t : Int) < (N : Int) := by omega
              have hct := Hct.out.below Hal.out (by rw [← Hgr.out]; exact Hct.out.1)
              have y0 := (hct.2 i t (by omega) (by omega)).1
              have c1 : (i : Int) < 32 := by omega
              have c2 : (t : Int) < 32 := by omega
              obtain ⟨cv, hcv⟩ : ∃ v, cntE E n i t = v := ⟨_, rfl⟩
              have hcl := cntE_le E n i t
              have Hst : Hid (∀ k, (if k = t then (cv : Int) else if k < t then adjE E n i k else 0) = if k < t + 1 then adjE E n i k else 0) := Lib.hid (fun k => by
                by_cases e : k = t
                · rw [if_pos e, if_pos (by omega), e]; unfold adjE; rw [hcv]
                · rw [if_neg e]
                  by_cases e2 : k < t
                  · rw [if_pos e2, if_pos (by omega)]
                  · rw [if_neg e2, if_neg (by omega)])
              rw [hcv] at y0 hcl
              have HOf := Lib.hid (fun W => of_any (cv : Int) (by omega) (by omega) W)
              clear hcv hct
              go_wp2_with fail
              refine (HOf.out _).mono ?_
              rintro e w5 ⟨rfl, hb5⟩
              dsimp only
              have Hrow5 := Lib.hid (Hrow.out.kept (hb5.block _ Hrow.out.z.1))
              have Hal5 := Lib.hid (Hal.out.trans (hb5.mono (by rw [← Hgr.out]; exact Hal.out.size)))
              clear hb5 HOf Hrow Hal y0
              obtain ⟨⟨z1, z2⟩, z3, z4⟩ := Hrow5.out.z.2 t htl
              go_wp2_with fail
              go_roundw
              case rel => exact ⟨t + 1, by omega, by go_num, Lib.hid ((Hrow5.out.set t (cv : Int)).congr fun k _ => Hst.out k), Lib.hid ((Hal5.out.setCell (Nat.le_refl _) _).setCell (Nat.le_refl _) _)⟩
              case measure => simp [intOf]; omega
            · have i3 : ¬ (t : Int) < (N : Int) := by omega
              have hte : t = N := by omega
              rw [hte] at Hrow
              have Hrow6 := Lib.hid (Hrow.out.congr (h := adjE E n i) fun k hk => if_pos hk)
              have HSm6 := Lib.hid (HSm.out.below (show Below R.heap.size R wr by rw [Hgr.out]; exact Hal.out))
              have HY6 := Lib.hid (HY.out.trans (Hal.out.mono hgz))
              clear hte Hrow Hal
              go_upto_region 17 with (fail)
              have hb7 : Below wr.heap.size wr (wr.alloc (.cells #[.slice (some ⟨gr, 0, none⟩) N N] 53)) := (Below.refl _ _).alloc (Nat.le_refl _) _
              have Hs7 := Lib.hid (HSm6.out.below hb7)
              have Hrow7 := Lib.hid (Hrow6.out.kept (hb7.block _ Hrow6.out.z.1))
              have HY7 := Lib.hid (HY6.out.trans (hb7.mono HY6.out.size))
              have hz7 : Z.heap.size ≤ wr.heap.size := HY6.out.size
              clear hb7 HSm6 Hrow6
              go_wp2_with (at_builtin; refine wpList_append_row rfl _ _ rfl Z.heap.size _ i N (adjE E n) rfl Hs7.out wr.heap.size 1 gr N rfl ?_ Hrow7.out hgz ?_ ?_ ?_)
              any_goals (first | omega | exact HY7.out.size | (simp; omega) | (simp; done))
              intro v13 w13 hs13 hb13
              have Hs13 := Lib.hid hs13
              have HY13 := Lib.hid (HY7.out.trans hb13)
              clear hs13 hb13
              go_wp2
              go_roundw
              case rel => exact ⟨i + 1, by omega, by go_num, Hs13, HY13⟩
              case measure => simp [intOf]; omega
        · have i2 : ¬ (i : Int) < (N : Int) := by omega
          have hie : i = N := by omega
          rw [hie] at HSm
          obtain ⟨q14, c14, rfl, hM14⟩ := HSm.out.mat
          have HM14 := Lib.hid hM14
          have Hb9 := Lib.hid (HQ.out _ HY.out).2.2
          clear hM14 hie HSm
          go_wp2
          go_ret
          exact ⟨_, _, rfl, HM14.out, by first | exact Hb9.out | (rw [← Hg0.out]; exact Hb9.out)⟩
end Go.Proofs.Ytlaoijfphkhchaa
