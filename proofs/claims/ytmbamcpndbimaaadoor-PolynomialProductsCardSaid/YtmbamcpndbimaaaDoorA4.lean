/- The walk of matrix.table at api.Int. append: numbers onto a row of the call's own, rows onto a list of rows of the call's own. -/
import Derived.Test.YtmbamcpndbimaaaDoorA3
import Derived.Deep.RegionHeld
import Derived.RangeFuncCalls
import Derived.OwnWalk
import Derived.Lib.Hide
namespace Go.Proofs.YtmbamcpndbimaaaDoor
open Go.RowKit

theorem zInfo : (Tryd.prog.info? 32).map (fun i => (i.zero, i.size, i.bytes)) = some (some (.agg #[.bool false, .string ⟨#[]⟩]), 2, 24) := by kernel_rfl
theorem rowInfo : (Tryd.prog.info? 22).map (fun i => (i.zero, i.size, i.bytes)) = some (some (.slice none 0 0), 1, 24) := by kernel_rfl
/-- make([][]api.Int, n), make([]api.Int, n). -/
theorem make_rows (n : Nat) (h : n ≤ 1000000) (w : World) :
    (Instr.makeSlice 33 (.int .i64 (n : Int)) (.int .i64 (n : Int))).run Tryd.prog w = .ok (.slice (some ⟨w.heap.size, 0, none⟩) n n) (w.alloc (.cells (madeCells #[.slice none 0 0] n) 22)) :=
  run_make_row' 33 22 (.slice none 0 0) 24 Tryd.underlying33 rowInfo rfl .i64 .i64 n (by omega) (by omega) w
theorem make_zs (n : Nat) (h : n ≤ 1000000) (w : World) :
    (Instr.makeSlice 22 (.int .i64 (n : Int)) (.int .i64 (n : Int))).run Tryd.prog w = .ok (.slice (some ⟨w.heap.size, 0, none⟩) n n) (w.alloc (.cells (madeCells #[.bool false, .string ⟨#[]⟩] (n * 2)) 32)) := by
  obtain ⟨i, hi, hzz⟩ := Option.map_eq_some_iff.1 zInfo
  simp only [Prod.mk.injEq] at hzz
  obtain ⟨hz, hs, hb⟩ := hzz
  have hr := run_make (P := Tryd.prog) w 22 32 i _ Tryd.underlying22 hi hz .i64 .i64 n n (by omega) (Int.le_refl _) (by rw [hb]; omega) (by omega)
  simp only [Int.toNat_natCast, hs] at hr
  exact hr

/-- Between two rounds of table: i rows are made. -/
structure TabO (w wr : World) (g rows cols i : Nat) (F : Nat → Nat → Int) (A : Nat → Nat) : Prop where
  below : Below w.heap.size w wr
  hdr : HAt wr g rows (fun j => if j < i then .slice (some ⟨A j, 0, none⟩) cols cols else .slice none 0 0)
  row : ∀ j, j < i → ZAt wr (A j) cols (F j) ∧ w.heap.size ≤ A j ∧ A j ≠ g
  low : w.heap.size ≤ g
/-- Within a round: the row i is in the block A i, and k of its numbers are there. -/
structure TabI (w wr : World) (g rows cols i k : Nat) (F : Nat → Nat → Int) (A : Nat → Nat) : Prop where
  below : Below w.heap.size w wr
  hdr : HAt wr g rows (fun j => if j < i + 1 then .slice (some ⟨A j, 0, none⟩) cols cols else .slice none 0 0)
  row : ∀ j, j < i → ZAt wr (A j) cols (F j) ∧ w.heap.size ≤ A j ∧ A j ≠ g ∧ A j ≠ A i
  cur : ZAt wr (A i) cols (fun m => if m < k then F i m else 0) ∧ w.heap.size ≤ A i ∧ A i ≠ g
  low : w.heap.size ≤ g
theorem TabO.start (w wr : World) (hb : Below w.heap.size w wr) (rows cols : Nat) (t : TypeId) (F : Nat → Nat → Int) : TabO w (wr.alloc (.cells (madeCells #[.slice none 0 0] rows) t)) wr.heap.size rows cols 0 F (fun _ => 0) :=
  ⟨hb.alloc hb.size _, (made_hdr wr rows t).congr fun k _ => by rw [if_neg (by omega)], fun j h => by omega, hb.size⟩
theorem TabO.enter {w wr : World} {g rows cols i : Nat} {F : Nat → Nat → Int} {A : Nat → Nat} (h : TabO w wr g rows cols i F A) (t : TypeId) :
    TabI w ((wr.alloc (.cells (madeCells #[.bool false, .string ⟨#[]⟩] (cols * 2)) t)).setCell ⟨g, i, none⟩ (.slice (some ⟨wr.heap.size, 0, none⟩) cols cols)) g rows cols i 0 F (fun j => if j = i then wr.heap.size else A j) := by
  obtain ⟨hb, hh, hr, hl⟩ := h
  have hg : g < wr.heap.size := hh.1
  have hal := (Below.refl wr.heap.size wr).alloc (Nat.le_refl _) (.cells (madeCells #[.bool false, .string ⟨#[]⟩] (cols * 2)) t)
  refine ⟨(hb.alloc hb.size _).setCell (by simpa using hl) _, ?_, fun j hj => ?_, ?_, hl⟩
  · refine ((hh.below hal hg).set (k := i) _).congr fun j hj => ?_
    by_cases e : j = i
    · subst e; simp
    · simp only [if_neg e]
      by_cases h1 : j < i
      · rw [if_pos h1, if_pos (by omega)]
      · rw [if_neg h1, if_neg (by omega)]
  · obtain ⟨h1, h2, h3⟩ := hr j hj
    have e : ¬ j = i := by omega
    have e1 : A j < wr.heap.size := h1.1
    simp only [if_neg e, if_true]
    exact ⟨(h1.below hal e1).other _ _ (by intro h; exact h3 h.symm), h2, h3, by omega⟩
  · simp only [if_true]
    refine ⟨((made_zero wr cols t).other _ _ (by show g ≠ wr.heap.size; omega)).congr fun k _ => by rw [if_neg (by omega)], hb.size, by omega⟩
theorem TabI.call {w wr wr' : World} {g rows cols i k : Nat} {F : Nat → Nat → Int} {A : Nat → Nat} (h : TabI w wr g rows cols i k F A) (hb : Below wr.heap.size wr wr') : TabI w wr' g rows cols i k F A := by
  obtain ⟨h1, h2, h3, h4, h5⟩ := h
  exact ⟨h1.trans (hb.mono h1.size), h2.below hb h2.1, fun j hj => by
    obtain ⟨a, b⟩ := h3 j hj
    exact ⟨a.below hb a.1, b⟩, ⟨h4.1.below hb h4.1.1, h4.2⟩, h5⟩
theorem TabI.put {w wr : World} {g rows cols i k : Nat} {F : Nat → Nat → Int} {A : Nat → Nat} (h : TabI w wr g rows cols i k F A) :
    TabI w ((wr.setCell ⟨A i, k * 2, none⟩ (.bool (canon (F i k)).neg)).setCell ⟨A i, k * 2 + 1, none⟩ (.string (canon (F i k)).mag)) g rows cols i (k + 1) F A := by
  obtain ⟨h1, h2, h3, h4, h5⟩ := h
  refine ⟨(h1.setCell h4.2.1 _).setCell h4.2.1 _, (h2.other _ _ h4.2.2).other _ _ h4.2.2, fun j hj => ?_, ⟨(h4.1.set (k := k) (F i k)).congr fun m _ => ?_, h4.2⟩, h5⟩
  · obtain ⟨a, b, c, d⟩ := h3 j hj
    exact ⟨(a.other _ _ (by exact fun h => d h.symm)).other _ _ (by exact fun h => d h.symm), b, c, d⟩
  · by_cases e : m = k
    · subst e; rw [if_pos rfl, if_pos (by omega)]
    · rw [if_neg e]
      by_cases h1 : m < k
      · rw [if_pos h1, if_pos (by omega)]
      · rw [if_neg h1, if_neg (by omega)]
theorem TabI.leave {w wr : World} {g rows cols i : Nat} {F : Nat → Nat → Int} {A : Nat → Nat} (h : TabI w wr g rows cols i cols F A) : TabO w wr g rows cols (i + 1) F A := by
  obtain ⟨h1, h2, h3, h4, h5⟩ := h
  refine ⟨h1, h2, fun j hj => ?_, h5⟩
  by_cases e : j = i
  · subst e
    exact ⟨h4.1.congr fun m hm => by rw [if_pos hm], h4.2⟩
  · obtain ⟨a, b, c, _⟩ := h3 j (by omega)
    exact ⟨a, b, c⟩
theorem TabO.own {w wr : World} {g rows cols : Nat} {F : Nat → Nat → Int} {A : Nat → Nat} (h : TabO w wr g rows cols rows F A) : OwnMat wr w.heap.size g rows cols F :=
  ⟨A, h.hdr.congr fun j hj => by rw [if_pos hj], h.row, h.low⟩

/-- What table gives: rows of its own. -/
def RetOwn (rows cols : Nat) (F : Nat → Nat → Int) (w : World) (e : Ending) (w' : World) : Prop := ∃ g, e = .returned (.slice (some ⟨g, 0, none⟩) rows rows) ∧ OwnMat w' w.heap.size g rows cols F ∧ Below w.heap.size w w'
theorem RetOwn.mat {r c : Nat} {F : Nat → Nat → Int} {w w' : World} {e : Ending} (h : RetOwn r c F w e w') : RetMat r c F w e w' := by
  obtain ⟨g, h1, h2, h3⟩ := h
  exact ⟨_, _, h1, h2.mat, h3⟩

end Go.Proofs.YtmbamcpndbimaaaDoor
namespace Go.Proofs.YtmbamcpndbimaaaDoor
open Go.RowKit

/-- The cells of some numbers. -/
def zL (xs : List Int) : List Value := xs.flatMap fun x => [.bool (canon x).neg, .string (canon x).mag]
theorem zL_nil : zL [] = [] := rfl
theorem zL_append (xs ys : List Int) : zL (xs ++ ys) = zL xs ++ zL ys := List.flatMap_append ..
theorem zL_cons (x : Int) (xs : List Int) : zL (x :: xs) = .bool (canon x).neg :: .string (canon x).mag :: zL xs := rfl
theorem zL_length (xs : List Int) : (zL xs).length = xs.length * 2 := by
  induction xs with
  | nil => rfl
  | cons x xs ih => rw [zL_cons, List.length_cons, List.length_cons, ih, List.length_cons]; omega
theorem zL_get (xs : List Int) : ∀ k, k < xs.length → (zL xs)[k * 2]? = some (.bool (canon (xs.getD k 0)).neg) ∧ (zL xs)[k * 2 + 1]? = some (.string (canon (xs.getD k 0)).mag) := by
  induction xs with
  | nil => intro k hk; cases hk
  | cons x xs ih =>
    intro k hk
    rw [zL_cons]
    match k, hk with
    | 0, _ => exact ⟨rfl, rfl⟩
    | k + 1, hk =>
      have h := ih k (by simpa using hk)
      rw [show (k + 1) * 2 = k * 2 + 1 + 1 from by omega]
      exact ⟨by simpa using h.1, by simpa using h.2⟩
theorem zL_one (xs : List Int) : ∀ u ∈ zL xs, u.oneCell' = true := by
  induction xs with
  | nil => intro u hu; cases hu
  | cons x xs ih =>
    intro u hu
    rw [zL_cons] at hu
    simp only [List.mem_cons] at hu
    rcases hu with rfl | rfl | hu
    · rfl
    · rfl
    · exact ih u hu
/-- A slice of numbers of the call's own, from block B on. -/
def OwnZ (w : World) (B : Nat) (v : Value) (xs : List Int) : Prop := w.ownsRow B 32 2 v xs.length (zL xs)
theorem OwnZ.made (w : World) {B : Nat} (h : B ≤ w.heap.size) : OwnZ (w.alloc (.cells #[] 32)) B (.slice (some ⟨w.heap.size, 0, none⟩) 0 0) [] := World.ownsRow_made w #[] 0 h (by simp [maxLen]) rfl
theorem OwnZ.below {w w' : World} {B C : Nat} {v : Value} {xs : List Int} (h : OwnZ w B v xs) (hB : w.heap.size ≤ C) (hb : Below C w w') : OwnZ w' B v xs := ownsRow_below h hB hb
theorem OwnZ.alloc {w : World} {B : Nat} {v : Value} {xs : List Int} (h : OwnZ w B v xs) (o : Obj) : OwnZ (w.alloc o) B v xs := World.ownsRow.alloc h o
/-- append(out, ys...) of numbers that lie somewhere. -/
theorem wpList_append_zs {ops : Array Oper} {rest : List Oper} {o : Oper} {a : Act} {Q : Exit → Act → World → Prop} {w : World} (hgd : o.guard = none) (s x : Operand)
    (ho : o.op = .call { callee := .builtin .append, args := #[s, x], argTypes := #[22, 22] })
    (base : Nat) (v : Value) (xs : List Int) (hs : a.eval s = v) (hown : OwnZ w base v xs) (g off c m : Nat) (ys : List Int) (hm : ys.length = m) (hx : a.eval x = .slice (some ⟨g, off, none⟩) m c)
    (hc : ∀ k, k < ys.length → w.cell? ⟨g, off + k * 2, none⟩ = some (.bool (canon (ys.getD k 0)).neg) ∧ w.cell? ⟨g, off + k * 2 + 1, none⟩ = some (.string (canon (ys.getD k 0)).mag)) (hn : xs.length + ys.length < 1000000000000) (hbase : base ≤ w.heap.size)
    (h : ∀ v' w', OwnZ w' base v' (xs ++ ys) → w.grownBy w' v.ownBlock → wpList Tryd.prog ops Q rest (a.put o.dst v') w') : wpList Tryd.prog ops Q (o :: rest) a w := by
  obtain ⟨i0, hi, hzz⟩ := Option.map_eq_some_iff.1 zInfo
  simp only [Prod.mk.injEq] at hzz
  obtain ⟨hz0, hz1, hz2⟩ := hzz
  subst hm
  refine wpList_append_own _ hgd s x _ ho base 32 i0 (.agg #[.bool false, .string ⟨#[]⟩]) 2 24 Tryd.underlying22 hi hz0 hz1 hz2 rfl (by decide) v xs.length (zL xs) hs hown ⟨g, off, none⟩ ys.length c (zL ys) hx (zL_length ys) ?_ (zL_one ys) ?_ ?_ hbase ?_
  · intro j u hj
    have hjl : j < (zL ys).length := (List.getElem?_eq_some_iff.1 hj).1
    rw [zL_length] at hjl
    have hk : j / 2 < ys.length := by omega
    obtain ⟨c0, c1⟩ := hc (j / 2) hk
    obtain ⟨z0, z1⟩ := zL_get ys (j / 2) hk
    rw [Addr.add_lit]
    by_cases hp : j % 2 = 0
    · have e : j = j / 2 * 2 := by omega
      rw [e] at hj ⊢
      rw [z0] at hj
      rw [c0]; exact hj
    · have e : j = j / 2 * 2 + 1 := by omega
      rw [e] at hj ⊢
      rw [z1] at hj
      rw [show off + (j / 2 * 2 + 1) = off + j / 2 * 2 + 1 from by omega, c1]; exact hj
  · unfold maxLen; omega
  · omega
  · intro v' w' h2 h3 _
    exact h v' w' (by unfold OwnZ; rw [List.length_append, zL_append]; exact h2) h3
/-- A list of headers of the call's own. -/
def OwnH (w : World) (B : Nat) (v : Value) (hs : List Value) : Prop := w.ownsRow B 22 1 v hs.length hs
theorem OwnH.nil (w : World) (B : Nat) : OwnH w B (.slice none 0 0) [] := World.ownsRow_nil _ _ _ _
theorem OwnH.made (w : World) {B : Nat} (h : B ≤ w.heap.size) : OwnH (w.alloc (.cells #[] 22)) B (.slice (some ⟨w.heap.size, 0, none⟩) 0 0) [] := World.ownsRow_made w #[] 0 h (by simp [maxLen]) rfl
theorem OwnH.below {w w' : World} {B C : Nat} {v : Value} {hs : List Value} (h : OwnH w B v hs) (hB : w.heap.size ≤ C) (hb : Below C w w') : OwnH w' B v hs := ownsRow_below h hB hb
theorem OwnH.alloc {w : World} {B : Nat} {v : Value} {hs : List Value} (h : OwnH w B v hs) (o : Obj) : OwnH (w.alloc o) B v hs := World.ownsRow.alloc h o
/-- append(out, l) of one row. -/
theorem wpList_append_hdr {ops : Array Oper} {rest : List Oper} {o : Oper} {a : Act} {Q : Exit → Act → World → Prop} {w : World} (hgd : o.guard = none) (s x : Operand)
    (ho : o.op = .call { callee := .builtin .append, args := #[s, x], argTypes := #[33, 33] })
    (base : Nat) (v : Value) (hs : List Value) (hv : a.eval s = v) (hown : OwnH w base v hs) (g c : Nat) (p : Option Addr) (n m : Nat) (hx : a.eval x = .slice (some ⟨g, 0, none⟩) 1 c)
    (hc : w.cell? ⟨g, 0, none⟩ = some (.slice p n m)) (hn : hs.length < 1000000000000) (hbase : base ≤ w.heap.size)
    (h : ∀ v' w', OwnH w' base v' (hs ++ [.slice p n m]) → w.grownBy w' v.ownBlock → wpList Tryd.prog ops Q rest (a.put o.dst v') w') : wpList Tryd.prog ops Q (o :: rest) a w := by
  obtain ⟨i0, hi, hzz⟩ := Option.map_eq_some_iff.1 rowInfo
  simp only [Prod.mk.injEq] at hzz
  obtain ⟨hz0, hz1, hz2⟩ := hzz
  refine wpList_append_own _ hgd s x _ ho base 22 i0 (.slice none 0 0) 1 24 Tryd.underlying33 hi hz0 hz1 hz2 rfl (by decide) v hs.length hs hv hown ⟨g, 0, none⟩ 1 c [.slice p n m] hx rfl ?_ ?_ ?_ ?_ hbase ?_
  · intro j u hj
    match j, hj with
    | 0, hj => simp at hj; subst hj; simpa [Addr.add] using hc
  · intro u hu; simp at hu; subst hu; rfl
  · unfold maxLen; omega
  · omega
  · intro v' w' h2 h3 _
    exact h v' w' (by unfold OwnH; rw [List.length_append]; exact h2) h3
/-- A row of numbers that fills its block from the beginning; the block may be written, and is no list of rows. -/
def RowT (w : World) (g n : Nat) (f : Nat → Int) : Prop := ∃ cur, w.heap[g]? = some (.cells cur 32 (0, 0)) ∧ ∀ k, k < n → cur[k * 2]? = some (.bool (canon (f k)).neg) ∧ cur[k * 2 + 1]? = some (.string (canon (f k)).mag)
theorem RowT.z {w : World} {g n : Nat} {f : Nat → Int} (h : RowT w g n f) : ZAt w g n f := by
  obtain ⟨cur, hh, hc⟩ := h
  refine ⟨(Array.getElem?_eq_some_iff.1 hh).1, fun k hk => ⟨⟨?_, ?_⟩, ?_, ?_⟩⟩
  · unfold World.cell?; simp only [hh]; simpa using (hc k hk).1
  · unfold World.cell?; simp only [hh]; simpa using (hc k hk).2
  · unfold World.frozen?; simp only [hh]; simp
  · unfold World.frozen?; simp only [hh]; simp
theorem RowT.kept {w w' : World} {g n : Nat} {f : Nat → Int} (h : RowT w g n f) (hk : w'.heap[g]? = w.heap[g]?) : RowT w' g n f := by
  obtain ⟨cur, hh, hc⟩ := h
  exact ⟨cur, hk.trans hh, hc⟩
theorem OwnZ.row {w : World} {B : Nat} {v : Value} {xs : List Int} (h : OwnZ w B v xs) (h0 : 0 < xs.length) : ∃ g cap, v = .slice (some ⟨g, 0, none⟩) xs.length cap ∧ B ≤ g ∧ RowT w g xs.length (fun k => xs.getD k 0) := by
  rcases h.2 with ⟨_, h1⟩ | ⟨g, cap, cur, rfl, hg, hh, hnc, _, hsz, htk⟩
  · omega
  · refine ⟨g, cap, rfl, hg, cur, hh, fun k hk => ?_⟩
    obtain ⟨z0, z1⟩ := zL_get xs k hk
    rw [← htk, List.getElem?_take_of_lt (by omega)] at z0 z1
    exact ⟨by simpa using z0, by simpa using z1⟩
theorem RowT.of_made {w : World} {n : Nat} : RowT (w.alloc (.cells (madeCells #[.bool false, .string ⟨#[]⟩] (n * 2)) 32)) w.heap.size n (fun _ => 0) := by
  refine ⟨_, heap_alloc_new w _, fun k hk => ?_⟩
  have c0 : canon 0 = ⟨false, ⟨#[]⟩⟩ := by rfl
  have h1 : k * 2 < n * 2 := by omega
  have h2 : k * 2 + 1 < n * 2 := by omega
  have h3 : (k * 2 + 1) % 2 = 1 := by omega
  exact ⟨by simp [madeCells, h1, c0], by simp [madeCells, h2, h3, c0]⟩
theorem RowT.congr {w : World} {g n : Nat} {f h : Nat → Int} (hz : RowT w g n f) (e : ∀ k, k < n → f k = h k) : RowT w g n h := by
  obtain ⟨cur, hh, hc⟩ := hz
  exact ⟨cur, hh, fun k hk => by rw [← e k hk]; exact hc k hk⟩
theorem RowT.set {w : World} {g n : Nat} {f : Nat → Int} (h : RowT w g n f) (k : Nat) (v : Int) :
    RowT ((w.setCell ⟨g, k * 2, none⟩ (.bool (canon v).neg)).setCell ⟨g, k * 2 + 1, none⟩ (.string (canon v).mag)) g n (fun i => if i = k then v else f i) := by
  obtain ⟨cur, hh, hc⟩ := h
  refine ⟨_, heap_setCell_same _ _ _ _ _ _ (heap_setCell_same _ _ _ _ _ _ hh), fun i hi => ?_⟩
  obtain ⟨c0, c1⟩ := hc i hi
  have l0 := (Array.getElem?_eq_some_iff.1 c0).1
  have l1 := (Array.getElem?_eq_some_iff.1 c1).1
  dsimp only
  by_cases e : i = k
  · subst e
    rw [if_pos rfl]
    constructor
    · rw [Array.getElem?_setIfInBounds_ne (by omega), Array.getElem?_setIfInBounds_self_of_lt l0]
    · rw [Array.getElem?_setIfInBounds_self_of_lt (by rw [Array.size_setIfInBounds]; exact l1)]
  · rw [if_neg e]
    constructor
    · rw [Array.getElem?_setIfInBounds_ne (by omega), Array.getElem?_setIfInBounds_ne (by omega)]; exact c0
    · rw [Array.getElem?_setIfInBounds_ne (by omega), Array.getElem?_setIfInBounds_ne (by omega)]; exact c1
/-- A list of rows of the call's own, whose rows are the call's own too. -/
def SumH (w : World) (B : Nat) (v : Value) (i n : Nat) (S : Nat → Nat → Int) : Prop :=
  ∃ Q C : Nat → Nat, OwnH w B v ((List.range i).map fun j => .slice (some ⟨Q j, 0, none⟩) n (C j)) ∧ ∀ j, j < i → RowT w (Q j) n (S j) ∧ B ≤ Q j
theorem SumH.nil (w : World) (B n : Nat) (S : Nat → Nat → Int) : SumH w B (.slice none 0 0) 0 n S := ⟨fun _ => 0, fun _ => 0, OwnH.nil w B, fun j hj => by omega⟩
theorem SumH.made (w : World) {B : Nat} (n : Nat) (S : Nat → Nat → Int) (h : B ≤ w.heap.size) : SumH (w.alloc (.cells #[] 22)) B (.slice (some ⟨w.heap.size, 0, none⟩) 0 0) 0 n S := ⟨fun _ => 0, fun _ => 0, OwnH.made w h, fun j hj => by omega⟩
theorem SumH.below {w w' : World} {B : Nat} {v : Value} {i n : Nat} {S : Nat → Nat → Int} (h : SumH w B v i n S) (hb : Below w.heap.size w w') : SumH w' B v i n S := by
  obtain ⟨Q, C, h1, h2⟩ := h
  exact ⟨Q, C, h1.below (Nat.le_refl _) hb, fun j hj => ⟨(h2 j hj).1.kept (hb.block _ (h2 j hj).1.z.1), (h2 j hj).2⟩⟩
theorem SumH.congr {w : World} {B : Nat} {v : Value} {i n : Nat} {S T : Nat → Nat → Int} (h : SumH w B v i n S) (e : ∀ j k, j < i → k < n → S j k = T j k) : SumH w B v i n T := by
  obtain ⟨Q, C, h1, h2⟩ := h
  exact ⟨Q, C, h1, fun j hj => ⟨(h2 j hj).1.congr fun k hk => e j k hj hk, (h2 j hj).2⟩⟩
theorem types_ne : 22 ≠ 32 := by decide
theorem own_ne_row {w : World} {B : Nat} {v : Value} {hs : List Value} (h : OwnH w B v hs) {g n : Nat} {f : Nat → Int} (hr : RowT w g n f) : some g ≠ v.ownBlock := by
  intro e
  rcases h.2 with ⟨h0, _⟩ | ⟨g', cap, cur, h0, _, hh, _⟩
  · rw [h0] at e; cases e
  · rw [h0] at e
    have : g = g' := Option.some.inj e
    subst this
    obtain ⟨cur', hh', _⟩ := hr
    rw [hh'] at hh
    injection hh with hh
    injection hh with _ ht _
    exact types_ne ht.symm
theorem SumH.mat {w : World} {B : Nat} {v : Value} {i n : Nat} {S : Nat → Nat → Int} (h : SumH w B v i n S) : ∃ q c, v = .slice q i c ∧ MatF w q i n S := by
  obtain ⟨Q, C, h1, h2⟩ := h
  have hl : ((List.range i).map fun j => Value.slice (some ⟨Q j, 0, none⟩) n (C j)).length = i := by simp
  have h3 : w.ownsRow B 22 1 v i ((List.range i).map fun j => Value.slice (some ⟨Q j, 0, none⟩) n (C j)) := by
    have h4 : w.ownsRow B 22 1 v ((List.range i).map fun j => Value.slice (some ⟨Q j, 0, none⟩) n (C j)).length ((List.range i).map fun j => Value.slice (some ⟨Q j, 0, none⟩) n (C j)) := h1
    rwa [hl] at h4
  obtain ⟨p, cap, hv, _, hs, _⟩ := slAt_of_owns h3 (fun j _ => .slice (some ⟨Q j, 0, none⟩) n (C j)) (fun j hj k hk => by
    have : k = 0 := by omega
    subst this
    simp [List.getElem?_range hj])
  exact ⟨p, cap, hv, fun j => (some ⟨Q j, 0, none⟩, C j), hs, fun j hj => (h2 j hj).1.z.row⟩
/-- append(sum, l) of one row, onto a list of rows of the call's own. -/
theorem wpList_append_row {ops : Array Oper} {rest : List Oper} {o : Oper} {a : Act} {Q : Exit → Act → World → Prop} {w : World} (hgd : o.guard = none) (s x : Operand)
    (ho : o.op = .call { callee := .builtin .append, args := #[s, x], argTypes := #[33, 33] })
    (B : Nat) (v : Value) (i n : Nat) (S : Nat → Nat → Int) (hv : a.eval s = v) (hsum : SumH w B v i n S) (g c q m : Nat) (hx : a.eval x = .slice (some ⟨g, 0, none⟩) 1 c)
    (hc : w.cell? ⟨g, 0, none⟩ = some (.slice (some ⟨q, 0, none⟩) n m)) (hr : RowT w q n (S i)) (hq : B ≤ q) (hn : i < 1000000000000) (hbase : B ≤ w.heap.size)
    (h : ∀ v' w', SumH w' B v' (i + 1) n S → Below B w w' → wpList Tryd.prog ops Q rest (a.put o.dst v') w') : wpList Tryd.prog ops Q (o :: rest) a w := by
  obtain ⟨QQ, C, h1, h2⟩ := hsum
  refine wpList_append_hdr hgd s x ho B v _ hv h1 g c (some ⟨q, 0, none⟩) n m hx hc (by simpa using hn) hbase fun v' w' k1 k2 => ?_
  refine h v' w' ?_ (below_append (Below.refl _ _) h1 k2 hbase (Nat.le_refl _))
  have hkeep : ∀ {q : Nat} {f : Nat → Int}, RowT w q n f → RowT w' q n f := fun hr => hr.kept (k2.block _ hr.z.1 (own_ne_row h1 hr))
  refine ⟨fun j => if j = i then q else QQ j, fun j => if j = i then m else C j, ?_, fun j hj => ?_⟩
  · have e : ((List.range (i + 1)).map fun j => Value.slice (some ⟨if j = i then q else QQ j, 0, none⟩) n (if j = i then m else C j)) = ((List.range i).map fun j => .slice (some ⟨QQ j, 0, none⟩) n (C j)) ++ [.slice (some ⟨q, 0, none⟩) n m] := by
      rw [List.range_succ, List.map_append]
      congr 1
      · refine List.map_congr_left fun j hj => ?_
        have := List.mem_range.1 hj
        rw [if_neg (by omega), if_neg (by omega)]
      · simp
    rw [e]
    exact k1
  · dsimp only
    by_cases e : j = i
    · subst e
      rw [if_pos rfl]
      exact ⟨hkeep hr, hq⟩
    · rw [if_neg e]
      exact ⟨hkeep (h2 j (by omega)).1, (h2 j (by omega)).2⟩
/-- The numbers of a function, as a list. -/
def zsF (f : Nat → Int) (n : Nat) : List Int := (List.range n).map f
theorem zsF_len (f : Nat → Int) (n : Nat) : (zsF f n).length = n := by simp [zsF]
theorem zsF_get (f : Nat → Int) (n : Nat) {k : Nat} (hk : k < n) : (zsF f n).getD k 0 = f k := by
  unfold zsF
  rw [List.getD_eq_getElem?_getD, List.getElem?_map, List.getElem?_range hk]; rfl
theorem OwnZ.mkRow {w : World} {B : Nat} {v : Value} {f : Nat → Int} {n : Nat} (h : OwnZ w B v ([] ++ zsF f n)) (h0 : 0 < n) : ∃ g cap, v = .slice (some ⟨g, 0, none⟩) n cap ∧ B ≤ g ∧ RowT w g n f := by
  rw [List.nil_append] at h
  obtain ⟨g, cap, hv, hB, hr⟩ := OwnZ.row h (by rw [zsF_len]; exact h0)
  rw [zsF_len] at hv hr
  exact ⟨g, cap, hv, hB, hr.congr fun k hk => zsF_get f n hk⟩
end Go.Proofs.YtmbamcpndbimaaaDoor
