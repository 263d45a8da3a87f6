/- The walk of matrix.table at api.Int. -/
import Derived.Test.YteoemijgdcpopaaDoorB5
import Derived.Deep.RegionHeld
import Derived.RangeFuncCalls
namespace Go.Proofs.YteoemijgdcpopaaDoor
open Go.RowKit

theorem zInfo : (Tryd.prog.info? 35).map (fun i => (i.zero, i.size, i.bytes)) = some (some (.agg #[.bool false, .string ⟨#[]⟩]), 2, 24) := by kernel_rfl
theorem rowInfo : (Tryd.prog.info? 22).map (fun i => (i.zero, i.size, i.bytes)) = some (some (.slice none 0 0), 1, 24) := by kernel_rfl
/-- make([][]api.Int, n), make([]api.Int, n). -/
theorem make_rows (n : Nat) (h : n ≤ 1000000) (w : World) :
    (Instr.makeSlice 52 (.int .i64 (n : Int)) (.int .i64 (n : Int))).run Tryd.prog w = .ok (.slice (some ⟨w.heap.size, 0, none⟩) n n) (w.alloc (.cells (madeCells #[.slice none 0 0] n) 22)) :=
  run_make_row' 52 22 (.slice none 0 0) 24 Tryd.underlying52 rowInfo rfl .i64 .i64 n (by omega) (by omega) w
theorem make_zs (n : Nat) (h : n ≤ 1000000) (w : World) :
    (Instr.makeSlice 22 (.int .i64 (n : Int)) (.int .i64 (n : Int))).run Tryd.prog w = .ok (.slice (some ⟨w.heap.size, 0, none⟩) n n) (w.alloc (.cells (madeCells #[.bool false, .string ⟨#[]⟩] (n * 2)) 35)) := by
  obtain ⟨i, hi, hzz⟩ := Option.map_eq_some_iff.1 zInfo
  simp only [Prod.mk.injEq] at hzz
  obtain ⟨hz, hs, hb⟩ := hzz
  have hr := run_make (P := Tryd.prog) w 22 35 i _ Tryd.underlying22 hi hz .i64 .i64 n n (by omega) (Int.le_refl _) (by rw [hb]; omega) (by omega)
  simp only [Int.toNat_natCast, hs] at hr
  exact hr

/-- Between two rounds of table: i rows are made. -/
structure TabO (w wr : World) (g rows cols i : Nat) (F : Nat → Nat → Int) (A : Nat → Nat) : Prop where
  below : Below w.heap.size w wr
  hdr : HAt wr g rows (fun j => if j < i then .slice (some ⟨A j, 0, none⟩) cols cols else .slice none 0 0)
  row : ∀ j, j < i → ZAt wr (A j) cols (F j) ∧ w.heap.size ≤ A j ∧ A j ≠ g
  low : w.heap.size ≤ g
/-- Within a round: the row i is in the block A i, and k of its numbers are there. -/
structure TabI (w wr : World) (g rows cols i k : Nat) (F : Nat → Nat → Int) (A : Nat → Nat) : Prop where
  below : Below w.heap.size w wr
  hdr : HAt wr g rows (fun j => if j < i + 1 then .slice (some ⟨A j, 0, none⟩) cols cols else .slice none 0 0)
  row : ∀ j, j < i → ZAt wr (A j) cols (F j) ∧ w.heap.size ≤ A j ∧ A j ≠ g ∧ A j ≠ A i
  cur : ZAt wr (A i) cols (fun m => if m < k then F i m else 0) ∧ w.heap.size ≤ A i ∧ A i ≠ g
  low : w.heap.size ≤ g
theorem TabO.start (w wr : World) (hb : Below w.heap.size w wr) (rows cols : Nat) (t : TypeId) (F : Nat → Nat → Int) : TabO w (wr.alloc (.cells (madeCells #[.slice none 0 0] rows) t)) wr.heap.size rows cols 0 F (fun _ => 0) :=
  ⟨hb.alloc hb.size _, (made_hdr wr rows t).congr fun k _ => by rw [if_neg (by omega)], fun j h => by omega, hb.size⟩
theorem TabO.enter {w wr : World} {g rows cols i : Nat} {F : Nat → Nat → Int} {A : Nat → Nat} (h : TabO w wr g rows cols i F A) (t : TypeId) :
    TabI w ((wr.alloc (.cells (madeCells #[.bool false, .string ⟨#[]⟩] (cols * 2)) t)).setCell ⟨g, i, none⟩ (.slice (some ⟨wr.heap.size, 0, none⟩) cols cols)) g rows cols i 0 F (fun j => if j = i then wr.heap.size else A j) := by
  obtain ⟨hb, hh, hr, hl⟩ := h
  have hg : g < wr.heap.size := hh.1
  have hal := (Below.refl wr.heap.size wr).alloc (Nat.le_refl _) (.cells (madeCells #[.bool false, .string ⟨#[]⟩] (cols * 2)) t)
  refine ⟨(hb.alloc hb.size _).setCell (by simpa using hl) _, ?_, fun j hj => ?_, ?_, hl⟩
  · refine ((hh.below hal hg).set (k := i) _).congr fun j hj => ?_
    by_cases e : j = i
    · subst e; simp
    · simp only [if_neg e]
      by_cases h1 : j < i
      · rw [if_pos h1, if_pos (by omega)]
      · rw [if_neg h1, if_neg (by omega)]
  · obtain ⟨h1, h2, h3⟩ := hr j hj
    have e : ¬ j = i := by omega
    have e1 : A j < wr.heap.size := h1.1
    simp only [if_neg e, if_true]
    exact ⟨(h1.below hal e1).other _ _ (by intro h; exact h3 h.symm), h2, h3, by omega⟩
  · simp only [if_true]
    refine ⟨((made_zero wr cols t).other _ _ (by show g ≠ wr.heap.size; omega)).congr fun k _ => by rw [if_neg (by omega)], hb.size, by omega⟩
theorem TabI.call {w wr wr' : World} {g rows cols i k : Nat} {F : Nat → Nat → Int} {A : Nat → Nat} (h : TabI w wr g rows cols i k F A) (hb : Below wr.heap.size wr wr') : TabI w wr' g rows cols i k F A := by
  obtain ⟨h1, h2, h3, h4, h5⟩ := h
  exact ⟨h1.trans (hb.mono h1.size), h2.below hb h2.1, fun j hj => by
    obtain ⟨a, b⟩ := h3 j hj
    exact ⟨a.below hb a.1, b⟩, ⟨h4.1.below hb h4.1.1, h4.2⟩, h5⟩
theorem TabI.put {w wr : World} {g rows cols i k : Nat} {F : Nat → Nat → Int} {A : Nat → Nat} (h : TabI w wr g rows cols i k F A) :
    TabI w ((wr.setCell ⟨A i, k * 2, none⟩ (.bool (canon (F i k)).neg)).setCell ⟨A i, k * 2 + 1, none⟩ (.string (canon (F i k)).mag)) g rows cols i (k + 1) F A := by
  obtain ⟨h1, h2, h3, h4, h5⟩ := h
  refine ⟨(h1.setCell h4.2.1 _).setCell h4.2.1 _, (h2.other _ _ h4.2.2).other _ _ h4.2.2, fun j hj => ?_, ⟨(h4.1.set (k := k) (F i k)).congr fun m _ => ?_, h4.2⟩, h5⟩
  · obtain ⟨a, b, c, d⟩ := h3 j hj
    exact ⟨(a.other _ _ (by exact fun h => d h.symm)).other _ _ (by exact fun h => d h.symm), b, c, d⟩
  · by_cases e : m = k
    · subst e; rw [if_pos rfl, if_pos (by omega)]
    · rw [if_neg e]
      by_cases h1 : m < k
      · rw [if_pos h1, if_pos (by omega)]
      · rw [if_neg h1, if_neg (by omega)]
theorem TabI.leave {w wr : World} {g rows cols i : Nat} {F : Nat → Nat → Int} {A : Nat → Nat} (h : TabI w wr g rows cols i cols F A) : TabO w wr g rows cols (i + 1) F A := by
  obtain ⟨h1, h2, h3, h4, h5⟩ := h
  refine ⟨h1, h2, fun j hj => ?_, h5⟩
  by_cases e : j = i
  · subst e
    exact ⟨h4.1.congr fun m hm => by rw [if_pos hm], h4.2⟩
  · obtain ⟨a, b, c, _⟩ := h3 j (by omega)
    exact ⟨a, b, c⟩
theorem TabO.own {w wr : World} {g rows cols : Nat} {F : Nat → Nat → Int} {A : Nat → Nat} (h : TabO w wr g rows cols rows F A) : OwnMat wr w.heap.size g rows cols F :=
  ⟨A, h.hdr.congr fun j hj => by rw [if_pos hj], h.row, h.low⟩

/-- What table gives: rows of its own. -/
def RetOwn (rows cols : Nat) (F : Nat → Nat → Int) (w : World) (e : Ending) (w' : World) : Prop := ∃ g, e = .returned (.slice (some ⟨g, 0, none⟩) rows rows) ∧ OwnMat w' w.heap.size g rows cols F ∧ Below w.heap.size w w'
theorem RetOwn.mat {r c : Nat} {F : Nat → Nat → Int} {w w' : World} {e : Ending} (h : RetOwn r c F w e w') : RetMat r c F w e w' := by
  obtain ⟨g, h1, h2, h3⟩ := h
  exact ⟨_, _, h1, h2.mat, h3⟩

end Go.Proofs.YteoemijgdcpopaaDoor
