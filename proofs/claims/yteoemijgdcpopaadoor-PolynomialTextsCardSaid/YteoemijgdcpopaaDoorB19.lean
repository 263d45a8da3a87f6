/- The walks of matrix.Characteristic and Det. The walks of matrix.Adjugate and Transpose. The walks of matrix.Mul and Add. The walk of matrix.Transpose. The walk of matrix.Apply. -/
import Derived.Test.YteoemijgdcpopaaDoorB18
namespace Go.Proofs.YteoemijgdcpopaaDoor
open Go.RowKit Go.Shelf

/-- A matrix and an error, or nil and an error. -/
def RetMatE (v : Int) (r c : Nat) (F : Nat → Nat → Int) (w : World) (e : Ending) (w' : World) : Prop :=
  Below w.heap.size w w' ∧ ((v = 0 ∧ ∃ q k, e = .returned (.tuple #[.slice q r k, .int .i64 0]) ∧ MatF w' q r c F) ∨ (v ≠ 0 ∧ e = .returned (.tuple #[.slice none 0 0, .int .i64 v])))
def RetRowE (v : Int) (n : Nat) (f : Nat → Int) (w : World) (e : Ending) (w' : World) : Prop :=
  Below w.heap.size w w' ∧ ((v = 0 ∧ ∃ q k, e = .returned (.tuple #[.slice q n k, .int .i64 0]) ∧ RowF w' q n f) ∨ (v ≠ 0 ∧ e = .returned (.tuple #[.slice none 0 0, .int .i64 v])))
def RetNumE (v : Int) (n : Int) (w : World) (e : Ending) (w' : World) : Prop :=
  Below w.heap.size w w' ∧ ((v = 0 ∧ e = .returned (.tuple #[.agg #[.bool (canon n).neg, .string (canon n).mag], .int .i64 0])) ∨ (v ≠ 0 ∧ e = .returned (.tuple #[.agg #[.bool false, .string ⟨#[]⟩], .int .i64 v])))
theorem GM.sq_zero {m : GM} (h : m.sq = 0) : m.chk = 0 ∧ m.r = m.L 0 ∧ 0 < m.r ∧ m.r ≤ 32 := by
  unfold GM.sq at h
  split at h
  · cases h
  split at h
  · cases h
  · rename_i h1 h2
    have h1 : m.chk = 0 := by omega
    have := GM.chk_zero h1
    exact ⟨h1, by omega, this.1, this.2.2.1⟩

/-- The determinant, from the characteristic polynomial. -/
def detC (n : Nat) (A : Nat → Nat → Int) : Int := if n % 2 = 1 then -chrP n A n 0 else chrP n A n 0
theorem chrP_zero {n : Nat} (h : 0 < n) (A : Nat → Nat → Int) : chrP n A n 0 = chrC n A (n - 1) := by
  unfold chrP
  rw [if_neg (by omega), if_pos (by omega)]
  rfl
end Go.Proofs.YteoemijgdcpopaaDoor

namespace Go.Proofs.YteoemijgdcpopaaDoor
open Go.RowKit Go.Shelf

/-- The adjugate, from the last of the matrices. -/
def adjC (n : Nat) (A : Nat → Nat → Int) (i k : Nat) : Int := if n % 2 = 0 then -chrM n A (n - 1) i k else chrM n A (n - 1) i k
end Go.Proofs.YteoemijgdcpopaaDoor

namespace Go.Proofs.YteoemijgdcpopaaDoor
open Go.RowKit Go.Shelf

theorem below_drN {B : Nat} {w w' : World} (h : Below B w w') (k : Nat) : Below B w (w'.drewN k) := by
  exact below_dr h
def mulE (a b : GM) : Int := if (a.chk != 0 || b.chk != 0) = true then 1 else if a.L 0 ≠ b.r then 11 else 0
theorem mulE_zero {a b : GM} (h : mulE a b = 0) : a.chk = 0 ∧ b.chk = 0 ∧ a.L 0 = b.r := by
  unfold mulE at h
  split at h
  · cases h
  · rename_i h1
    split at h
    · cases h
    · rename_i h2
      simp at h1
      exact ⟨h1.1, h1.2, by omega⟩
def addE (a b : GM) : Int := if (a.chk != 0 || b.chk != 0) = true then 1 else if ¬(a.r = b.r ∧ a.L 0 = b.L 0) then 11 else 0
theorem addE_zero {a b : GM} (h : addE a b = 0) : a.chk = 0 ∧ b.chk = 0 ∧ a.r = b.r ∧ a.L 0 = b.L 0 := by
  unfold addE at h
  split at h
  · cases h
  · rename_i h1
    split at h
    · cases h
    · rename_i h2
      simp at h1
      exact ⟨h1.1, h1.2, by omega, by omega⟩
end Go.Proofs.YteoemijgdcpopaaDoor

namespace Go.Proofs.YteoemijgdcpopaaDoor
open Go.RowKit Go.Shelf

def trE (a : GM) : Int := if a.chk ≠ 0 then 1 else 0
end Go.Proofs.YteoemijgdcpopaaDoor

namespace Go.Proofs.YteoemijgdcpopaaDoor
open Go.RowKit Go.Shelf

def applyE (a : GM) (n : Nat) (Z : Nat → ZI) : Int := if (a.chk != 0 || anyN (fun k => !okZ (Z k)) n) = true then 1 else if n ≠ a.L 0 then 11 else 0
theorem applyE_zero {a : GM} {n : Nat} {Z : Nat → ZI} (h : applyE a n Z = 0) : a.chk = 0 ∧ n = a.L 0 ∧ ∀ k, k < n → Z k = canon (valZ (Z k)) := by
  unfold applyE at h
  split at h
  · cases h
  · rename_i h1
    split at h
    · cases h
    · rename_i h2
      rw [Bool.not_eq_true, Bool.or_eq_false_iff, anyN_false] at h1
      exact ⟨by simpa using h1.1, by omega, fun k hk => by simpa [okZ] using h1.2 k hk⟩
/-- Within Apply: i rows are done, and k numbers of the next one. -/
structure ApI (w wr : World) (g r n i k : Nat) (F : Nat → Nat → Int) (V : Nat → Int) : Prop where
  below : Below w.heap.size w wr
  cur : ZAt wr g r (fun m => if m < i then dotN (fun j => F m j * V j) n else if m = i then dotN (fun j => F i j * V j) k else 0)
  low : w.heap.size ≤ g
theorem ApI.start (w wr : World) (hb : Below w.heap.size w wr) (r n : Nat) (t : TypeId) (F : Nat → Nat → Int) (V : Nat → Int) : ApI w (wr.alloc (.cells (madeCells #[.bool false, .string ⟨#[]⟩] (r * 2)) t)) wr.heap.size r n 0 0 F V :=
  ⟨hb.alloc hb.size _, (made_zero wr r t).congr fun k _ => by
    rw [if_neg (by omega)]
    split <;> rfl, hb.size⟩
theorem ApI.call {w wr wr' : World} {g r n i k : Nat} {F : Nat → Nat → Int} {V : Nat → Int} (h : ApI w wr g r n i k F V) (hb : Below wr.heap.size wr wr') : ApI w wr' g r n i k F V :=
  ⟨h.below.trans (hb.mono h.below.size), h.cur.below hb h.cur.1, h.low⟩
theorem ApI.put {w wr : World} {g r n i k : Nat} {F : Nat → Nat → Int} {V : Nat → Int} (h : ApI w wr g r n i k F V) :
    ApI w ((wr.setCell ⟨g, i * 2, none⟩ (.bool (canon (dotN (fun j => F i j * V j) (k + 1))).neg)).setCell ⟨g, i * 2 + 1, none⟩ (.string (canon (dotN (fun j => F i j * V j) (k + 1))).mag)) g r n i (k + 1) F V :=
  ⟨(h.below.setCell (by simpa using h.low) _).setCell (by simpa using h.low) _, (h.cur.set _).congr fun m _ => by
    by_cases e : m = i
    · subst e; simp
    · simp [e], h.low⟩
theorem ApI.leave {w wr : World} {g r n i : Nat} {F : Nat → Nat → Int} {V : Nat → Int} (h : ApI w wr g r n i n F V) : ApI w wr g r n (i + 1) 0 F V :=
  ⟨h.below, h.cur.congr fun m _ => by
    by_cases e : m = i
    · subst e; simp
    · by_cases e2 : m < i
      · rw [if_pos e2, if_pos (by omega)]
      · rw [if_neg e2, if_neg e, if_neg (by omega)]
        split <;> rfl, h.low⟩
end Go.Proofs.YteoemijgdcpopaaDoor
