/- The walks of matrix.Characteristic and Det. The walks of matrix.Adjugate and Transpose. The walks of matrix.Mul and Add. The walk of matrix.Transpose. The walk of matrix.Apply. Sums and products of matrices, as functions. The walks of integer.length, Bits. The walk of matrix.Power. The numbers of matrix.characteristic are of moderate size. The powers of a matrix are of moderate size. polynomial.combine, Add and Sub: the walks. -/
import Derived.Test.YtmbamcpndbimaaaDoorA9
import Derived.Test.YtmbamcpndbimaaaDoorA2
import Derived.Test.YtmbamcpndbimaaaDoorShelfA
import Derived.Test.YtmbamcpndbimaaaDoorA6
namespace Go.Proofs.YtmbamcpndbimaaaDoor
open Go.RowKit Go.Shelf

/-- A matrix and an error, or nil and an error. -/
def RetMatE (v : Int) (r c : Nat) (F : Nat → Nat → Int) (w : World) (e : Ending) (w' : World) : Prop :=
  Below w.heap.size w w' ∧ ((v = 0 ∧ ∃ q k, e = .returned (.tuple #[.slice q r k, .int .i64 0]) ∧ MatF w' q r c F) ∨ (v ≠ 0 ∧ e = .returned (.tuple #[.slice none 0 0, .int .i64 v])))
def RetRowE (v : Int) (n : Nat) (f : Nat → Int) (w : World) (e : Ending) (w' : World) : Prop :=
  Below w.heap.size w w' ∧ ((v = 0 ∧ ∃ q k, e = .returned (.tuple #[.slice q n k, .int .i64 0]) ∧ RowF w' q n f) ∨ (v ≠ 0 ∧ e = .returned (.tuple #[.slice none 0 0, .int .i64 v])))
def RetNumE (v : Int) (n : Int) (w : World) (e : Ending) (w' : World) : Prop :=
  Below w.heap.size w w' ∧ ((v = 0 ∧ e = .returned (.tuple #[.agg #[.bool (canon n).neg, .string (canon n).mag], .int .i64 0])) ∨ (v ≠ 0 ∧ e = .returned (.tuple #[.agg #[.bool false, .string ⟨#[]⟩], .int .i64 v])))
theorem GM.sq_zero {m : GM} (h : m.sq = 0) : m.chk = 0 ∧ m.r = m.L 0 ∧ 0 < m.r ∧ m.r ≤ 32 := by
  unfold GM.sq at h
  split at h
  · cases h
  split at h
  · cases h
  · rename_i h1 h2
    have h1 : m.chk = 0 := by omega
    have := GM.chk_zero h1
    exact ⟨h1, by omega, this.1, this.2.2.1⟩

/-- The determinant, from the characteristic polynomial. -/
def detC (n : Nat) (A : Nat → Nat → Int) : Int := if n % 2 = 1 then -chrP n A n 0 else chrP n A n 0
theorem chrP_zero {n : Nat} (h : 0 < n) (A : Nat → Nat → Int) : chrP n A n 0 = chrC n A (n - 1) := by
  unfold chrP
  rw [if_neg (by omega), if_pos (by omega)]
  rfl
end Go.Proofs.YtmbamcpndbimaaaDoor

namespace Go.Proofs.YtmbamcpndbimaaaDoor
open Go.RowKit Go.Shelf

/-- The adjugate, from the last of the matrices. -/
def adjC (n : Nat) (A : Nat → Nat → Int) (i k : Nat) : Int := if n % 2 = 0 then -chrM n A (n - 1) i k else chrM n A (n - 1) i k
end Go.Proofs.YtmbamcpndbimaaaDoor

namespace Go.Proofs.YtmbamcpndbimaaaDoor
open Go.RowKit Go.Shelf

theorem below_drN {B : Nat} {w w' : World} (h : Below B w w') (k : Nat) : Below B w (w'.drewN k) := by
  exact below_dr h
def mulE (a b : GM) : Int := if (a.chk != 0 || b.chk != 0) = true then 1 else if a.L 0 ≠ b.r then 11 else 0
theorem mulE_zero {a b : GM} (h : mulE a b = 0) : a.chk = 0 ∧ b.chk = 0 ∧ a.L 0 = b.r := by
  unfold mulE at h
  split at h
  · cases h
  · rename_i h1
    split at h
    · cases h
    · rename_i h2
      simp at h1
      exact ⟨h1.1, h1.2, by omega⟩
def addE (a b : GM) : Int := if (a.chk != 0 || b.chk != 0) = true then 1 else if ¬(a.r = b.r ∧ a.L 0 = b.L 0) then 11 else 0
theorem addE_zero {a b : GM} (h : addE a b = 0) : a.chk = 0 ∧ b.chk = 0 ∧ a.r = b.r ∧ a.L 0 = b.L 0 := by
  unfold addE at h
  split at h
  · cases h
  · rename_i h1
    split at h
    · cases h
    · rename_i h2
      simp at h1
      exact ⟨h1.1, h1.2, by omega, by omega⟩
end Go.Proofs.YtmbamcpndbimaaaDoor

namespace Go.Proofs.YtmbamcpndbimaaaDoor
open Go.RowKit Go.Shelf

def trE (a : GM) : Int := if a.chk ≠ 0 then 1 else 0
end Go.Proofs.YtmbamcpndbimaaaDoor

namespace Go.Proofs.YtmbamcpndbimaaaDoor
open Go.RowKit Go.Shelf

def applyE (a : GM) (n : Nat) (Z : Nat → ZI) : Int := if (a.chk != 0 || anyN (fun k => !okZ (Z k)) n) = true then 1 else if n ≠ a.L 0 then 11 else 0
theorem applyE_zero {a : GM} {n : Nat} {Z : Nat → ZI} (h : applyE a n Z = 0) : a.chk = 0 ∧ n = a.L 0 ∧ ∀ k, k < n → Z k = canon (valZ (Z k)) := by
  unfold applyE at h
  split at h
  · cases h
  · rename_i h1
    split at h
    · cases h
    · rename_i h2
      rw [Bool.not_eq_true, Bool.or_eq_false_iff, anyN_false] at h1
      exact ⟨by simpa using h1.1, by omega, fun k hk => by simpa [okZ] using h1.2 k hk⟩
/-- Within Apply: i rows are done, and k numbers of the next one. -/
structure ApI (w wr : World) (g r n i k : Nat) (F : Nat → Nat → Int) (V : Nat → Int) : Prop where
  below : Below w.heap.size w wr
  cur : ZAt wr g r (fun m => if m < i then dotN (fun j => F m j * V j) n else if m = i then dotN (fun j => F i j * V j) k else 0)
  low : w.heap.size ≤ g
theorem ApI.start (w wr : World) (hb : Below w.heap.size w wr) (r n : Nat) (t : TypeId) (F : Nat → Nat → Int) (V : Nat → Int) : ApI w (wr.alloc (.cells (madeCells #[.bool false, .string ⟨#[]⟩] (r * 2)) t)) wr.heap.size r n 0 0 F V :=
  ⟨hb.alloc hb.size _, (made_zero wr r t).congr fun k _ => by
    rw [if_neg (by omega)]
    split <;> rfl, hb.size⟩
theorem ApI.call {w wr wr' : World} {g r n i k : Nat} {F : Nat → Nat → Int} {V : Nat → Int} (h : ApI w wr g r n i k F V) (hb : Below wr.heap.size wr wr') : ApI w wr' g r n i k F V :=
  ⟨h.below.trans (hb.mono h.below.size), h.cur.below hb h.cur.1, h.low⟩
theorem ApI.put {w wr : World} {g r n i k : Nat} {F : Nat → Nat → Int} {V : Nat → Int} (h : ApI w wr g r n i k F V) :
    ApI w ((wr.setCell ⟨g, i * 2, none⟩ (.bool (canon (dotN (fun j => F i j * V j) (k + 1))).neg)).setCell ⟨g, i * 2 + 1, none⟩ (.string (canon (dotN (fun j => F i j * V j) (k + 1))).mag)) g r n i (k + 1) F V :=
  ⟨(h.below.setCell (by simpa using h.low) _).setCell (by simpa using h.low) _, (h.cur.set _).congr fun m _ => by
    by_cases e : m = i
    · subst e; simp
    · simp [e], h.low⟩
theorem ApI.leave {w wr : World} {g r n i : Nat} {F : Nat → Nat → Int} {V : Nat → Int} (h : ApI w wr g r n i n F V) : ApI w wr g r n (i + 1) 0 F V :=
  ⟨h.below, h.cur.congr fun m _ => by
    by_cases e : m = i
    · subst e; simp
    · by_cases e2 : m < i
      · rw [if_pos e2, if_pos (by omega)]
      · rw [if_neg e2, if_neg e, if_neg (by omega)]
        split <;> rfl, h.low⟩
end Go.Proofs.YtmbamcpndbimaaaDoor
namespace Go.Proofs.YtmbamcpndbimaaaDoor
theorem dotN_congr {f g : Nat → Int} {n : Nat} (h : ∀ j, j < n → f j = g j) : dotN f n = dotN g n := by
  induction n with
  | zero => rfl
  | succ n ih => rw [dotN, dotN, ih fun j hj => h j (by omega), h n (by omega)]
theorem dotN_zero (n : Nat) : dotN (fun _ => 0) n = 0 := by
  induction n with
  | zero => rfl
  | succ n ih => rw [dotN, ih]; rfl
theorem dotN_add (f g : Nat → Int) (n : Nat) : dotN (fun j => f j + g j) n = dotN f n + dotN g n := by
  induction n with
  | zero => rfl
  | succ n ih => rw [dotN, dotN, dotN, ih]; omega
theorem dotN_mul (c : Int) (f : Nat → Int) (n : Nat) : dotN (fun j => c * f j) n = c * dotN f n := by
  induction n with
  | zero => exact (Int.mul_zero c).symm
  | succ n ih => rw [dotN, dotN, ih, Int.mul_add]
theorem dotN_mul_right (c : Int) (f : Nat → Int) (n : Nat) : dotN (fun j => f j * c) n = dotN f n * c := by
  induction n with
  | zero => exact (Int.zero_mul c).symm
  | succ n ih => rw [dotN, dotN, ih, Int.add_mul]
theorem dotN_swap (f : Nat → Nat → Int) (m n : Nat) : dotN (fun i => dotN (fun j => f i j) n) m = dotN (fun j => dotN (fun i => f i j) m) n := by
  induction m with
  | zero => exact (dotN_zero n).symm
  | succ m ih =>
    rw [dotN, ih, ← dotN_add]
    rfl
theorem dotN_pick (f : Nat → Int) (n i : Nat) (hi : i < n) : dotN (fun j => if i = j then f j else 0) n = f i := by
  induction n with
  | zero => omega
  | succ n ih =>
    rw [dotN]
    by_cases e : i = n
    · subst e
      rw [if_pos rfl, dotN_congr (g := fun _ => 0) fun j hj => if_neg (by omega), dotN_zero, Int.zero_add]
    · rw [ih (by omega), if_neg e, Int.add_zero]
theorem mulF_congr {n : Nat} {F G F' G' : Nat → Nat → Int} {i k : Nat} (h : ∀ j, j < n → F i j = F' i j) (g : ∀ j, j < n → G j k = G' j k) : mulF n F G i k = mulF n F' G' i k :=
  dotN_congr fun j hj => by rw [h j hj, g j hj]
theorem mulF_assoc (m n : Nat) (F G H : Nat → Nat → Int) (i k : Nat) : mulF n (mulF m F G) H i k = mulF m F (mulF n G H) i k := by
  show dotN (fun j => dotN (fun l => F i l * G l j) m * H j k) n = dotN (fun l => F i l * dotN (fun j => G l j * H j k) n) m
  rw [dotN_congr fun j _ => (dotN_mul_right (H j k) (fun l => F i l * G l j) m).symm, dotN_swap]
  refine dotN_congr fun l _ => ?_
  rw [← dotN_mul]
  exact dotN_congr fun j _ => Int.mul_assoc ..
def oneF (i k : Nat) : Int := if i = k then 1 else 0
theorem mulF_one_left (n : Nat) (F : Nat → Nat → Int) (i k : Nat) (hi : i < n) : mulF n oneF F i k = F i k := by
  show dotN (fun j => (if i = j then 1 else 0) * F j k) n = _
  rw [dotN_congr (g := fun j => if i = j then F j k else 0) fun j _ => ?_, dotN_pick _ n i hi]
  split
  · exact Int.one_mul _
  · exact Int.zero_mul _
theorem mulF_one_right (n : Nat) (F : Nat → Nat → Int) (i k : Nat) (hk : k < n) : mulF n F oneF i k = F i k := by
  show dotN (fun j => F i j * (if j = k then 1 else 0)) n = _
  rw [dotN_congr (g := fun j => if k = j then F i j else 0) fun j _ => ?_, dotN_pick (fun j => F i j) n k hk]
  by_cases e : j = k
  · rw [if_pos e, if_pos e.symm]; exact Int.mul_one _
  · rw [if_neg e, if_neg (fun h => e h.symm)]; exact Int.mul_zero _
theorem mulF_add_left (n : Nat) (F G H : Nat → Nat → Int) (i k : Nat) : mulF n (fun i k => F i k + G i k) H i k = mulF n F H i k + mulF n G H i k := by
  show dotN _ n = dotN _ n + dotN _ n
  rw [← dotN_add]
  exact dotN_congr fun j _ => Int.add_mul ..
theorem mulF_tr (n : Nat) (F G : Nat → Nat → Int) (i k : Nat) : mulF n (fun i k => G k i) (fun i k => F k i) i k = mulF n F G k i :=
  dotN_congr fun j _ => Int.mul_comm ..
/-- Powers, one factor at a time. -/
def powF (n : Nat) (A : Nat → Nat → Int) : Nat → Nat → Nat → Int
  | 0 => oneF
  | k + 1 => mulF n (powF n A k) A
theorem powF_add (n : Nat) (A : Nat → Nat → Int) (a b : Nat) (i k : Nat) (hk : k < n) : mulF n (powF n A a) (powF n A b) i k = powF n A (a + b) i k := by
  induction b generalizing i k with
  | zero => exact mulF_one_right n _ i k hk
  | succ b ih =>
    show mulF n (powF n A a) (mulF n (powF n A b) A) i k = mulF n (powF n A (a + b)) A i k
    rw [← mulF_assoc]
    exact mulF_congr (fun j hj => ih i j hj) fun _ _ => rfl
theorem powF_one (n : Nat) (A : Nat → Nat → Int) (i k : Nat) (hi : i < n) : powF n A 1 i k = A i k := mulF_one_left n A i k hi
theorem powF_comm (n : Nat) (A : Nat → Nat → Int) (k i j : Nat) (hi : i < n) (hj : j < n) : mulF n A (powF n A k) i j = powF n A (k + 1) i j := by
  rw [Nat.add_comm, ← powF_add n A 1 k i j hj]
  exact (mulF_congr (fun l _ => powF_one n A i l hi) fun _ _ => rfl).symm
end Go.Proofs.YtmbamcpndbimaaaDoor
namespace Go.Proofs.YtmbamcpndbimaaaDoor
open Go.RowKit

/-- The bits of a natural number. -/
def bitsN (v : Nat) : Nat := if (digs v).length = 0 then 0 else 32 * ((digs v).length - 1) + Lib.bitLen ((digs v).getD ((digs v).length - 1) 0)
end Go.Proofs.YtmbamcpndbimaaaDoor
namespace Go.Proofs.YtmbamcpndbimaaaDoor
open Go.RowKit Go.Shelf

theorem bitsN_fit {z : ZI} (h : z.mag.size ≤ 100000000) : bitsN (absZ z) ≤ 6400000000 := by
  have h1 := digs_len_fit h
  unfold bitsN
  split
  · omega
  · have : Lib.bitLen ((digs (absZ z)).getD ((digs (absZ z)).length - 1) 0) ≤ 32 := Lib.bitLen_le _ 32 (by decide) ((dg_digs (absZ z)).getD _)
    omega
/-- The greatest of some numbers. -/
def mxC (b : Nat) (f : Nat → Nat) : Nat → Nat
  | 0 => b
  | k + 1 => max (mxC b f k) (f k)
def mxM (G : Nat → Nat → Nat) (c : Nat) : Nat → Nat
  | 0 => 0
  | i + 1 => mxC (mxM G c i) (G i) c
theorem mxC_le {b B : Nat} {f : Nat → Nat} {k : Nat} (hb : b ≤ B) (hf : ∀ j, j < k → f j ≤ B) : mxC b f k ≤ B := by
  induction k with
  | zero => exact hb
  | succ k ih => exact Nat.max_le.2 ⟨ih fun j hj => hf j (by omega), hf k (by omega)⟩
theorem mxM_le {B : Nat} {G : Nat → Nat → Nat} {c r : Nat} (hf : ∀ i k, i < r → k < c → G i k ≤ B) : mxM G c r ≤ B := by
  induction r with
  | zero => exact Nat.zero_le _
  | succ r ih => exact mxC_le (ih fun i k hi hk => hf i k (by omega) hk) fun j hj => hf r j (by omega) hj
def bitM (F : Nat → Nat → Int) (i k : Nat) : Nat := bitsN (F i k).natAbs
def powE (a : GM) (n : Int) : Int := if a.sq ≠ 0 then a.sq else if n < 0 ∨ 4096 < n then 2 else if 65536 < ((mxM (bitM a.F) a.r a.r + bitsN a.r : Nat) : Int) * n then 4 else 0
/-- All powers up to the one asked for are of moderate size. -/
def PowOk (r : Nat) (F : Nat → Nat → Int) (N : Nat) : Prop := (∀ u, u ≤ N → Small r r (powF r F u)) ∧ ∀ u v, u + v ≤ N → SmallP r r r (powF r F u) (powF r F v)
end Go.Proofs.YtmbamcpndbimaaaDoor
namespace Go.Proofs.YtmbamcpndbimaaaDoor
/-- A number of at most e bits. -/
def Bn (x : Int) (e : Nat) : Prop := x.natAbs ≤ 2 ^ e
theorem Bn.size {x : Int} {e : Nat} (h : Bn x e) (k : Nat) (he : e < 8 * k) : (canon x).mag.size ≤ k := by
  refine canon_size x ?_
  rw [show (256 : Nat) = 2 ^ 8 from rfl, ← Nat.pow_mul]
  exact Nat.lt_of_le_of_lt h (Nat.pow_lt_pow_right (by decide) he)
theorem Bn.up {x : Int} {e f : Nat} (h : Bn x e) (he : e ≤ f) : Bn x f := Nat.le_trans h (Nat.pow_le_pow_right (by decide) he)
theorem Bn.mul {x y : Int} {e f : Nat} (h : Bn x e) (g : Bn y f) : Bn (x * y) (e + f) := by
  unfold Bn at *
  rw [Int.natAbs_mul, Nat.pow_add]
  exact Nat.mul_le_mul h g
theorem Bn.add {x y : Int} {e : Nat} (h : Bn x e) (g : Bn y e) : Bn (x + y) (e + 1) := by
  unfold Bn at *
  rw [Nat.pow_succ]
  omega
theorem Bn.neg {x : Int} {e : Nat} (h : Bn x e) : Bn (-x) e := by
  unfold Bn at *
  omega
theorem Bn.zero (e : Nat) : Bn 0 e := Nat.zero_le _
theorem Bn.one (e : Nat) : Bn 1 e := Nat.pos_of_ne_zero (by simp)
theorem Bn.div {x k : Int} {e : Nat} (h : Bn x e) (hk : 0 < k) : Bn (x / k) e := by
  unfold Bn at *
  refine Nat.le_trans ?_ h
  have h1 := Int.mul_ediv_add_emod x k
  have h2 := Int.emod_nonneg x (show k ≠ 0 by omega)
  have h3 := Int.emod_lt_of_pos x hk
  generalize x / k = q at *
  generalize x % k = r at *
  by_cases hq : 0 ≤ q
  · have : q ≤ k * q := by
      have := Int.mul_le_mul_of_nonneg_right (show 1 ≤ k by omega) hq
      omega
    omega
  · have : k * q ≤ k * (-1) := Int.mul_le_mul_of_nonneg_left (by omega) (by omega)
    have h5 : k * (q + 1) ≤ 1 * (q + 1) := Int.mul_le_mul_of_nonpos_right (by omega) (by omega)
    rw [Int.mul_add] at h5
    omega
theorem Bn.dot {f : Nat → Int} {e m : Nat} (n : Nat) (hn : n ≤ 2 ^ m) (h : ∀ j, j < n → Bn (f j) e) : Bn (dotN f n) (e + m) := by
  have : ∀ j, j ≤ n → (dotN f j).natAbs ≤ j * 2 ^ e := by
    intro j
    induction j with
    | zero => intro _; simp [dotN]
    | succ j ih =>
      intro hj
      have h1 := ih (by omega)
      have h2 := h j (by omega)
      unfold Bn at h2
      rw [dotN, Nat.add_mul, Nat.one_mul]
      omega
  unfold Bn
  rw [Nat.pow_add, Nat.mul_comm]
  exact Nat.le_trans (this n (Nat.le_refl _)) (Nat.mul_le_mul_right _ hn)
/-- A matrix of numbers of at most e bits. -/
def BnM (r c : Nat) (F : Nat → Nat → Int) (e : Nat) : Prop := ∀ i k, i < r → k < c → Bn (F i k) e
theorem BnM.up {r c : Nat} {F : Nat → Nat → Int} {e f : Nat} (h : BnM r c F e) (he : e ≤ f) : BnM r c F f := fun i k hi hk => (h i k hi hk).up he
theorem BnM.small {r c : Nat} {F : Nat → Nat → Int} {e : Nat} (h : BnM r c F e) (he : e < 8 * 100000000) : Small r c F := fun i k hi hk => (h i k hi hk).size _ he
theorem BnM.mul {r n c : Nat} {F G : Nat → Nat → Int} {e f m : Nat} (h : BnM r n F e) (g : BnM n c G f) (hn : n ≤ 2 ^ m) : BnM r c (mulF n F G) (e + f + m) := fun i k hi hk => Bn.dot n hn fun j hj => (h i j hi hj).mul (g j k hj hk)
theorem BnM.add {r c : Nat} {F G : Nat → Nat → Int} {e : Nat} (h : BnM r c F e) (g : BnM r c G e) : BnM r c (fun i k => F i k + G i k) (e + 1) := fun i k hi hk => (h i k hi hk).add (g i k hi hk)
theorem BnM.smallP {r n c : Nat} {F G : Nat → Nat → Int} {e f m : Nat} (h : BnM r n F e) (g : BnM n c G f) (hn : n ≤ 2 ^ m) (he : e + f + m < 8 * 100000000) : SmallP r n c F G := fun i k hi hk =>
  ⟨fun j hj => (Bn.dot j (Nat.le_trans hj hn) fun l hl => (h i l hi (by omega)).mul (g l k (by omega) hk)).size _ he, fun j hj => ((h i j hi hj).mul (g j k hj hk)).size _ (by omega)⟩
theorem chrC_bn {n : Nat} {A : Nat → Nat → Int} {e f m : Nat} (h : BnM n n A e) (hn : n ≤ 2 ^ m) (j : Nat) (g : BnM n n (chrM n A j) f) : Bn (chrC n A j) (e + f + m + m) :=
  ((Bn.dot n hn fun i hi => h.mul g hn i i hi hi).neg).div (by omega)
theorem chrM_bn {n : Nat} {A : Nat → Nat → Int} {e m : Nat} (h : BnM n n A e) (hn : n ≤ 2 ^ m) (j : Nat) : BnM n n (chrM n A j) (j * (e + m + m + 1)) := by
  induction j with
  | zero =>
    intro i k _ _
    show Bn (if i = k then 1 else 0) _
    split
    · exact Bn.one _
    · exact Bn.zero _
  | succ j ih =>
    intro i k hi hk
    show Bn (mulF n A (chrM n A j) i k + if i = k then chrC n A j else 0) _
    have h1 := chrC_bn h hn j ih
    have h2 := h.mul ih hn i k hi hk
    refine ((h2.up (f := e + j * (e + m + m + 1) + m + m) (by omega)).add (y := if i = k then chrC n A j else 0) ?_).up ?_
    · split
      · exact h1
      · exact Bn.zero _
    · rw [Nat.add_mul]; omega
theorem chrOk_of {n : Nat} {A : Nat → Nat → Int} {e m : Nat} (h : BnM n n A e) (hn : n ≤ 2 ^ m) (hs : n * (e + m + m + 1) < 8 * 100000000) : ChrOk n A := by
  have hj : ∀ j, j < n → e + j * (e + m + m + 1) + m + m < 8 * 100000000 := fun j hj => by
    have h1 : (j + 1) * (e + m + m + 1) ≤ n * (e + m + m + 1) := Nat.mul_le_mul_right _ hj
    rw [Nat.add_mul, Nat.one_mul] at h1
    omega
  refine ⟨fun i k hi hk => ?_, fun j hl => (chrM_bn h hn j).small ?_, fun j hl => h.smallP (chrM_bn h hn j) hn ?_, fun j hl => (h.mul (chrM_bn h hn j) hn).small ?_, fun j hl i hi => ?_, fun j hl => ?_⟩
  · have := hj 0 (by omega)
    exact (h i k hi hk).size _ (by omega)
  · have := hj j hl; omega
  · have := hj j hl; omega
  · have := hj j hl; omega
  · exact (Bn.dot i (Nat.le_trans hi hn) fun l hl2 => h.mul (chrM_bn h hn j) hn l l (by omega) (by omega)).size _ (hj j hl)
  · exact (chrC_bn h hn j (chrM_bn h hn j)).size _ (hj j hl)
end Go.Proofs.YtmbamcpndbimaaaDoor

namespace Go.Proofs.YtmbamcpndbimaaaDoor
theorem powF_bn {n : Nat} {A : Nat → Nat → Int} {e m : Nat} (h : BnM n n A e) (hn : n ≤ 2 ^ m) (u : Nat) : BnM n n (powF n A u) (u * (e + m)) := by
  induction u with
  | zero =>
    intro i k _ _
    show Bn (if i = k then 1 else 0) _
    split
    · exact Bn.one _
    · exact Bn.zero _
  | succ u ih =>
    intro i k hi hk
    exact (ih.mul h hn i k hi hk).up (by rw [Nat.add_mul]; omega)
theorem powOk_of {n : Nat} {A : Nat → Nat → Int} {e m N : Nat} (h : BnM n n A e) (hn : n ≤ 2 ^ m) (hs : N * (e + m) + m < 8 * 100000000) : PowOk n A N := by
  refine ⟨fun u hu => (powF_bn h hn u).small ?_, fun u v huv => (powF_bn h hn u).smallP (powF_bn h hn v) hn ?_⟩
  · have := Nat.mul_le_mul_right (e + m) hu
    omega
  · have := Nat.mul_le_mul_right (e + m) huv
    rw [Nat.add_mul] at this
    omega
end Go.Proofs.YtmbamcpndbimaaaDoor
namespace Go.Proofs.YtmbamcpndbimaaaDoor
open Go.RowKit

/-- Beyond its n coefficients a polynomial has zeros. -/
def zx (Z : Nat → ZI) (n k : Nat) : ZI := if k < n then Z k else ⟨false, ⟨#[]⟩⟩
/-- The coefficients of a polynomial. -/
def cf (Z : Nat → ZI) (n k : Nat) : Int := if k < n then valZ (Z k) else 0
theorem valZ_zx (Z : Nat → ZI) (n k : Nat) : valZ (zx Z n k) = cf Z n k := by unfold zx cf; split <;> rfl
def mxN (a b : Nat) : Nat := if b > a then b else a
theorem mxN_ge (a b : Nat) : a ≤ mxN a b ∧ b ≤ mxN a b := by unfold mxN; split <;> omega
theorem mxN_or (a b : Nat) : mxN a b = a ∨ mxN a b = b := by unfold mxN; split <;> simp
theorem ymax2 {P : Program} (ts : Array TypeId) (t : TypeId) (w : World) (a b : Nat) : (Builtin.max_ ts t #[.int .i64 (a : Int), .int .i64 (b : Int)]).run P w = .ok (.int .i64 ((mxN a b : Nat) : Int)) w := by
  have h : (Builtin.max_ ts t #[.int .i64 (a : Int), .int .i64 (b : Int)]).run P w = .ok (.int .i64 (if (b : Int) > (a : Int) then (b : Int) else (a : Int))) w := rfl
  rw [h]
  unfold mxN
  by_cases hb : b > a
  · rw [if_pos hb, if_pos (by omega)]
  · rw [if_neg hb, if_neg (by omega)]
theorem GRow.cells {w : World} {p : Option Addr} {n : Nat} {Z : Nat → ZI} (h : GRow w p n Z) {k : Nat} (hk : k < n) : ∃ b off, p = some ⟨b, off, none⟩ ∧ b < w.heap.size ∧ ∀ i, i < n → w.cell? ⟨b, off + i * 2, none⟩ = some (.bool (Z i).neg) ∧ w.cell? ⟨b, off + i * 2 + 1, none⟩ = some (.string (Z i).mag) := by
  rcases h with h | ⟨b, off, rfl, hl, hc⟩
  · omega
  · exact ⟨b, off, rfl, hl, fun k hk => ⟨by have := hc k hk 0 (by omega); simpa [zg] using this, by have := hc k hk 1 (by omega); simpa [zg] using this⟩⟩
theorem RowF.g {w : World} {p : Option Addr} {n : Nat} {f : Nat → Int} (h : RowF w p n f) : GRow w p n (fun k => canon (f k)) := h
end Go.Proofs.YtmbamcpndbimaaaDoor
