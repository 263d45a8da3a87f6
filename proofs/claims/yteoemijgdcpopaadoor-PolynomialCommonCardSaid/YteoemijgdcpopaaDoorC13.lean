/- The walk of matrix.product. The walk of matrix.trace. The walk of matrix.characteristic. The walks of matrix.Check, bad and square. -/
import Derived.Test.YteoemijgdcpopaaDoorC12
import Derived.Test.YteoemijgdcpopaaDoorC8
namespace Go.Proofs.YteoemijgdcpopaaDoor
open Go.RowKit Go.Shelf

/-- The product of matrices. -/
def mulF (n : Nat) (F G : Nat → Nat → Int) (i k : Nat) : Int := dotN (fun j => F i j * G j k) n
/-- All sums that a product forms are of moderate size. -/
def SmallP (r n c : Nat) (F G : Nat → Nat → Int) : Prop := ∀ i k, i < r → k < c → (∀ j, j ≤ n → (canon (dotN (fun j => F i j * G j k) j)).mag.size ≤ 100000000) ∧ ∀ j, j < n → (canon (F i j * G j k)).mag.size ≤ 100000000

end Go.Proofs.YteoemijgdcpopaaDoor
namespace Go.Proofs.YteoemijgdcpopaaDoor
open Go.RowKit Go.Shelf

end Go.Proofs.YteoemijgdcpopaaDoor
namespace Go.Proofs.YteoemijgdcpopaaDoor
open Go.RowKit Go.Shelf

/-- The matrices of the rounds, and their coefficients. -/
def chrM (n : Nat) (A : Nat → Nat → Int) : Nat → Nat → Nat → Int
  | 0 => fun i k => if i = k then 1 else 0
  | j + 1 => fun i k => mulF n A (chrM n A j) i k + if i = k then (-(dotN (fun i => mulF n A (chrM n A j) i i) n)) / ((j + 1 : Nat) : Int) else 0
def chrC (n : Nat) (A : Nat → Nat → Int) (j : Nat) : Int := (-(dotN (fun i => mulF n A (chrM n A j) i i) n)) / ((j + 1 : Nat) : Int)
/-- The coefficients when j rounds are done. -/
def chrP (n : Nat) (A : Nat → Nat → Int) (j m : Nat) : Int := if m = n then 1 else if n ≤ m + j then chrC n A (n - 1 - m) else 0
/-- All numbers are of moderate size. -/
structure ChrOk (n : Nat) (A : Nat → Nat → Int) : Prop where
  a : Small n n A
  m : ∀ j, j < n → Small n n (chrM n A j)
  p : ∀ j, j < n → SmallP n n n A (chrM n A j)
  s : ∀ j, j < n → Small n n (mulF n A (chrM n A j))
  t : ∀ j, j < n → ∀ i, i ≤ n → (canon (dotN (fun i => mulF n A (chrM n A j) i i) i)).mag.size ≤ 100000000
  c : ∀ j, j < n → (canon (chrC n A j)).mag.size ≤ 100000000
/-- What characteristic returns. -/
def RetChr (n : Nat) (A : Nat → Nat → Int) (w : World) (e : Ending) (w' : World) : Prop :=
  ∃ g q, e = .returned (.tuple #[.slice (some ⟨g, 0, none⟩) (n + 1) (n + 1), .slice (some ⟨q, 0, none⟩) n n]) ∧ ZAt w' g (n + 1) (chrP n A n) ∧ OwnMat w' w.heap.size q n n (chrM n A (n - 1)) ∧ Below w.heap.size w w'

theorem negc_any (a : Int) (ha : (canon a).mag.size ≤ 100000000) (w : World) :
    Calls Tryd.prog 79 #[.agg #[.bool (canon a).neg, .string (canon a).mag]] w (RetZ (canon (-a)) w) := by
  have h := neg_any (canon a) ha w
  rwa [negZ_val, valZ_canon] at h
theorem size_neg (a : Int) : (canon (-a)).mag.size = (canon a).mag.size := by
  unfold canon; simp
theorem quo_canon (a k : Int) (hk : 0 < k) : quoZ (canon a) (canon k) = canon (a / k) := by
  obtain ⟨K, hK⟩ : ∃ K : Nat, k = K := ⟨k.natAbs, by omega⟩
  subst hK
  have hKp : 0 < K := by omega
  unfold quoZ
  rw [absZ_canon, absZ_canon]
  have e1 : (canon (K : Int)).neg = false := by show decide ((K : Int) < 0) = false; rw [decide_eq_false_iff_not]; omega
  have eN : ((K : Int)).natAbs = K := by omega
  rw [e1, eN]
  by_cases ha : a < 0
  · have e2 : (canon a).neg = true := decide_eq_true ha
    rw [e2, if_neg (by decide)]
    obtain ⟨N, hN⟩ : ∃ N : Nat, a = -(N : Int) := ⟨a.natAbs, by omega⟩
    subst hN
    have eM : (-(N : Int)).natAbs = N := by omega
    rw [eM]
    have hdm := Nat.div_add_mod N K
    have hlt := Nat.mod_lt N hKp
    generalize N / K = q at *
    generalize N % K = r at *
    subst hdm
    by_cases hr : r = 0
    · rw [if_pos hr, mkZ_val]
      subst hr
      have h := (Int.ediv_emod_unique (a := -((K * q + 0 : Nat) : Int)) (b := (K : Int)) (r := 0) (q := -(q : Int)) (by omega)).2 ⟨by rw [Int.mul_neg]; push_cast; omega, by omega, by omega⟩
      rw [h.1]; rfl
    · rw [if_neg hr, mkZ_val]
      have h := (Int.ediv_emod_unique (a := -((K * q + r : Nat) : Int)) (b := (K : Int)) (r := (K : Int) - r) (q := -((q : Int) + 1)) (by omega)).2 ⟨by rw [Int.mul_neg, Int.mul_add]; push_cast; omega, by omega, by omega⟩
      rw [h.1]; rfl
  · have e2 : (canon a).neg = false := decide_eq_false ha
    rw [e2, if_pos rfl, mkZ_val]
    obtain ⟨N, hN⟩ : ∃ N : Nat, a = N := ⟨a.natAbs, by omega⟩
    subst hN
    rw [show ((N : Int)).natAbs = N from by omega, if_neg (by decide), Int.natCast_ediv]
theorem divc_any (a k : Int) (hk : 0 < k) (hk2 : k < 4294967296) (ha : (canon a).mag.size ≤ 100000000) (w : World) :
    Calls Tryd.prog 102 #[.agg #[.bool (canon a).neg, .string (canon a).mag], .agg #[.bool (canon k).neg, .string (canon k).mag]] w (RetDiv (canon (a / k)) (remZ (canon a) (canon k)) w) := by
  have h := div_short (canon a) (canon k) ha (Nat.le_trans (canon_size k (k := 4) (by omega)) (by decide)) (by rw [absZ_canon]; omega) (by rw [absZ_canon]; omega) w
  rwa [quo_canon a k hk] at h

end Go.Proofs.YteoemijgdcpopaaDoor
namespace Go.Proofs.YteoemijgdcpopaaDoor
open Go.RowKit Go.Shelf

theorem GM.head {m : GM} {w : World} {p : Option Addr} (h : m.At w p) (h0 : 0 < m.r) : ∃ b off q c, p = some ⟨b, off, none⟩ ∧ b < w.heap.size ∧ w.cell? ⟨b, off, none⟩ = some (.slice q (m.L 0) c) := by
  obtain ⟨H, h1, h2⟩ := h
  rcases h1 with h | ⟨b, off, rfl, hlt, hc⟩
  · omega
  · exact ⟨b, off, (H 0).1, (H 0).2, rfl, hlt, by simpa using hc 0 h0 0 (by omega)⟩
def GM.sq (m : GM) : Int := if m.chk ≠ 0 then 1 else if m.r ≠ m.L 0 then 11 else 0
theorem GM.chk_zero {m : GM} (h : m.chk = 0) : 0 < m.r ∧ 0 < m.L 0 ∧ m.r ≤ 32 ∧ m.L 0 ≤ 32 ∧ (∀ i, i < m.r → m.L i = m.L 0) ∧ ∀ i, i < m.r → ∀ k, k < m.L i → m.Z i k = canon (valZ (m.Z i k)) := by
  unfold GM.chk at h
  split at h
  · cases h
  split at h
  · cases h
  split at h
  · cases h
  split at h
  · cases h
  rename_i h1 h2 h3 h4
  rw [Bool.not_eq_true, anyN_false] at h3 h4
  refine ⟨by omega, by omega, by omega, by omega, fun i hi => by simpa using h3 i hi, fun i hi k hk => ?_⟩
  have h5 := h4 i hi
  rw [anyN_false] at h5
  have h6 := h5 k hk
  simpa [okZ] using h6
/-- The numbers of a matrix. -/
def GM.F (m : GM) (i k : Nat) : Int := valZ (m.Z i k)
theorem GM.mat {m : GM} {w : World} {p : Option Addr} (h : m.At w p) (hc : m.chk = 0) : MatF w p m.r (m.L 0) m.F := by
  obtain ⟨H, h1, h2⟩ := h
  obtain ⟨_, _, _, _, hL, hZ⟩ := GM.chk_zero hc
  refine ⟨H, h1.congr fun i hi _ _ => by rw [hL i hi], fun i hi => ?_⟩
  have h3 := h2 i hi
  have hz := hZ i hi
  rw [hL i hi] at h3 hz
  refine h3.congr fun k hk j _ => ?_
  show zg (m.Z i k) j = zc (valZ (m.Z i k)) j
  unfold zg zc
  rw [← hz k hk]
/-- A matrix of numbers, as a list of lists. -/
def gmF (r c : Nat) (F : Nat → Nat → Int) : GM := ⟨r, fun _ => c, fun i k => canon (F i k)⟩
theorem gmF_at {w : World} {p : Option Addr} {r c : Nat} {F : Nat → Nat → Int} (h : MatF w p r c F) : (gmF r c F).At w p := h
theorem gmF_chk (r c : Nat) (F : Nat → Nat → Int) (h1 : 0 < r) (h2 : r ≤ 32) (h3 : 0 < c) (h4 : c ≤ 32) : (gmF r c F).chk = 0 := by
  unfold GM.chk gmF
  dsimp only
  rw [if_neg (by omega), if_neg (by omega), if_neg (by rw [anyN_true]; rintro ⟨k, _, h⟩; simp at h), if_neg ?_]
  rw [anyN_true]
  rintro ⟨i, _, h⟩
  rw [anyN_true] at h
  obtain ⟨k, _, h⟩ := h
  simp [okZ, valZ_canon] at h
theorem gmF_F (r c : Nat) (F : Nat → Nat → Int) (i k : Nat) : (gmF r c F).F i k = F i k := valZ_canon _
theorem gmF_fit (r c : Nat) (F : Nat → Nat → Int) (hr : r ≤ 1000000) (hc : c ≤ 1000000) (h : Small r c F) : (gmF r c F).Fit := ⟨hr, fun i hi => ⟨hc, fun k hk => h i k hi hk⟩⟩

end Go.Proofs.YteoemijgdcpopaaDoor
