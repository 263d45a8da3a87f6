/- The walks of integer.length, Bits. The walk of matrix.Power. The numbers of matrix.characteristic are of moderate size. The powers of a matrix are of moderate size. The contracts of package matrix at square matrices of up to 32 rows. -/
import Derived.Test.YtlaoijfphkhchaaB3
import Derived.Test.YtlaoijfphkhchaaShelfA
import Derived.Test.YtlaoijfphkhchaaB24
import Derived.Test.YtlaoijfphkhchaaB13
import Derived.Test.YtlaoijfphkhchaaB12
namespace Go.Proofs.Ytlaoijfphkhchaa
open Go.RowKit

/-- The bits of a natural number. -/
def bitsN (v : Nat) : Nat := if (digs v).length = 0 then 0 else 32 * ((digs v).length - 1) + Lib.bitLen ((digs v).getD ((digs v).length - 1) 0)
end Go.Proofs.Ytlaoijfphkhchaa
namespace Go.Proofs.Ytlaoijfphkhchaa
open Go.RowKit Go.Shelf

theorem bitsN_fit {z : ZI} (h : z.mag.size ≤ 100000000) : bitsN (absZ z) ≤ 6400000000 := by
  have h1 := digs_len_fit h
  unfold bitsN
  split
  · omega
  · have : Lib.bitLen ((digs (absZ z)).getD ((digs (absZ z)).length - 1) 0) ≤ 32 := Lib.bitLen_le _ 32 (by decide) ((dg_digs (absZ z)).getD _)
    omega
/-- The greatest of some numbers. -/
def mxC (b : Nat) (f : Nat → Nat) : Nat → Nat
  | 0 => b
  | k + 1 => max (mxC b f k) (f k)
def mxM (G : Nat → Nat → Nat) (c : Nat) : Nat → Nat
  | 0 => 0
  | i + 1 => mxC (mxM G c i) (G i) c
theorem mxC_le {b B : Nat} {f : Nat → Nat} {k : Nat} (hb : b ≤ B) (hf : ∀ j, j < k → f j ≤ B) : mxC b f k ≤ B := by
  induction k with
  | zero => exact hb
  | succ k ih => exact Nat.max_le.2 ⟨ih fun j hj => hf j (by omega), hf k (by omega)⟩
theorem mxM_le {B : Nat} {G : Nat → Nat → Nat} {c r : Nat} (hf : ∀ i k, i < r → k < c → G i k ≤ B) : mxM G c r ≤ B := by
  induction r with
  | zero => exact Nat.zero_le _
  | succ r ih => exact mxC_le (ih fun i k hi hk => hf i k (by omega) hk) fun j hj => hf r j (by omega) hj
def bitM (F : Nat → Nat → Int) (i k : Nat) : Nat := bitsN (F i k).natAbs
def powE (a : GM) (n : Int) : Int := if a.sq ≠ 0 then a.sq else if n < 0 ∨ 4096 < n then 2 else if 65536 < ((mxM (bitM a.F) a.r a.r + bitsN a.r : Nat) : Int) * n then 4 else 0
/-- All powers up to the one asked for are of moderate size. -/
def PowOk (r : Nat) (F : Nat → Nat → Int) (N : Nat) : Prop := (∀ u, u ≤ N → Small r r (powF r F u)) ∧ ∀ u v, u + v ≤ N → SmallP r r r (powF r F u) (powF r F v)
end Go.Proofs.Ytlaoijfphkhchaa
namespace Go.Proofs.Ytlaoijfphkhchaa
/-- A number of at most e bits. -/
def Bn (x : Int) (e : Nat) : Prop := x.natAbs ≤ 2 ^ e
theorem Bn.size {x : Int} {e : Nat} (h : Bn x e) (k : Nat) (he : e < 8 * k) : (canon x).mag.size ≤ k := by
  refine canon_size x ?_
  rw [show (256 : Nat) = 2 ^ 8 from rfl, ← Nat.pow_mul]
  exact Nat.lt_of_le_of_lt h (Nat.pow_lt_pow_right (by decide) he)
theorem Bn.up {x : Int} {e f : Nat} (h : Bn x e) (he : e ≤ f) : Bn x f := Nat.le_trans h (Nat.pow_le_pow_right (by decide) he)
theorem Bn.mul {x y : Int} {e f : Nat} (h : Bn x e) (g : Bn y f) : Bn (x * y) (e + f) := by
  unfold Bn at *
  rw [Int.natAbs_mul, Nat.pow_add]
  exact Nat.mul_le_mul h g
theorem Bn.add {x y : Int} {e : Nat} (h : Bn x e) (g : Bn y e) : Bn (x + y) (e + 1) := by
  unfold Bn at *
  rw [Nat.pow_succ]
  omega
theorem Bn.neg {x : Int} {e : Nat} (h : Bn x e) : Bn (-x) e := by
  unfold Bn at *
  omega
theorem Bn.zero (e : Nat) : Bn 0 e := Nat.zero_le _
theorem Bn.one (e : Nat) : Bn 1 e := Nat.pos_of_ne_zero (by simp)
theorem Bn.div {x k : Int} {e : Nat} (h : Bn x e) (hk : 0 < k) : Bn (x / k) e := by
  unfold Bn at *
  refine Nat.le_trans ?_ h
  have h1 := Int.mul_ediv_add_emod x k
  have h2 := Int.emod_nonneg x (show k ≠ 0 by omega)
  have h3 := Int.emod_lt_of_pos x hk
  generalize x / k = q at *
  generalize x % k = r at *
  by_cases hq : 0 ≤ q
  · have : q ≤ k * q := by
      have := Int.mul_le_mul_of_nonneg_right (show 1 ≤ k by omega) hq
      omega
    omega
  · have : k * q ≤ k * (-1) := Int.mul_le_mul_of_nonneg_left (by omega) (by omega)
    have h5 : k * (q + 1) ≤ 1 * (q + 1) := Int.mul_le_mul_of_nonpos_right (by omega) (by omega)
    rw [Int.mul_add] at h5
    omega
theorem Bn.dot {f : Nat → Int} {e m : Nat} (n : Nat) (hn : n ≤ 2 ^ m) (h : ∀ j, j < n → Bn (f j) e) : Bn (dotN f n) (e + m) := by
  have : ∀ j, j ≤ n → (dotN f j).natAbs ≤ j * 2 ^ e := by
    intro j
    induction j with
    | zero => intro _; simp [dotN]
    | succ j ih =>
      intro hj
      have h1 := ih (by omega)
      have h2 := h j (by omega)
      unfold Bn at h2
      rw [dotN, Nat.add_mul, Nat.one_mul]
      omega
  unfold Bn
  rw [Nat.pow_add, Nat.mul_comm]
  exact Nat.le_trans (this n (Nat.le_refl _)) (Nat.mul_le_mul_right _ hn)
/-- A matrix of numbers of at most e bits. -/
def BnM (r c : Nat) (F : Nat → Nat → Int) (e : Nat) : Prop := ∀ i k, i < r → k < c → Bn (F i k) e
theorem BnM.up {r c : Nat} {F : Nat → Nat → Int} {e f : Nat} (h : BnM r c F e) (he : e ≤ f) : BnM r c F f := fun i k hi hk => (h i k hi hk).up he
theorem BnM.small {r c : Nat} {F : Nat → Nat → Int} {e : Nat} (h : BnM r c F e) (he : e < 8 * 100000000) : Small r c F := fun i k hi hk => (h i k hi hk).size _ he
theorem BnM.mul {r n c : Nat} {F G : Nat → Nat → Int} {e f m : Nat} (h : BnM r n F e) (g : BnM n c G f) (hn : n ≤ 2 ^ m) : BnM r c (mulF n F G) (e + f + m) := fun i k hi hk => Bn.dot n hn fun j hj => (h i j hi hj).mul (g j k hj hk)
theorem BnM.add {r c : Nat} {F G : Nat → Nat → Int} {e : Nat} (h : BnM r c F e) (g : BnM r c G e) : BnM r c (fun i k => F i k + G i k) (e + 1) := fun i k hi hk => (h i k hi hk).add (g i k hi hk)
theorem BnM.smallP {r n c : Nat} {F G : Nat → Nat → Int} {e f m : Nat} (h : BnM r n F e) (g : BnM n c G f) (hn : n ≤ 2 ^ m) (he : e + f + m < 8 * 100000000) : SmallP r n c F G := fun i k hi hk =>
  ⟨fun j hj => (Bn.dot j (Nat.le_trans hj hn) fun l hl => (h i l hi (by omega)).mul (g l k (by omega) hk)).size _ he, fun j hj => ((h i j hi hj).mul (g j k hj hk)).size _ (by omega)⟩
theorem chrC_bn {n : Nat} {A : Nat → Nat → Int} {e f m : Nat} (h : BnM n n A e) (hn : n ≤ 2 ^ m) (j : Nat) (g : BnM n n (chrM n A j) f) : Bn (chrC n A j) (e + f + m + m) :=
  ((Bn.dot n hn fun i hi => h.mul g hn i i hi hi).neg).div (by omega)
theorem chrM_bn {n : Nat} {A : Nat → Nat → Int} {e m : Nat} (h : BnM n n A e) (hn : n ≤ 2 ^ m) (j : Nat) : BnM n n (chrM n A j) (j * (e + m + m + 1)) := by
  induction j with
  | zero =>
    intro i k _ _
    show Bn (if i = k then 1 else 0) _
    split
    · exact Bn.one _
    · exact Bn.zero _
  | succ j ih =>
    intro i k hi hk
    show Bn (mulF n A (chrM n A j) i k + if i = k then chrC n A j else 0) _
    have h1 := chrC_bn h hn j ih
    have h2 := h.mul ih hn i k hi hk
    refine ((h2.up (f := e + j * (e + m + m + 1) + m + m) (by omega)).add (y := if i = k then chrC n A j else 0) ?_).up ?_
    · split
      · exact h1
      · exact Bn.zero _
    · rw [Nat.add_mul]; omega
theorem chrOk_of {n : Nat} {A : Nat → Nat → Int} {e m : Nat} (h : BnM n n A e) (hn : n ≤ 2 ^ m) (hs : n * (e + m + m + 1) < 8 * 100000000) : ChrOk n A := by
  have hj : ∀ j, j < n → e + j * (e + m + m + 1) + m + m < 8 * 100000000 := fun j hj => by
    have h1 : (j + 1) * (e + m + m + 1) ≤ n * (e + m + m + 1) := Nat.mul_le_mul_right _ hj
    rw [Nat.add_mul, Nat.one_mul] at h1
    omega
  refine ⟨fun i k hi hk => ?_, fun j hl => (chrM_bn h hn j).small ?_, fun j hl => h.smallP (chrM_bn h hn j) hn ?_, fun j hl => (h.mul (chrM_bn h hn j) hn).small ?_, fun j hl i hi => ?_, fun j hl => ?_⟩
  · have := hj 0 (by omega)
    exact (h i k hi hk).size _ (by omega)
  · have := hj j hl; omega
  · have := hj j hl; omega
  · have := hj j hl; omega
  · exact (Bn.dot i (Nat.le_trans hi hn) fun l hl2 => h.mul (chrM_bn h hn j) hn l l (by omega) (by omega)).size _ (hj j hl)
  · exact (chrC_bn h hn j (chrM_bn h hn j)).size _ (hj j hl)
end Go.Proofs.Ytlaoijfphkhchaa

namespace Go.Proofs.Ytlaoijfphkhchaa
theorem powF_bn {n : Nat} {A : Nat → Nat → Int} {e m : Nat} (h : BnM n n A e) (hn : n ≤ 2 ^ m) (u : Nat) : BnM n n (powF n A u) (u * (e + m)) := by
  induction u with
  | zero =>
    intro i k _ _
    show Bn (if i = k then 1 else 0) _
    split
    · exact Bn.one _
    · exact Bn.zero _
  | succ u ih =>
    intro i k hi hk
    exact (ih.mul h hn i k hi hk).up (by rw [Nat.add_mul]; omega)
theorem powOk_of {n : Nat} {A : Nat → Nat → Int} {e m N : Nat} (h : BnM n n A e) (hn : n ≤ 2 ^ m) (hs : N * (e + m) + m < 8 * 100000000) : PowOk n A N := by
  refine ⟨fun u hu => (powF_bn h hn u).small ?_, fun u v huv => (powF_bn h hn u).smallP (powF_bn h hn v) hn ?_⟩
  · have := Nat.mul_le_mul_right (e + m) hu
    omega
  · have := Nat.mul_le_mul_right (e + m) huv
    rw [Nat.add_mul] at this
    omega
end Go.Proofs.Ytlaoijfphkhchaa
namespace Go.Proofs.Ytlaoijfphkhchaa
open Go.RowKit Go.Shelf
theorem gmF_sq' {n : Nat} (F : Nat → Nat → Int) (h1 : 0 < n) (h4 : n ≤ 32) : (gmF n n F).sq = 0 := by
  unfold GM.sq
  rw [if_neg (by rw [gmF_chk n n F h1 h4 h1 h4]; decide), if_neg (by show ¬ n ≠ n; simp)]
theorem gmF_eq (r c : Nat) (F : Nat → Nat → Int) : (gmF r c F).F = F := by
  funext i k
  exact gmF_F r c F i k
theorem pow5 {n : Nat} (h : n ≤ 32) : n ≤ 2 ^ 5 := h
theorem matMul_any {N : Nat} (h1 : 0 < N) (h4 : N ≤ 32) (F G : Nat → Nat → Int) (p q : Option Addr) (c d : Nat) {e f : Nat} (hb : BnM N N F e) (hd : BnM N N G f) (he : e + f + 5 < 8 * 100000000) (W : World) (hM : MatF W p N N F) (hN : MatF W q N N G) :
    Calls Try.prog 83 #[.slice p N c, .slice q N d] W (RetMatE 0 N N (mulF N F G) W) := by
  have hz : mulE (gmF N N F) (gmF N N G) = 0 := by
    unfold mulE
    rw [gmF_chk N N F h1 h4 h1 h4, gmF_chk N N G h1 h4 h1 h4, if_neg (by decide), if_neg (by show ¬ N ≠ N; simp)]
  refine (mul_m (gmF N N F) (gmF N N G) p q c d (gmF_fit N N F (by omega) (by omega) (hb.small (by omega))) (gmF_fit N N G (by omega) (by omega) (hd.small (by omega))) (fun _ => ?_) W (gmF_at hM) (gmF_at hN)).mono ?_
  · rw [gmF_eq, gmF_eq]
    exact ⟨hb.small (by omega), hd.small (by omega), hb.smallP hd (pow5 h4) he⟩
  · rintro en w' hr
    rw [hz, gmF_eq, gmF_eq] at hr
    exact hr
theorem matChr_any {N : Nat} (h1 : 0 < N) (h4 : N ≤ 32) (F : Nat → Nat → Int) (p : Option Addr) (c : Nat) {e : Nat} (hb : BnM N N F e) (he : e ≤ 1000000) (W : World) (hM : MatF W p N N F) :
    Calls Try.prog 41 #[.slice p N c] W (RetRowE 0 (N + 1) (chrP N F N) W) := by
  refine (charac_any (gmF N N F) p c (gmF_fit N N F (by omega) (by omega) (hb.small (by omega))) (fun _ => ?_) W (gmF_at hM)).mono ?_
  · rw [gmF_eq]
    exact chrOk_of hb (pow5 h4) (by
      have : N * (e + 5 + 5 + 1) ≤ 32 * (e + 5 + 5 + 1) := Nat.mul_le_mul_right _ h4
      show N * (e + 5 + 5 + 1) < _
      omega)
  · rintro en w' hr
    rw [gmF_sq' F h1 h4, gmF_eq] at hr
    exact hr
theorem matAdj_any {N : Nat} (h1 : 0 < N) (h4 : N ≤ 32) (F : Nat → Nat → Int) (p : Option Addr) (c : Nat) {e : Nat} (hb : BnM N N F e) (he : e ≤ 1000000) (W : World) (hM : MatF W p N N F) :
    Calls Try.prog 68 #[.slice p N c] W (RetMatE 0 N N (adjC N F) W) := by
  refine (adj_any (gmF N N F) p c (gmF_fit N N F (by omega) (by omega) (hb.small (by omega))) (fun _ => ?_) W (gmF_at hM)).mono ?_
  · rw [gmF_eq]
    exact chrOk_of hb (pow5 h4) (by
      have : N * (e + 5 + 5 + 1) ≤ 32 * (e + 5 + 5 + 1) := Nat.mul_le_mul_right _ h4
      show N * (e + 5 + 5 + 1) < _
      omega)
  · rintro en w' hr
    rw [gmF_sq' F h1 h4, gmF_eq] at hr
    exact hr
theorem bitsN_small {v k : Nat} (h : v < 2 ^ k) (hk : k ≤ 32) : bitsN v ≤ k := by
  have h32 : v < 4294967296 := Nat.lt_of_lt_of_le h (Nat.pow_le_pow_right (n := 2) (by decide) hk)
  by_cases h0 : v = 0
  · subst h0
    exact Nat.zero_le _
  · have hd : digs v = [v] := by
      rw [digs_pos h0, Nat.mod_eq_of_lt h32, Nat.div_eq_of_lt h32, digs_zero]
    unfold bitsN
    rw [hd]
    simp only [List.length_singleton, Nat.sub_self, Nat.mul_zero, Nat.zero_add]
    rw [if_neg (by decide)]
    exact Lib.bitLen_le _ k (by omega) (by simpa using h)
end Go.Proofs.Ytlaoijfphkhchaa
