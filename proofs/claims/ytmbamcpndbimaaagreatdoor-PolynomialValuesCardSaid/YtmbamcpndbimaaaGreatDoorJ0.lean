/- Plain facts about lists, bytes and loops that the walks use; no program here. -/
import Derived.WalkKit
import Derived.Lib.Hide
import Derived.Deep.QuietTactic
namespace Go.Proofs.YtmbamcpndbimaaaGreatDoor
open Go.RowKit
theorem lhd {p : Prop} (h : p) : Hid p := Lib.hid h
def SlAt (sz : Nat) (w : World) (p : Option Addr) (n : Nat) (C : Nat → Nat → Value) : Prop :=
 n = 0 ∨ ∃ b off, p = some ⟨b, off, none⟩ ∧ b < w.heap.size ∧ ∀ i, i < n → ∀ j, j < sz → w.cell? ⟨b, off + i * sz + j, none⟩ = some (C i j)
theorem SlAt.mono {sz : Nat} {w w' : World} {p : Option Addr} {n : Nat} {C : Nat → Nat → Value} (h : SlAt sz w p n C) {B : Nat} (hB : w.heap.size ≤ B) (hb : Below B w w') : SlAt sz w' p n C := by
 rcases h with h | ⟨b, off, rfl, hlt, hc⟩
 ·exact .inl h
 ·exact .inr ⟨b, off, rfl, Nat.lt_of_lt_of_le hlt hb.size, fun i hi j hj => by rw [hb.cell (p := ⟨b, _, none⟩) (by simp; omega)]; exact hc i hi j hj⟩
theorem SlAt.congr {sz : Nat} {w : World} {p : Option Addr} {n : Nat} {C D : Nat → Nat → Value} (h : SlAt sz w p n C) (he : ∀ i, i < n → ∀ j, j < sz → C i j = D i j) : SlAt sz w p n D := by
 rcases h with h | ⟨b, off, rfl, hlt, hc⟩
 ·exact .inl h
 ·exact .inr ⟨b, off, rfl, hlt, fun i hi j hj => by rw [hc i hi j hj, he i hi j hj]⟩
theorem box_cell {w wr : World} {vs : Array Value} {t : TypeId} {B : Nat} (hb : Below B (w.alloc (.cells vs t (0, 0))) wr) (hB : w.heap.size < B) (j : Nat) (v : Value) (h : vs[j]? = some v) : wr.cell? ⟨w.heap.size, j, none⟩ = some v := by
 rw [hb.cell (p := ⟨w.heap.size, j, none⟩) (by simpa using hB)]
 simpa [World.cell?_alloc_new] using h
theorem box6 {w wr : World} {v0 v1 v2 v3 v4 v5 : Value} {t : TypeId} (hb : Below (w.heap.size + 1) (w.alloc (.cells #[v0, v1, v2, v3, v4, v5] t (0, 0))) wr) :
  (wr.cell? ⟨w.heap.size, 0, none⟩ = some v0 ∧ wr.cell? ⟨w.heap.size, 1, none⟩ = some v1 ∧ wr.cell? ⟨w.heap.size, 2, none⟩ = some v2 ∧ wr.cell? ⟨w.heap.size, 3, none⟩ = some v3 ∧ wr.cell? ⟨w.heap.size, 4, none⟩ = some v4 ∧ wr.cell? ⟨w.heap.size, 5, none⟩ = some v5) ∧
   w.heap.size < wr.heap.size ∧ Below w.heap.size w wr :=
 ⟨⟨box_cell hb (by omega) 0 _ rfl, box_cell hb (by omega) 1 _ rfl, box_cell hb (by omega) 2 _ rfl, box_cell hb (by omega) 3 _ rfl, box_cell hb (by omega) 4 _ rfl, box_cell hb (by omega) 5 _ rfl⟩,
  by have := hb.size; simp at this; omega, ((Below.refl _ _).alloc (Nat.le_refl _) _).trans (hb.mono (by omega))⟩
theorem box4 {w wr : World} {v0 v1 v2 v3 : Value} {t : TypeId} (hb : Below (w.heap.size + 1) (w.alloc (.cells #[v0, v1, v2, v3] t (0, 0))) wr) :
  (wr.cell? ⟨w.heap.size, 0, none⟩ = some v0 ∧ wr.cell? ⟨w.heap.size, 1, none⟩ = some v1 ∧ wr.cell? ⟨w.heap.size, 2, none⟩ = some v2 ∧ wr.cell? ⟨w.heap.size, 3, none⟩ = some v3) ∧
   w.heap.size < wr.heap.size ∧ Below w.heap.size w wr :=
 ⟨⟨box_cell hb (by omega) 0 _ rfl, box_cell hb (by omega) 1 _ rfl, box_cell hb (by omega) 2 _ rfl, box_cell hb (by omega) 3 _ rfl⟩,
  by have := hb.size; simp at this; omega, ((Below.refl _ _).alloc (Nat.le_refl _) _).trans (hb.mono (by omega))⟩
theorem box2 {w wr : World} {v0 v1 : Value} {t : TypeId} (hb : Below (w.heap.size + 1) (w.alloc (.cells #[v0, v1] t (0, 0))) wr) :
  (wr.cell? ⟨w.heap.size, 0, none⟩ = some v0 ∧ wr.cell? ⟨w.heap.size, 1, none⟩ = some v1) ∧
   w.heap.size < wr.heap.size ∧ Below w.heap.size w wr :=
 ⟨⟨box_cell hb (by omega) 0 _ rfl, box_cell hb (by omega) 1 _ rfl⟩,
  by have := hb.size; simp at this; omega, ((Below.refl _ _).alloc (Nat.le_refl _) _).trans (hb.mono (by omega))⟩
theorem ret_int {k : IntKind} {a b : Int} (h : a = b) : Ending.returned (.int k a) = .returned (.int k b) := by rw [h]
def Drawn (w w' : World) : Prop := ∃ n, w' = w.drewN n
theorem Drawn.refl (w : World) : Drawn w w := ⟨0, rfl⟩
theorem Drawn.trans {a b c : World} (h : Drawn a b) (k : Drawn b c) : Drawn a c := by
 obtain ⟨n, rfl⟩ := h; obtain ⟨m, rfl⟩ := k; exact ⟨n + m, by rw [World.drewN_drewN]⟩
theorem Drawn.drewN {a b : World} (h : Drawn a b) (n : Nat) : Drawn a (b.drewN n) := h.trans ⟨n, rfl⟩
theorem Drawn.heap {a b : World} (h : Drawn a b) : b.heap = a.heap := by obtain ⟨n, rfl⟩ := h; rfl
theorem Drawn.cell {a b : World} (h : Drawn a b) (p : Addr) : b.cell? p = a.cell? p := by obtain ⟨n, rfl⟩ := h; rfl
theorem Drawn.below {a b : World} (h : Drawn a b) (B : Nat) : Below B a b := by obtain ⟨n, rfl⟩ := h; exact ⟨rfl, rfl, rfl, Nat.le_refl _, fun _ _ => rfl⟩
theorem below_dr {B : Nat} {a w : World} {n : Nat} (h : Below B a w) : Below B a (w.drewN n) := h.trans (Drawn.below ⟨n, rfl⟩ _)
theorem quiet_l {P : Program} {f : FuncId} {args : Array Value} {w : World} {n : Nat} {v : Value}
  (h : Calls P f args (w.drewN n) fun e w' => e = .returned v ∧ w.drewN n = w') : Calls P f args (w.drewN n) fun e w'' => e = .returned v ∧ ∃ m, w'' = w.drewN m :=
 h.mono fun _ _ ⟨he, hm⟩ => ⟨he, n, hm.symm⟩
theorem ownsRow_below {w w' : World} {base B : Nat} {e : TypeId} {size : Nat} {v : Value} {n : Nat} {xs : List Value} (h : w.ownsRow base e size v n xs) (hB : w.heap.size ≤ B) (hb : Below B w w') : w'.ownsRow base e size v n xs := by
 refine ⟨h.1, ?_⟩
 rcases h.2 with h2 | ⟨g, cap, cur, hv, hg, hh, r⟩
 ·exact .inl h2
 ·have hlt : g < w.heap.size := (Array.getElem?_eq_some_iff.1 hh).1
  exact .inr ⟨g, cap, cur, hv, hg, by rw [hb.block g (by omega)]; exact hh, r⟩
theorem below_append {a w w' : World} {B base : Nat} {e : TypeId} {size : Nat} {v : Value} {n : Nat} {xs : List Value} (h : Below B a w) (hown : w.ownsRow base e size v n xs) (hg : w.grownBy w' v.ownBlock) (hB : B ≤ w.heap.size) (hb : B ≤ base) : Below B a w' :=
 h.grown hg hB fun k hk => Nat.le_trans hb (hown.lt k hk).1
theorem slAt_of_owns {w : World} {base : Nat} {e : TypeId} {size : Nat} {v : Value} {n : Nat} {xs : List Value} (h : w.ownsRow base e size v n xs) (C : Nat → Nat → Value) (hC : ∀ i, i < n → ∀ j, j < size → xs[i * size + j]? = some (C i j)) :
  ∃ p cap, v = .slice p n cap ∧ n ≤ cap ∧ SlAt size w p n C ∧ (∀ b, p = some b → base ≤ b.block) := by
 rcases h.2 with ⟨rfl, rfl⟩ | ⟨g, cap, cur, rfl, hg, hh, hnc, r⟩
 ·exact ⟨none, 0, rfl, Nat.le_refl _, .inl rfl, fun b hb => by cases hb⟩
 ·refine ⟨some ⟨g, 0, none⟩, cap, rfl, hnc, .inr ⟨g, 0, rfl, (Array.getElem?_eq_some_iff.1 hh).1, fun i hi j hj => ?_⟩, fun b hb => by cases hb; exact hg⟩
  have := h.cells (g := g) rfl (i * size + j) (C i j) (hC i hi j hj)
  rw [← this, Addr.add_lit]; simp
theorem cell_new0 (w : World) (v : Value) (t : TypeId) : (w.alloc (.cells #[v] t (0, 0))).cell? ⟨w.heap.size, 0, none⟩ = some v := by simp
open Go.RowKit
def val : List Nat → Nat
 | [] => 0
 | d :: r => d + 4294967296 * val r
def Dg (xs : List Nat) : Prop := ∀ x ∈ xs, x < 4294967296
def digsF : Nat → Nat → List Nat
 | 0, _ => []
 | f + 1, n => if n = 0 then [] else n % 4294967296 :: digsF f (n / 4294967296)
def digs (n : Nat) : List Nat := digsF n n
theorem digsF_fuel : ∀ f g n, n ≤ f → n ≤ g → digsF f n = digsF g n
 | 0, g, n, h, _ => by
  obtain rfl : n = 0 := by omega
  cases g <;> simp [digsF]
 | f + 1, 0, n, _, h => by
  obtain rfl : n = 0 := by omega
  simp [digsF]
 | f + 1, g + 1, n, h1, h2 => by
  simp only [digsF]
  split
  ·rfl
  ·rw [digsF_fuel f g (n / 4294967296) (by omega) (by omega)]
theorem digs_zero : digs 0 = [] := rfl
theorem digs_pos {n : Nat} (h : n ≠ 0) : digs n = n % 4294967296 :: digs (n / 4294967296) := by
 obtain ⟨m, rfl⟩ : ∃ m, n = m + 1 := ⟨n - 1, by omega⟩
 unfold digs
 simp only [digsF, if_neg h]
 rw [digsF_fuel m ((m + 1) / 4294967296) _ (by omega) (Nat.le_refl _)]
theorem digs_cons {d m : Nat} (hd : d < 4294967296) (h : d ≠ 0 ∨ m ≠ 0) : digs (d + 4294967296 * m) = d :: digs m := by
 rw [digs_pos (by omega), show (d + 4294967296 * m) % 4294967296 = d from by omega, show (d + 4294967296 * m) / 4294967296 = m from by omega]
theorem val_digs (n : Nat) : val (digs n) = n := by
 induction n using Nat.strongRecOn with
 | ind n ih =>
  by_cases h : n = 0
  ·subst h; rfl
  ·rw [digs_pos h, val, ih _ (by omega)]; omega
theorem dg_digs (n : Nat) : Dg (digs n) := by
 induction n using Nat.strongRecOn with
 | ind n ih =>
  by_cases h : n = 0
  ·subst h; intro x hx; cases hx
  ·rw [digs_pos h]
   intro x hx
   rcases List.mem_cons.1 hx with rfl | hx
   ·omega
   ·exact ih _ (by omega) x hx
theorem Dg.cons {d : Nat} {r : List Nat} (h : Dg (d :: r)) : d < 4294967296 ∧ Dg r := ⟨h d (List.mem_cons_self ..), fun x hx => h x (List.mem_cons_of_mem _ hx)⟩
theorem Dg.getD {xs : List Nat} (h : Dg xs) (k : Nat) : xs.getD k 0 < 4294967296 := by
 by_cases hk : k < xs.length
 ·rw [List.getD_eq_getElem?_getD, List.getElem?_eq_getElem hk]; exact h _ (List.getElem_mem hk)
 ·rw [List.getD_eq_getElem?_getD, List.getElem?_eq_none (by omega)]; decide
def tl (xs : List Nat) : Nat → Nat
 | 0 => 0
 | k + 1 => if xs.getD k 0 = 0 then tl xs k else k + 1
theorem tl_le (xs : List Nat) : ∀ k, tl xs k ≤ k
 | 0 => Nat.le_refl _
 | k + 1 => by
  simp only [tl]
  split
  ·have := tl_le xs k; omega
  ·exact Nat.le_refl _
theorem tl_cons (d : Nat) (r : List Nat) : ∀ k, tl (d :: r) (k + 1) = if tl r k = 0 then (if d = 0 then 0 else 1) else tl r k + 1
 | 0 => by simp [tl]
 | k + 1 => by
  rw [tl]
  have h : (d :: r).getD (k + 1) 0 = r.getD k 0 := by simp [List.getD_eq_getElem?_getD]
  rw [h]
  by_cases h0 : r.getD k 0 = 0
  ·rw [if_pos h0, tl_cons d r k, show tl r (k + 1) = tl r k from by rw [tl, if_pos h0]]
  ·rw [if_neg h0, show tl r (k + 1) = k + 1 from by rw [tl, if_neg h0], if_neg (by omega)]
theorem trim_digs : ∀ (xs : List Nat), Dg xs → xs.take (tl xs xs.length) = digs (val xs)
 | [], _ => rfl
 | d :: r, h => by
  have hc := h.cons
  have ih := trim_digs r hc.2
  rw [List.length_cons, tl_cons]
  by_cases h0 : tl r r.length = 0
  ·rw [if_pos h0]
   rw [h0, List.take_zero] at ih
   have hv : val r = 0 := by have := val_digs (val r); rw [← ih] at this; exact this.symm
   by_cases hd : d = 0
   ·rw [if_pos hd]; subst hd
    simp [val, hv, digs_zero]
   ·rw [if_neg hd]
    simp only [val, hv]
    rw [digs_cons hc.1 (.inl hd)]; simp [digs_zero]
  ·rw [if_neg h0, List.take_succ_cons, ih]
   have hv : val r ≠ 0 := by
    intro hv
    rw [hv, digs_zero] at ih
    have h1 := congrArg List.length ih
    rw [List.length_take] at h1
    have h2 := tl_le r r.length
    rw [Nat.min_eq_left h2] at h1
    exact h0 h1
   simp only [val]
   rw [digs_cons hc.1 (.inr hv)]
theorem val_split : ∀ (xs : List Nat) (i : Nat), val xs = val (xs.take i) + 4294967296 ^ i * val (xs.drop i)
 | [], i => by simp [val]
 | d :: r, 0 => by simp [val]
 | d :: r, i + 1 => by
  simp only [List.take_succ_cons, List.drop_succ_cons, val]
  rw [val_split r i, Nat.pow_succ, Nat.mul_add, ← Nat.mul_assoc, Nat.mul_comm (4294967296 ^ i) 4294967296]
  omega
theorem val_lt : ∀ {xs : List Nat}, Dg xs → val xs < 4294967296 ^ xs.length
 | [], _ => by simp [val]
 | d :: r, h => by
  have hc := h.cons
  have := val_lt hc.2
  simp only [val, List.length_cons, Nat.pow_succ]
  omega
theorem Dg.take {xs : List Nat} (h : Dg xs) (k : Nat) : Dg (xs.take k) := fun x hx => h x (List.mem_of_mem_take hx)
theorem Dg.drop {xs : List Nat} (h : Dg xs) (k : Nat) : Dg (xs.drop k) := fun x hx => h x (List.mem_of_mem_drop hx)
theorem val_take_lt {xs : List Nat} (h : Dg xs) (k : Nat) : val (xs.take k) < 4294967296 ^ k := by
 refine Nat.lt_of_lt_of_le (val_lt (h.take k)) (Nat.pow_le_pow_right (by decide) ?_)
 rw [List.length_take]; omega
theorem val_take_succ {xs : List Nat} {k : Nat} (hk : k < xs.length) : val (xs.take (k + 1)) = val (xs.take k) + 4294967296 ^ k * xs.getD k 0 := by
 have h := val_split (xs.take (k + 1)) k
 rw [List.take_take, Nat.min_eq_left (by omega), List.drop_take, show k + 1 - k = 1 from by omega, List.drop_eq_getElem_cons hk] at h
 rw [h, List.getD_eq_getElem?_getD, List.getElem?_eq_getElem hk]
 show _ + _ * val [xs[k]] = _
 simp [val]
theorem val_drop {xs : List Nat} {k : Nat} (hk : k < xs.length) : val (xs.drop k) = xs.getD k 0 + 4294967296 * val (xs.drop (k + 1)) := by
 rw [List.drop_eq_getElem_cons hk, val, List.getD_eq_getElem?_getD, List.getElem?_eq_getElem hk]; rfl
theorem digs_len_pos {n : Nat} : (digs n).length = 0 ↔ n = 0 := by
 constructor
 ·intro h
  have := val_digs n
  rw [List.length_eq_zero_iff.1 h] at this
  exact this.symm
 ·rintro rfl; rfl
theorem digs_last {n : Nat} (h : n ≠ 0) : (digs n).getD ((digs n).length - 1) 0 ≠ 0 := by
 induction n using Nat.strongRecOn with
 | ind n ih =>
  rw [digs_pos h]
  by_cases h0 : n / 4294967296 = 0
  ·rw [h0, digs_zero]
   simp [List.getD_eq_getElem?_getD]; omega
  ·have := ih _ (by omega) h0
   have hl : (digs (n / 4294967296)).length ≠ 0 := fun e => h0 (digs_len_pos.1 e)
   rw [List.length_cons]
   obtain ⟨k, hk⟩ : ∃ k, (digs (n / 4294967296)).length = k + 1 := ⟨_, (Nat.succ_pred hl).symm⟩
   rw [hk] at this ⊢
   simpa [List.getD_eq_getElem?_getD] using this
theorem digs_lt {m n : Nat} (h : (digs m).length < (digs n).length) : m < n := by
 have h1 := val_lt (dg_digs m)
 rw [val_digs] at h1
 have hn : n ≠ 0 := by rintro rfl; simp [digs_zero] at h
 have h2 := digs_last hn
 obtain ⟨k, hk⟩ : ∃ k, (digs n).length = k + 1 := ⟨(digs n).length - 1, by omega⟩
 rw [hk] at h2
 have h3 := val_split (digs n) k
 rw [val_digs, val_drop (by omega)] at h3
 rw [show k + 1 - 1 = k from by omega] at h2
 have h4 : 4294967296 ^ (digs m).length ≤ 4294967296 ^ k := Nat.pow_le_pow_right (by decide) (by omega)
 have h5 : 4294967296 ^ k * 1 ≤ 4294967296 ^ k * ((digs n).getD k 0 + 4294967296 * val ((digs n).drop (k + 1))) := Nat.mul_le_mul_left _ (by omega)
 omega
theorem val_cmp {xs ys : List Nat} {k : Nat} (hx : Dg xs) (hkx : k < xs.length) (hky : k < ys.length) (hd : xs.drop (k + 1) = ys.drop (k + 1)) (hlt : xs.getD k 0 < ys.getD k 0) : val xs < val ys := by
 have h1 := val_split xs k
 have h2 := val_split ys k
 rw [val_drop hkx] at h1
 rw [val_drop hky, ← hd] at h2
 have h3 := val_take_lt hx k
 rw [Nat.mul_add] at h1 h2
 have h4 : 4294967296 ^ k * xs.getD k 0 + 4294967296 ^ k ≤ 4294967296 ^ k * ys.getD k 0 := by
  have : 4294967296 ^ k * (xs.getD k 0 + 1) ≤ 4294967296 ^ k * ys.getD k 0 := Nat.mul_le_mul_left _ (by omega)
  rw [Nat.mul_add] at this; omega
 omega
def bebF : Nat → Nat → List UInt8
 | 0, _ => []
 | f + 1, n => if n = 0 then [] else bebF f (n / 256) ++ [UInt8.ofNat (n % 256)]
def beb (n : Nat) : List UInt8 := bebF n n
theorem bebF_fuel : ∀ f g n, n ≤ f → n ≤ g → bebF f n = bebF g n
 | 0, g, n, h, _ => by
  obtain rfl : n = 0 := by omega
  cases g <;> simp [bebF]
 | f + 1, 0, n, _, h => by
  obtain rfl : n = 0 := by omega
  simp [bebF]
 | f + 1, g + 1, n, h1, h2 => by
  simp only [bebF]
  split
  ·rfl
  ·rw [bebF_fuel f g (n / 256) (by omega) (by omega)]
theorem beb_zero : beb 0 = [] := rfl
theorem beb_pos {n : Nat} (h : n ≠ 0) : beb n = beb (n / 256) ++ [UInt8.ofNat (n % 256)] := by
 obtain ⟨m, rfl⟩ : ∃ m, n = m + 1 := ⟨n - 1, by omega⟩
 unfold beb
 simp only [bebF, if_neg h]
 rw [bebF_fuel m ((m + 1) / 256) _ (by omega) (Nat.le_refl _)]
theorem beb_snoc {m c : Nat} (hc : c < 256) (h : m ≠ 0 ∨ c ≠ 0) : beb (m * 256 + c) = beb m ++ [UInt8.ofNat c] := by
 rw [beb_pos (by omega), show (m * 256 + c) / 256 = m from by omega, show (m * 256 + c) % 256 = c from by omega]
theorem beb_len_zero {n : Nat} : (beb n).length = 0 ↔ n = 0 := by
 constructor
 ·intro h
  by_cases h0 : n = 0
  ·exact h0
  ·rw [beb_pos h0] at h; simp at h
 ·rintro rfl; rfl
theorem beb_len : ∀ (k : Nat) {n : Nat}, n < 256 ^ k → (beb n).length ≤ k
 | 0, n, h => by
  have : n = 0 := by simpa using h
  subst this; simp [beb_zero]
 | k + 1, n, h => by
  by_cases h0 : n = 0
  ·subst h0; simp [beb_zero]
  ·rw [beb_pos h0, List.length_append]
   have := beb_len k (n := n / 256) (by rw [Nat.pow_succ] at h; omega)
   simpa using this
def bval (l : List UInt8) : Nat := l.foldl (fun a c => a * 256 + c.toNat) 0
theorem bval_snoc (l : List UInt8) (c : UInt8) : bval (l ++ [c]) = bval l * 256 + c.toNat := by simp [bval]
theorem bval_beb (n : Nat) : bval (beb n) = n := by
 induction n using Nat.strongRecOn with
 | ind n ih =>
  by_cases h : n = 0
  ·subst h; rfl
  ·rw [beb_pos h, bval_snoc, ih _ (by omega)]
   simp; omega
theorem bval_from : ∀ (l : List UInt8) (a : Nat), l.foldl (fun a c => a * 256 + c.toNat) a < (a + 1) * 256 ^ l.length
 | [], a => by simp
 | c :: l, a => by
  have h := bval_from l (a * 256 + c.toNat)
  have hc := c.toNat_lt
  rw [List.foldl_cons, List.length_cons, Nat.pow_succ]
  have h2 : (a * 256 + c.toNat + 1) * 256 ^ l.length ≤ ((a + 1) * 256) * 256 ^ l.length := Nat.mul_le_mul_right _ (by omega)
  rw [Nat.mul_assoc, Nat.mul_comm 256] at h2
  exact Nat.lt_of_lt_of_le h h2
theorem bval_lt (l : List UInt8) : bval l < 256 ^ l.length := by
 have := bval_from l 0
 simpa [bval] using this
structure ZI where
 neg : Bool
 mag : ByteArray
instance : Inhabited ZI := ⟨⟨false, ⟨#[]⟩⟩⟩
def absZ (z : ZI) : Nat := bval z.mag.data.toList
def valZ (z : ZI) : Int := if z.neg then -(absZ z : Int) else absZ z
def canon (n : Int) : ZI := ⟨decide (n < 0), ⟨(beb n.natAbs).toArray⟩⟩
theorem absZ_canon (n : Int) : absZ (canon n) = n.natAbs := by simp [absZ, canon, bval_beb]
theorem valZ_canon (n : Int) : valZ (canon n) = n := by
 unfold valZ
 rw [absZ_canon]
 by_cases h : n < 0
 ·simp [canon, h]; omega
 ·simp [canon, h]; omega
end Go.Proofs.YtmbamcpndbimaaaGreatDoor
