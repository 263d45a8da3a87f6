/- What the replacements of an encoder's words add up to, and why there are none: plain facts. -/
import Derived.Test.YtcafeffgaokiaaaJ7
import Derived.Test.YtcafeffgaokiaaaJ4
namespace Go.Proofs.Ytcafeffgaokiaaa
open Go.RowKit
theorem snoc_ind {α : Type} {P : List α → Prop} (h0 : P []) (h1 : ∀ l x, P l → P (l ++ [x])) (l : List α) : P l := by
  have h : ∀ r : List α, P r.reverse := by
    intro r
    induction r with
    | nil => exact h0
    | cons x r ih => rw [List.reverse_cons]; exact h1 _ _ ih
  have h2 := h l.reverse
  rwa [List.reverse_reverse] at h2
/-- The worst replacement so far. -/
structure Ws where
  w : ByteArray
  a : Int
  c : Int
  n : Int
def Rp.ws (x : Rp) : Ws := ⟨x.w, (x.a : Int), (x.c : Int), (x.n : Int)⟩
def Ws.step (s : Ws) (x : Rp) : Ws := if s.n < (x.n : Int) then x.ws else s
def wsF (l : List Rp) : Ws := l.foldl Ws.step ⟨ByteArray.empty, 0, 0, -1⟩
def mostF (l : List Rp) : Nat := l.foldl (fun s x => max s x.n) 0
def sumF (l : List Rp) : Nat := l.foldl (fun s x => s + x.n) 0
theorem wsF_snoc (l : List Rp) (x : Rp) : wsF (l ++ [x]) = (wsF l).step x := by simp [wsF, List.foldl_append]
theorem mostF_snoc (l : List Rp) (x : Rp) : mostF (l ++ [x]) = max (mostF l) x.n := by simp [mostF, List.foldl_append]
theorem sumF_snoc (l : List Rp) (x : Rp) : sumF (l ++ [x]) = sumF l + x.n := by simp [sumF, List.foldl_append]
theorem mostF_le {l : List Rp} : ∀ x ∈ l, x.n ≤ mostF l := by
  refine snoc_ind (P := fun l => ∀ x ∈ l, x.n ≤ mostF l) (by intro x h; cases h) ?_ l
  intro l y ih x hx
  rw [mostF_snoc]
  rcases List.mem_append.1 hx with h | h
  · have := ih x h; omega
  · rw [List.mem_singleton.1 h]; omega
theorem mostF_bound {l : List Rp} {B : Nat} (h : ∀ x ∈ l, x.n ≤ B) : mostF l ≤ B := by
  revert h
  refine snoc_ind (P := fun l => (∀ x ∈ l, x.n ≤ B) → mostF l ≤ B) (fun _ => Nat.zero_le _) ?_ l
  intro l y ih h
  rw [mostF_snoc]
  have h1 := ih (fun x hx => h x (List.mem_append_left _ hx))
  have h2 := h y (List.mem_append_right _ (List.mem_singleton_self _))
  omega
theorem sumF_bound {l : List Rp} {B : Nat} (h : ∀ x ∈ l, x.n ≤ B) : sumF l ≤ B * l.length := by
  revert h
  refine snoc_ind (P := fun l => (∀ x ∈ l, x.n ≤ B) → sumF l ≤ B * l.length) (fun _ => Nat.zero_le _) ?_ l
  intro l y ih h
  rw [sumF_snoc, List.length_append, Nat.mul_add]
  have h1 := ih (fun x hx => h x (List.mem_append_left _ hx))
  have h2 := h y (List.mem_append_right _ (List.mem_singleton_self _))
  simp only [List.length_cons, List.length_nil]
  omega
theorem wsF_cases (l : List Rp) : (l = [] ∧ wsF l = ⟨ByteArray.empty, 0, 0, -1⟩) ∨ (wsF l).n = (mostF l : Int) ∧ ∃ x ∈ l, wsF l = x.ws := by
  refine snoc_ind (P := fun l => (l = [] ∧ wsF l = ⟨ByteArray.empty, 0, 0, -1⟩) ∨ (wsF l).n = (mostF l : Int) ∧ ∃ x ∈ l, wsF l = x.ws) (.inl ⟨rfl, rfl⟩) ?_ l
  intro l x ih
  right
  rw [wsF_snoc, mostF_snoc]
  unfold Ws.step
  rcases ih with ⟨rfl, h⟩ | ⟨h1, y, hy, h2⟩
  · rw [h, if_pos (by show (-1 : Int) < _; omega)]
    refine ⟨?_, x, by simp, rfl⟩
    show (x.n : Int) = ((max 0 x.n : Nat) : Int)
    omega
  · by_cases hc : (wsF l).n < (x.n : Int)
    · rw [if_pos hc]
      refine ⟨?_, x, by simp, rfl⟩
      show (x.n : Int) = ((max (mostF l) x.n : Nat) : Int)
      omega
    · rw [if_neg hc]
      exact ⟨by omega, y, List.mem_append_left _ hy, h2⟩
/-- How many words there are: with the bound that is met on the way. -/
def cntV (i : Int) : Nat → Int → Int
  | 0, v => v
  | n + 1, v => if 4096 < wrap64 (v * i) then 4097 else cntV i n (wrap64 (v * i))
theorem cntV_nat (I : Nat) (hI : I ≤ 256) : ∀ (n v : Nat), v ≤ 4096 → (∃ u : Nat, cntV (I : Int) n (v : Int) = (u : Int) ∧ ((u = v * I ^ n ∧ u ≤ 4096) ∨ u = 4097))
  | 0, v, hv => ⟨v, rfl, .inl ⟨by simp, hv⟩⟩
  | n + 1, v, hv => by
    have h1 : v * I ≤ 4096 * 256 := Nat.mul_le_mul hv hI
    have h2 : wrap64 ((v : Int) * (I : Int)) = ((v * I : Nat) : Int) := by
      rw [← Int.natCast_mul]
      exact IntWalk.wrap64_in _ (by omega)
    rw [cntV, h2]
    by_cases h : (4096 : Int) < ((v * I : Nat) : Int)
    · rw [if_pos h]; exact ⟨4097, rfl, .inr rfl⟩
    · rw [if_neg h]
      obtain ⟨u, hu, hc⟩ := cntV_nat I hI n (v * I) (by omega)
      refine ⟨u, hu, hc.imp (fun ⟨a, b⟩ => ⟨?_, b⟩) id⟩
      rw [a, Nat.pow_succ]
      rw [Nat.mul_assoc, Nat.mul_comm I]
/-- Whether there are more words, or letters of them, than the statements examine. -/
def manyB (b i : Int) (r : Nat) (n : Int) : Bool :=
  decide (0 < n ∧ n ≤ 16 ∧ ((300 < cntV i n.toNat (r : Int) ∧ cntV i n.toNat (r : Int) ≤ 4096) ∨ 12 < wrap64 (b * n)))
/-- Why there are no written words of n blocks. -/
def fitErr (l b i : Int) (m : EM) (dl db di dp df : Int) (es : List Ent) (n : Int) : Int :=
  if encCheck l b i m ≠ 0 ∨ decCheck dl db di dp df es ≠ 0 then 1
  else if l ≠ dl ∨ b ≠ db ∨ i ≠ di then 11
  else if n < 1 ∨ 16 < n then 2
  else if 4096 < cntV i n.toNat (m.r : Int) then 4
  else 0
theorem inF_len (I : Nat) : ∀ n, (inF I n).length = I ^ n
  | 0 => by simp [inF]
  | n + 1 => by
    rw [inF, List.length_flatMap]
    simp only [List.length_map, inF_len I n]
    rw [List.map_const', List.sum_replicate_nat, List.length_range, Nat.pow_succ, Nat.mul_comm]
theorem wordsS_len {m : EM} {I B : Nat} (hm : m.Ok I B) (n : Nat) : ∀ j, j ≤ m.r → (wordsS m n j).length = j * I ^ n
  | 0, _ => by simp [wordsS]
  | j + 1, hj => by
    rw [wordsS_succ, List.length_append, wordsS_len hm n j (by omega), wordsL_enc hm n j _ (by omega), List.length_map, inF_len, Nat.add_mul, Nat.one_mul]
theorem wordsE_len {m : EM} {I B : Nat} (hm : m.Ok I B) (n : Nat) : (wordsE m n).length = m.r * I ^ n := wordsS_len hm n m.r (Nat.le_refl _)
theorem rpK_len (D : ByteArray → List Int) (w : ByteArray) (a k : Nat) : (rpK D w a k).length ≤ k := by
  unfold rpK
  rw [List.length_map]
  exact Nat.le_trans (List.length_filter_le _ _) (by rw [List.length_range]; exact Nat.le_refl _)
theorem rpA_len (D : ByteArray → List Int) (w : ByteArray) (L : Nat) : ∀ k, (rpA D w L k).length ≤ k * L
  | 0 => by simp [rpA]
  | k + 1 => by
    rw [rpA_succ, List.length_append, Nat.add_mul, Nat.one_mul]
    have := rpA_len D w L k
    have := rpK_len D w k L
    omega
theorem rpE_len (D : ByteArray → List Int) (L S : Nat) : ∀ ws : List ByteArray, (∀ w ∈ ws, w.size ≤ S) → (rpE D L ws).length ≤ ws.length * (S * L)
  | [], _ => by simp [rpE]
  | w :: ws, h => by
    have h1 := rpE_len D L S ws (fun x hx => h x (List.mem_cons_of_mem _ hx))
    have h2 := rpA_len D w L w.size
    have h3 : w.size * L ≤ S * L := Nat.mul_le_mul_right _ (h w (List.mem_cons_self ..))
    have e : rpE D L (w :: ws) = rpA D w L w.size ++ rpE D L ws := by unfold rpE; rw [List.flatMap_cons]
    rw [e, List.length_append, List.length_cons, Nat.add_mul, Nat.one_mul]
    omega
/-- Each replacement is one of a letter by another one. -/
theorem rpE_mem {D : ByteArray → List Int} {L : Nat} {ws : List ByteArray} {x : Rp} : x ∈ rpE D L ws ↔ ∃ w ∈ ws, ∃ a, a < w.size ∧ ∃ c, c < L ∧ (idxL 16 (w.data.toList.getD a 0) == (c : Int)) = false ∧ x = rpN D w a c := by
  unfold rpE rpA rpK
  simp only [List.mem_flatMap, List.mem_map, List.mem_filter, List.mem_range, Bool.not_eq_true']
  constructor
  · rintro ⟨w, hw, a, ha, c, ⟨hc, hd⟩, rfl⟩
    exact ⟨w, hw, a, ha, c, hc, hd, rfl⟩
  · rintro ⟨w, hw, a, ha, c, hc, hd, rfl⟩
    exact ⟨w, hw, a, ha, c, ⟨hc, hd⟩, rfl⟩
end Go.Proofs.Ytcafeffgaokiaaa
