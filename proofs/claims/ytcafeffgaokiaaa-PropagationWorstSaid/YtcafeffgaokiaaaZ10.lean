/- The replacements of the words of an encoder, as lists; what a round of a range in a range keeps. What the replacements of an encoder's words add up to, and why there are none: plain facts. grooveref28.inputs: all lists of inputs. Slices of strings: those that a call makes, and those that it reads. -/
import Derived.Test.YtcafeffgaokiaaaZ9
import Derived.Test.YtcafeffgaokiaaaZ5
import Derived.Test.YtcafeffgaokiaaaZ6
import Derived.Test.YtcafeffgaokiaaaZ7
import Derived.Test.YtcafeffgaokiaaaRows
import Derived.Test.YtcafeffgaokiaaaZ0
import Derived.OwnWalk
import Derived.OwnWalkIn
import Derived.KernelRfl
import Derived.Lib.Hide
namespace Go.Proofs.Ytcafeffgaokiaaa
open Go.RowKit
/-- A replacement: the word, the place, the letter, how many outputs change. -/
structure Rp where
  w : ByteArray
  a : Nat
  c : Nat
  n : Nat
def encR (x : Rp) : Array Value := #[.agg #[.string x.w, .int .i64 (x.a : Int), .int .i64 (x.c : Int), .int .i64 (x.n : Int)]]
def rpN (D : ByteArray → List Int) (w : ByteArray) (a c : Nat) : Rp := ⟨w, a, c, (diffs (D w) (D (replS w a c))).length⟩
/-- Those of one place, of the first k letters. -/
def rpK (D : ByteArray → List Int) (w : ByteArray) (a k : Nat) : List Rp := ((List.range k).filter fun (c : Nat) => !(idxL 16 (w.data.toList.getD a 0) == (c : Int))).map (rpN D w a)
theorem rpK_hit {D : ByteArray → List Int} {w : ByteArray} {a k : Nat} (h : (idxL 16 (w.data.toList.getD a 0) == (k : Int)) = true) : rpK D w a (k + 1) = rpK D w a k := by
  unfold rpK
  rw [List.range_succ, List.filter_append]
  simp only [List.filter_cons, List.filter_nil, h, Bool.not_true, Bool.false_eq_true, if_false, List.append_nil]
theorem rpK_miss {D : ByteArray → List Int} {w : ByteArray} {a k : Nat} (h : (idxL 16 (w.data.toList.getD a 0) == (k : Int)) = false) : rpK D w a (k + 1) = rpK D w a k ++ [rpN D w a k] := by
  unfold rpK
  rw [List.range_succ, List.filter_append]
  simp only [List.filter_cons, List.filter_nil, h, Bool.not_false, if_true, List.map_append, List.map_cons, List.map_nil]
theorem rpK_split (D : ByteArray → List Int) (w : ByteArray) (a : Nat) {k L : Nat} (h : k ≤ L) : ∃ r, rpK D w a L = rpK D w a k ++ r := by
  obtain ⟨d, rfl⟩ := Nat.exists_eq_add_of_le h
  unfold rpK
  rw [List.range_add, List.filter_append, List.map_append]
  exact ⟨_, rfl⟩
/-- Those of the first k places. -/
def rpA (D : ByteArray → List Int) (w : ByteArray) (L k : Nat) : List Rp := (List.range k).flatMap fun a => rpK D w a L
theorem rpA_succ (D : ByteArray → List Int) (w : ByteArray) (L k : Nat) : rpA D w L (k + 1) = rpA D w L k ++ rpK D w k L := by
  unfold rpA
  rw [List.range_succ, List.flatMap_append]
  simp
theorem rpA_split (D : ByteArray → List Int) (w : ByteArray) (L : Nat) {k m : Nat} (h : k ≤ m) : ∃ r, rpA D w L m = rpA D w L k ++ r := by
  obtain ⟨d, rfl⟩ := Nat.exists_eq_add_of_le h
  unfold rpA
  rw [List.range_add, List.flatMap_append]
  exact ⟨_, rfl⟩
/-- Those of all words. -/
def rpE (D : ByteArray → List Int) (L : Nat) (ws : List ByteArray) : List Rp := ws.flatMap fun w => rpA D w L w.size
theorem rpE_snoc (D : ByteArray → List Int) (L : Nat) (ws : List ByteArray) (w : ByteArray) : rpE D L (ws ++ [w]) = rpE D L ws ++ rpA D w L w.size := by
  unfold rpE
  rw [List.flatMap_append]
  simp
theorem rp_pre {D : ByteArray → List Int} {L : Nat} {pre post ws : List ByteArray} {w : ByteArray} (h : pre ++ w :: post = ws) {a c : Nat} (ha : a < w.size) (hc : c < L) (hm : (idxL 16 (w.data.toList.getD a 0) == (c : Int)) = false) :
    ∃ q, (rpE D L pre ++ rpA D w L a ++ rpK D w a c) ++ rpN D w a c :: q = rpE D L ws := by
  obtain ⟨r1, h1⟩ := rpA_split D w L (show a + 1 ≤ w.size from ha)
  obtain ⟨r2, h2⟩ := rpK_split D w a (show c + 1 ≤ L from hc)
  refine ⟨r2 ++ r1 ++ rpE D L post, ?_⟩
  rw [← h]
  have e : rpE D L (pre ++ w :: post) = rpE D L pre ++ (rpA D w L w.size ++ rpE D L post) := by
    unfold rpE
    rw [List.flatMap_append, List.flatMap_cons]
  rw [e, h1, rpA_succ, h2, rpK_miss hm]
  simp only [List.append_assoc, List.cons_append, List.nil_append]
/-- What a round keeps: the cells but the caller's, and what is no cells from B on. -/
def KpO (B lo hi : Nat) (W W' : World) : Prop := KpH lo hi W W' ∧ KeepsFrom B W W'
theorem KpO.refl (B lo hi : Nat) (W : World) : KpO B lo hi W W := ⟨KpH.refl _ _ _, KeepsFrom.refl _ _⟩
theorem KpO.trans {B lo hi : Nat} {X Y Z : World} (h : KpO B lo hi X Y) (k : KpO B lo hi Y Z) : KpO B lo hi X Z := ⟨h.1.trans k.1, h.2.trans k.2⟩
theorem keepsB {B : Nat} {X Z : World} (h : Below X.heap.size X Z) : KeepsFrom B X Z := ⟨h.size, fun k _ _ hk _ => (h.block k (Array.getElem?_eq_some_iff.1 hk).1).trans hk⟩
theorem KpO.of_below {B lo hi : Nat} {W W' : World} (h : Below W.heap.size W W') : KpO B lo hi W W' := ⟨KpH.of_below h, keepsB h⟩
theorem KpO.put {lo hi : Nat} {W : World} {B l : Nat} {o : Obj} (o' : Obj) (hB : l < B) (hl : W.heap[l]? = some o) (hc : o.isCells = false) : KpO B lo hi W (W.putObj l o') :=
  ⟨KpH.put o' hl hc, by simp, fun k o2 hk ho _ => (World.putObj_heap_other (by omega)).trans ho⟩
/-- What an iterator that holds a range turns: what is no cells, from B on. -/
def TB (B : Nat) (r : Nat) (W : World) : Prop := B ≤ r ∧ ∃ o : Obj, W.heap[r]? = some o ∧ o.isCells = false
theorem AbT.up {β : Type} {B C : Nat} {J : β → World → Prop} (h : AbT (TB B) J) (hC : B ≤ C) : AbT (TurnT C fun _ _ => False) J := fun s W W' row hs hg hr =>
  h s W W' row hs hg fun r e => by
    rcases hr r e with h0 | ⟨h1, h2⟩
    · exact h0.elim
    · exact ⟨Nat.le_trans hC h1, h2⟩
theorem AbT.below {β : Type} {T : Nat → World → Prop} {J : β → World → Prop} (h : AbT T J) {s : β} {W W' : World} (hs : J s W) (hb : Below W.heap.size W W') : J s W' := h s W W' none hs (below_grown0 hb) fun r e => by cases e
theorem KpH.turn {lo hi B : Nat} {W W' : World} {row : Option Nat} (hg : W.grownBy W' row) (hr : ∀ r, row = some r → TurnT B (fun _ _ => False) r W) : KpH lo hi W W' :=
  ⟨hg.size, fun b o _ hb hc => by
    have := hg.block b (Array.getElem?_eq_some_iff.1 hb).1 (fun e => by
      rcases hr _ e.symm with h0 | ⟨_, o2, ho2, hc2⟩
      · exact h0
      · rw [hb] at ho2; cases ho2; rw [hc] at hc2; cases hc2)
    rw [this]; exact hb⟩
theorem SlAt.kph {sz lo hi : Nat} {V W : World} {p : Option Addr} {n : Nat} {C : Nat → Nat → Value} (h : SlAt sz V p n C) (k : KpH lo hi V W) (hp : ∀ b, p = some b → b.block < lo ∨ hi ≤ b.block) : SlAt sz W p n C := by
  rcases h with h | ⟨b, off, rfl, hlt, hc⟩
  · exact .inl h
  · exact .inr ⟨b, off, rfl, Nat.lt_of_lt_of_le hlt k.1, fun i hi j hj => k.cell (hc i hi j hj) (hp ⟨b, off, none⟩ rfl)⟩
/-- A decoder's box. -/
def DBox (W : World) (bd : Nat) (l b i p f : Int) (a : Option Addr) (n c : Nat) : Prop :=
  W.cell? ⟨bd, 0, none⟩ = some (.int .i64 l) ∧ W.cell? ⟨bd, 1, none⟩ = some (.int .i64 b) ∧ W.cell? ⟨bd, 2, none⟩ = some (.int .i64 i) ∧ W.cell? ⟨bd, 3, none⟩ = some (.int .i64 p) ∧ W.cell? ⟨bd, 4, none⟩ = some (.int .i64 f) ∧ W.cell? ⟨bd, 5, none⟩ = some (.slice a n c)
theorem DBox.kept {lo hi : Nat} {W W' : World} {bd : Nat} {l b i p f : Int} {a : Option Addr} {n c : Nat} (h : DBox W bd l b i p f a n c) (k : KpH lo hi W W') (hb : bd < lo ∨ hi ≤ bd) : DBox W' bd l b i p f a n c :=
  ⟨k.cell h.1 hb, k.cell h.2.1 hb, k.cell h.2.2.1 hb, k.cell h.2.2.2.1 hb, k.cell h.2.2.2.2.1 hb, k.cell h.2.2.2.2.2 hb⟩
end Go.Proofs.Ytcafeffgaokiaaa
namespace Go.Proofs.Ytcafeffgaokiaaa
open Go.RowKit
theorem snoc_ind {α : Type} {P : List α → Prop} (h0 : P []) (h1 : ∀ l x, P l → P (l ++ [x])) (l : List α) : P l := by
  have h : ∀ r : List α, P r.reverse := by
    intro r
    induction r with
    | nil => exact h0
    | cons x r ih => rw [List.reverse_cons]; exact h1 _ _ ih
  have h2 := h l.reverse
  rwa [List.reverse_reverse] at h2
/-- The worst replacement so far. -/
structure Ws where
  w : ByteArray
  a : Int
  c : Int
  n : Int
def Rp.ws (x : Rp) : Ws := ⟨x.w, (x.a : Int), (x.c : Int), (x.n : Int)⟩
def Ws.step (s : Ws) (x : Rp) : Ws := if s.n < (x.n : Int) then x.ws else s
def wsF (l : List Rp) : Ws := l.foldl Ws.step ⟨ByteArray.empty, 0, 0, -1⟩
def mostF (l : List Rp) : Nat := l.foldl (fun s x => max s x.n) 0
def sumF (l : List Rp) : Nat := l.foldl (fun s x => s + x.n) 0
theorem wsF_snoc (l : List Rp) (x : Rp) : wsF (l ++ [x]) = (wsF l).step x := by simp [wsF, List.foldl_append]
theorem mostF_snoc (l : List Rp) (x : Rp) : mostF (l ++ [x]) = max (mostF l) x.n := by simp [mostF, List.foldl_append]
theorem sumF_snoc (l : List Rp) (x : Rp) : sumF (l ++ [x]) = sumF l + x.n := by simp [sumF, List.foldl_append]
theorem sumF_bound {l : List Rp} {B : Nat} (h : ∀ x ∈ l, x.n ≤ B) : sumF l ≤ B * l.length := by
  revert h
  refine snoc_ind (P := fun l => (∀ x ∈ l, x.n ≤ B) → sumF l ≤ B * l.length) (fun _ => Nat.zero_le _) ?_ l
  intro l y ih h
  rw [sumF_snoc, List.length_append, Nat.mul_add]
  have h1 := ih (fun x hx => h x (List.mem_append_left _ hx))
  have h2 := h y (List.mem_append_right _ (List.mem_singleton_self _))
  simp only [List.length_cons, List.length_nil]
  omega
theorem wsF_cases (l : List Rp) : (l = [] ∧ wsF l = ⟨ByteArray.empty, 0, 0, -1⟩) ∨ (wsF l).n = (mostF l : Int) ∧ ∃ x ∈ l, wsF l = x.ws := by
  refine snoc_ind (P := fun l => (l = [] ∧ wsF l = ⟨ByteArray.empty, 0, 0, -1⟩) ∨ (wsF l).n = (mostF l : Int) ∧ ∃ x ∈ l, wsF l = x.ws) (.inl ⟨rfl, rfl⟩) ?_ l
  intro l x ih
  right
  rw [wsF_snoc, mostF_snoc]
  unfold Ws.step
  rcases ih with ⟨rfl, h⟩ | ⟨h1, y, hy, h2⟩
  · rw [h, if_pos (by show (-1 : Int) < _; omega)]
    refine ⟨?_, x, by simp, rfl⟩
    show (x.n : Int) = ((max 0 x.n : Nat) : Int)
    omega
  · by_cases hc : (wsF l).n < (x.n : Int)
    · rw [if_pos hc]
      refine ⟨?_, x, by simp, rfl⟩
      show (x.n : Int) = ((max (mostF l) x.n : Nat) : Int)
      omega
    · rw [if_neg hc]
      exact ⟨by omega, y, List.mem_append_left _ hy, h2⟩
/-- How many words there are: with the bound that is met on the way. -/
def cntV (i : Int) : Nat → Int → Int
  | 0, v => v
  | n + 1, v => if 4096 < wrap64 (v * i) then 4097 else cntV i n (wrap64 (v * i))
theorem cntV_nat (I : Nat) (hI : I ≤ 256) : ∀ (n v : Nat), v ≤ 4096 → (∃ u : Nat, cntV (I : Int) n (v : Int) = (u : Int) ∧ ((u = v * I ^ n ∧ u ≤ 4096) ∨ u = 4097))
  | 0, v, hv => ⟨v, rfl, .inl ⟨by simp, hv⟩⟩
  | n + 1, v, hv => by
    have h1 : v * I ≤ 4096 * 256 := Nat.mul_le_mul hv hI
    have h2 : wrap64 ((v : Int) * (I : Int)) = ((v * I : Nat) : Int) := by
      rw [← Int.natCast_mul]
      exact IntWalk.wrap64_in _ (by omega)
    rw [cntV, h2]
    by_cases h : (4096 : Int) < ((v * I : Nat) : Int)
    · rw [if_pos h]; exact ⟨4097, rfl, .inr rfl⟩
    · rw [if_neg h]
      obtain ⟨u, hu, hc⟩ := cntV_nat I hI n (v * I) (by omega)
      refine ⟨u, hu, hc.imp (fun ⟨a, b⟩ => ⟨?_, b⟩) id⟩
      rw [a, Nat.pow_succ]
      rw [Nat.mul_assoc, Nat.mul_comm I]
/-- Whether there are more words, or letters of them, than the statements examine. -/
def manyB (b i : Int) (r : Nat) (n : Int) : Bool :=
  decide (0 < n ∧ n ≤ 16 ∧ ((300 < cntV i n.toNat (r : Int) ∧ cntV i n.toNat (r : Int) ≤ 4096) ∨ 12 < wrap64 (b * n)))
/-- Why there are no written words of n blocks. -/
def fitErr (l b i : Int) (m : EM) (dl db di dp df : Int) (es : List Ent) (n : Int) : Int :=
  if encCheck l b i m ≠ 0 ∨ decCheck dl db di dp df es ≠ 0 then 1
  else if l ≠ dl ∨ b ≠ db ∨ i ≠ di then 11
  else if n < 1 ∨ 16 < n then 2
  else if 4096 < cntV i n.toNat (m.r : Int) then 4
  else 0
theorem inF_len (I : Nat) : ∀ n, (inF I n).length = I ^ n
  | 0 => by simp [inF]
  | n + 1 => by
    rw [inF, List.length_flatMap]
    simp only [List.length_map, inF_len I n]
    rw [List.map_const', List.sum_replicate_nat, List.length_range, Nat.pow_succ, Nat.mul_comm]
theorem wordsS_len {m : EM} {I B : Nat} (hm : m.Ok I B) (n : Nat) : ∀ j, j ≤ m.r → (wordsS m n j).length = j * I ^ n
  | 0, _ => by simp [wordsS]
  | j + 1, hj => by
    rw [wordsS_succ, List.length_append, wordsS_len hm n j (by omega), wordsL_enc hm n j _ (by omega), List.length_map, inF_len, Nat.add_mul, Nat.one_mul]
theorem wordsE_len {m : EM} {I B : Nat} (hm : m.Ok I B) (n : Nat) : (wordsE m n).length = m.r * I ^ n := wordsS_len hm n m.r (Nat.le_refl _)
theorem rpK_len (D : ByteArray → List Int) (w : ByteArray) (a k : Nat) : (rpK D w a k).length ≤ k := by
  unfold rpK
  rw [List.length_map]
  exact Nat.le_trans (List.length_filter_le _ _) (by rw [List.length_range]; exact Nat.le_refl _)
theorem rpA_len (D : ByteArray → List Int) (w : ByteArray) (L : Nat) : ∀ k, (rpA D w L k).length ≤ k * L
  | 0 => by simp [rpA]
  | k + 1 => by
    rw [rpA_succ, List.length_append, Nat.add_mul, Nat.one_mul]
    have := rpA_len D w L k
    have := rpK_len D w k L
    omega
theorem rpE_len (D : ByteArray → List Int) (L S : Nat) : ∀ ws : List ByteArray, (∀ w ∈ ws, w.size ≤ S) → (rpE D L ws).length ≤ ws.length * (S * L)
  | [], _ => by simp [rpE]
  | w :: ws, h => by
    have h1 := rpE_len D L S ws (fun x hx => h x (List.mem_cons_of_mem _ hx))
    have h2 := rpA_len D w L w.size
    have h3 : w.size * L ≤ S * L := Nat.mul_le_mul_right _ (h w (List.mem_cons_self ..))
    have e : rpE D L (w :: ws) = rpA D w L w.size ++ rpE D L ws := by unfold rpE; rw [List.flatMap_cons]
    rw [e, List.length_append, List.length_cons, Nat.add_mul, Nat.one_mul]
    omega
/-- Each replacement is one of a letter by another one. -/
theorem rpE_mem {D : ByteArray → List Int} {L : Nat} {ws : List ByteArray} {x : Rp} : x ∈ rpE D L ws ↔ ∃ w ∈ ws, ∃ a, a < w.size ∧ ∃ c, c < L ∧ (idxL 16 (w.data.toList.getD a 0) == (c : Int)) = false ∧ x = rpN D w a c := by
  unfold rpE rpA rpK
  simp only [List.mem_flatMap, List.mem_map, List.mem_filter, List.mem_range, Bool.not_eq_true']
  constructor
  · rintro ⟨w, hw, a, ha, c, ⟨hc, hd⟩, rfl⟩
    exact ⟨w, hw, a, ha, c, hc, hd, rfl⟩
  · rintro ⟨w, hw, a, ha, c, hc, hd, rfl⟩
    exact ⟨w, hw, a, ha, c, ⟨hc, hd⟩, rfl⟩
end Go.Proofs.Ytcafeffgaokiaaa
namespace Go.Proofs.Ytcafeffgaokiaaa
open Go.RowKit
theorem OwnLs.one (w : World) {B : Nat} (h : B ≤ w.heap.size) :
    OwnLs ((w.alloc (.cells #[] 3)).alloc (.cells #[.slice (some ⟨w.heap.size, 0, none⟩) 0 0] 34)) B (.slice (some ⟨w.heap.size + 1, 0, none⟩) 1 1) [[]] := by
  have hn := heap_alloc_new (w.alloc (.cells #[] 3)) (.cells #[.slice (some ⟨w.heap.size, 0, none⟩) 0 0] 34)
  rw [World.size_alloc] at hn
  refine ⟨fun _ => w.heap.size, fun _ => 0, ⟨by simp, .inr ⟨w.heap.size + 1, 1, _, rfl, by omega, hn, by decide, by decide, rfl, rfl⟩⟩, fun j hj => ?_⟩
  have hj0 : j = 0 := by have : j < 1 := hj; omega
  subst hj0
  refine ⟨⟨#[], ?_, fun k hk => absurd hk (by show ¬ k < 0; omega)⟩, h⟩
  have hb := Below.refl (w.heap.size + 1) (w.alloc (.cells #[] 3))
  have := (hb.alloc (by simp) (.cells #[.slice (some ⟨w.heap.size, 0, none⟩) 0 0] 34)).block w.heap.size (by omega)
  rw [this]
  exact heap_alloc_new w _
theorem intsN_snoc (l : List Nat) (x : Nat) : intsN (l ++ [x]) = intsN l ++ [(x : Int)] := by simp [intsN]
def inZ (I n : Nat) : List (List Int) := (inL I n).map intsN
/-- What stands in the next list: the rows ahead of row k are done, row k up to the input x. -/
def inX (I n k x : Nat) : List (List Int) := ((inL I n).take k).flatMap (fun l => (List.range I).map fun y => intsN (l ++ [y])) ++ (List.range x).map fun y => intsN ((inL I n).getD k [] ++ [y])
theorem inX_zero (I n : Nat) : inX I n 0 0 = [] := by simp [inX]
theorem inX_step (I n k x : Nat) : inX I n k (x + 1) = inX I n k x ++ [intsN ((inL I n).getD k []) ++ [(x : Int)]] := by
  unfold inX
  rw [List.range_succ, List.map_append, List.append_assoc, List.map_cons, List.map_nil, intsN_snoc]
theorem inX_row {I n k : Nat} (hk : k < (inL I n).length) : inX I n k I = inX I n (k + 1) 0 := by
  unfold inX
  rw [List.take_add_one, List.getElem?_eq_getElem hk, List.flatMap_append, List.getD_eq_getElem?_getD, List.getElem?_eq_getElem hk]
  simp
theorem inX_end {I n : Nat} : inX I n (inL I n).length 0 = inZ I (n + 1) := by
  unfold inX inZ
  rw [List.take_length, inL, List.map_flatMap]
  simp [List.map_map, Function.comp_def]
theorem inL_len (I n : Nat) : (inL I n).length = I ^ n := by rw [inL_eq, inF_len]
theorem inZ_len (I n : Nat) : (inZ I n).length = I ^ n := by rw [inZ, List.length_map, inL_len]
theorem inL_mem {I : Nat} : ∀ n l, l ∈ inL I n → l.length = n ∧ ∀ x ∈ l, x < I
  | 0, l, h => by rw [inL, List.mem_singleton] at h; subst h; exact ⟨rfl, fun x hx => by cases hx⟩
  | n + 1, l, h => by
    obtain ⟨l0, h0, h1⟩ := List.mem_flatMap.1 h
    obtain ⟨x, hx, rfl⟩ := List.mem_map.1 h1
    obtain ⟨a, b⟩ := inL_mem n l0 h0
    refine ⟨by simp [a], fun y hy => ?_⟩
    rcases List.mem_append.1 hy with h | h
    · exact b y h
    · rw [List.mem_singleton.1 h]; exact List.mem_range.1 hx
theorem inX_len {I n k x : Nat} (hk : k ≤ (inL I n).length) (hx : x ≤ I) : (inX I n k x).length ≤ (k + 1) * I := by
  unfold inX
  rw [List.length_append, List.length_map, List.length_range, List.length_flatMap]
  have h : (((inL I n).take k).map fun l => ((List.range I).map fun y => intsN (l ++ [y])).length) = List.replicate k I := by
    rw [List.eq_replicate_iff]
    refine ⟨by rw [List.length_map, List.length_take]; omega, fun y hy => ?_⟩
    obtain ⟨l, _, rfl⟩ := List.mem_map.1 hy
    simp
  rw [h, List.sum_replicate_nat, Nat.add_mul]
  omega
theorem getD_map_ints (ls : List (List Nat)) {k : Nat} (hk : k < ls.length) : (ls.map intsN).getD k [] = intsN (ls.getD k []) := by
  rw [List.getD_eq_getElem?_getD, List.getD_eq_getElem?_getD, List.getElem?_map, List.getElem?_eq_getElem hk]; rfl
set_option maxRecDepth 100000 in
set_option maxHeartbeats 8000000 in
theorem inputs_any (I n : Nat) (hI : 1 ≤ I ∧ I ≤ 256) (hn : n ≤ 16) (hz : I ^ n ≤ 4096) (w : World) :
    Calls Try.prog 96 #[.int .i64 (I : Int), .int .i64 (n : Int)] w fun e w' => ∃ v, e = .returned v ∧ OwnLs w' w.heap.size v (inZ I n) ∧ Below w.heap.size w w' := by
  have hpw : ∀ i, i ≤ n → I ^ i ≤ 4096 := fun i hi => Nat.le_trans (Nat.pow_le_pow_right hI.1 hi) hz
  have HP := Lib.hid hpw
  have h1 := OwnLs.one w (Nat.le_refl w.heap.size)
  have HO1 := Lib.hid h1
  clear hpw h1 hz
  go_enter Try.func96, Try.ntmps96
  go_wp2
  go_loopw [5, 6] (fun ov iv wr => ∃ i : Nat, i ≤ n ∧ iv = .int .i64 (i : Nat) ∧ Hid (OwnLs wr w.heap.size ov (inZ I i)) ∧ Hid (Below w.heap.size w wr)) (fun _ iv _ => n - (intOf iv).toNat)
  case atStart => exact ⟨0, by omega, by go_num, HO1, Lib.hid (((Below.refl _ _).alloc (Nat.le_refl _) _).alloc (by simp) _)⟩
  case round =>
    clear HO1
    obtain ⟨i, hi, rfl, HO, Hb⟩ := hrel
    by_cases hlt : i < n
    · have i0 : (i : Int) < (n : Int) := by omega
      obtain ⟨po, co, rfl, hLs, _⟩ := HO.out.form
      have hlen := inZ_len I i
      have hpi := HP.out i (by omega)
      obtain ⟨N, hN⟩ : ∃ N, (inZ I i).length = N := ⟨_, rfl⟩
      have hN2 : N ≤ 4096 := by omega
      have hNL : (inL I i).length = N := by rw [← hN, inZ, List.length_map]
      have HLs := Lib.hid hLs
      have HNL := Lib.hid hNL
      rw [hN]
      obtain ⟨wo, hwo⟩ : ∃ x, wr = x := ⟨_, rfl⟩
      rw [hwo] at Hb HLs ⊢
      have HO2 := Lib.hid (OwnLs.made wo (Nat.le_refl wo.heap.size))
      have Hb2 : Hid (Below wo.heap.size wo (wo.alloc (.cells #[] 34))) := Lib.hid ((Below.refl _ _).alloc (Nat.le_refl _) _)
      clear hLs HO hlen hpi hN hNL hwo
      go_wp2
      go_loopw [7, 8] (fun nv kv wr => ∃ k : Nat, k ≤ N ∧ kv = .int .i64 (k : Nat) ∧ Hid (OwnLs wr wo.heap.size nv (inX I i k 0)) ∧ Hid (Below wo.heap.size wo wr)) (fun _ kv _ => N - (intOf kv).toNat)
      case atStart => exact ⟨0, by omega, by go_num, Lib.hid (by rw [inX_zero]; exact HO2.out), Hb2⟩
      case round =>
        clear HO2 Hb2
        obtain ⟨k, hk, rfl, HO3, Hb3⟩ := hrel
        by_cases hltk : k < N
        · have k0 : (0 : Int) ≤ (k : Int) := by omega
          have k1 : (k : Int) < (N : Int) := by omega
          go_wp2
          go_loopw [7, 9] (fun nv xv wr => ∃ x : Nat, x ≤ I ∧ xv = .int .i64 (x : Nat) ∧ Hid (OwnLs wr wo.heap.size nv (inX I i k x)) ∧ Hid (Below wo.heap.size wo wr)) (fun _ xv _ => I - (intOf xv).toNat)
          case atStart => exact ⟨0, by omega, by go_num, HO3, Hb3⟩
          case round =>
            clear HO3 Hb3
            obtain ⟨x, hx, rfl, HO4, Hb4⟩ := hrel
            by_cases hltx : x < I
            · have x1 : (x : Int) < (I : Int) := by omega
              obtain ⟨Y, hY⟩ : ∃ W, wr = W := ⟨_, rfl⟩
              rw [hY] at Hb4 HO4 ⊢
              clear hY
              obtain ⟨b9, o9, q9, c9, hpo, hb9, hrow, hR⟩ := (HLs.out.below Hb4.out).row (j := k) (by rw [inZ, List.length_map, HNL.out]; exact hltk)
              rw [inZ, getD_map_ints _ (by rw [HNL.out]; exact hltk)] at hrow hR
              obtain ⟨l, hl⟩ : ∃ l, (inL I i).getD k [] = l := ⟨_, rfl⟩
              have hll : l.length = i := (inL_mem i l (by rw [← hl, List.getD_eq_getElem?_getD, List.getElem?_eq_getElem (by rw [HNL.out]; exact hltk)]; exact List.getElem_mem _)).1
              have hSt := inX_step I i k x
              have hXl := inX_len (I := I) (n := i) (k := k) (x := x) (by rw [HNL.out]; omega) hx
              have hXl2 : (k + 1) * I ≤ 4096 * 256 := Nat.mul_le_mul (by omega) hI.2
              rw [hl] at hrow hR hSt
              rw [intsN_len] at hrow
              have HSt := Lib.hid hSt
              have Hll := Lib.hid hll
              have HR := Lib.hid hR
              have HXl : Hid ((inX I i k x).length ≤ 2000000) := Lib.hid (by omega)
              subst hpo
              clear hl hSt hR hXl hXl2 hll
              have hya : Below Y.heap.size Y (Y.alloc (.cells #[] 3)) := (Below.refl _ _).alloc (Nat.le_refl _) _
              have hrow2 := (hya.cell (p := ⟨b9, _, none⟩) hb9).trans hrow
              have hia : IntsAt (Y.alloc (.cells #[] 3)) (some ⟨q9, 0, none⟩) (intsN l) := HR.out.ints.below (Nat.le_refl _) hya
              go_wp2_with (at_builtin; refine append_ints_any rfl _ _ rfl Y.heap.size _ [] rfl (OwnInts.made Y (Nat.le_refl _)) (some ⟨q9, 0, none⟩) c9 l.length (intsN l) (intsN_len l) rfl hia (by intro h; cases h) ?_ ?_ ?_)
              · rw [List.length_nil, intsN_len, Hll.out]; omega
              · simp
              intro v5 w5 hown5 hb5
              have hY5 : Below Y.heap.size Y w5 := hya.trans hb5
              have HY5 := Lib.hid hY5
              have HO5 := Lib.hid hown5
              clear hia hya hb5 hown5 hrow2 hrow hY5
              have hb6 : Below Y.heap.size Y (w5.alloc (.cells #[.int .i64 (x : Int)] 3)) := HY5.out.alloc HY5.out.size _
              have HO6 := Lib.hid (HO5.out.alloc (.cells #[.int .i64 (x : Int)] 3))
              have HB6 := Lib.hid hb6
              have hn6 := cell_new0 w5 (.int .i64 (x : Int)) 3
              clear hb6
              go_wp2_with (at_builtin; refine wpList_append_int rfl _ _ rfl Y.heap.size _ _ rfl HO6.out w5.heap.size 1 x rfl hn6 ?_ ?_ ?_)
              · rw [intsN_len, Hll.out]; omega
              · have := HB6.out.size; omega
              intro v7 w7 hown7 hg7
              have HB7 := Lib.hid (below_append HB6.out HO6.out hg7 HB6.out.size (Nat.le_refl _))
              rcases hown7.rowN with ⟨_, h0⟩ | ⟨g7, c7, rfl, hg7b, hR7⟩
              · simp at h0
              have HR7 := Lib.hid hR7
              rw [List.length_append, List.length_singleton, intsN_len]
              clear hown7 hg7 HO6 HO5 hR7 HB6 HY5 hn6
              have hl7 : (intsN l ++ [(x : Int)]).length = l.length + 1 := by rw [List.length_append, List.length_singleton, intsN_len]
              have hb8 : Below w7.heap.size w7 (w7.alloc (.cells #[.slice (some ⟨g7, 0, none⟩) (l.length + 1) c7] 34)) := (Below.refl _ _).alloc (Nat.le_refl _) _
              have HO8 := Lib.hid (OwnLs.below (OwnLs.below HO4.out HB7.out) hb8)
              have HR8 := Lib.hid (HR7.out.kept (hb8.block g7 HR7.out.lt))
              have HB8 : Hid (Below wo.heap.size wo (w7.alloc (.cells #[.slice (some ⟨g7, 0, none⟩) (l.length + 1) c7] 34))) := Lib.hid ((Hb4.out.trans (HB7.out.mono Hb4.out.size)).trans (hb8.mono (Nat.le_trans Hb4.out.size HB7.out.size)))
              have hn8 := cell_new0 w7 (.slice (some ⟨g7, 0, none⟩) (l.length + 1) c7) 34
              have Hn8 := Lib.hid hn8
              have hgo : wo.heap.size ≤ g7 := Nat.le_trans Hb4.out.size hg7b
              clear hb8 hn8
              go_wp2_with (at_builtin; refine append_lrow rfl _ _ rfl wo.heap.size _ _ rfl HO8.out w7.heap.size 1 g7 c7 (l.length + 1) (intsN l ++ [(x : Int)]) hl7 rfl Hn8.out HR8.out hgo ?_ ?_ ?_)
              · have := HXl.out; omega
              · have := HB8.out.size; omega
              intro v9 w9 hown9 hb9
              have HO9 : Hid (OwnLs w9 wo.heap.size v9 (inX I i k (x + 1))) := Lib.hid (by rw [HSt.out]; exact hown9)
              have HB9 := Lib.hid (HB8.out.trans hb9)
              clear hown9 hb9 HO8 HR8 HB8 Hn8 hl7
              go_wp2
              go_roundw
              case rel => exact ⟨x + 1, by omega, by go_num, HO9, HB9⟩
              case measure => simp [intOf]; omega
            · have x1 : ¬ (x : Int) < (I : Int) := by omega
              have hxe : x = I := by omega
              have HO9 : Hid (OwnLs wr wo.heap.size u7 (inX I i (k + 1) 0)) := Lib.hid (by have h := HO4.out; rw [hxe, inX_row (by rw [HNL.out]; exact hltk)] at h; exact h)
              clear hxe
              go_wp2
              go_roundw
              case rel => exact ⟨k + 1, by omega, by go_num, HO9, Hb4⟩
              case measure => simp [intOf]; omega
        · have k1 : ¬ (k : Int) < (N : Int) := by omega
          have hke : k = N := by omega
          have HO9 : Hid (OwnLs wr w.heap.size u7 (inZ I (i + 1))) := Lib.hid (by
            have h := HO3.out
            rw [hke, ← HNL.out, inX_end] at h
            exact h.base Hb.out.size)
          clear hke
          go_wp2
          go_roundw
          case rel => exact ⟨i + 1, by omega, by go_num, HO9, Lib.hid (Hb.out.trans (Hb3.out.mono Hb.out.size))⟩
          case measure => simp [intOf]; omega
    · have i1 : ¬ (i : Int) < (n : Int) := by omega
      have hie : i = n := by omega
      rw [hie] at HO
      clear hie
      go_wp2
      go_ret
      exact ⟨_, rfl, HO.out, Hb.out⟩
end Go.Proofs.Ytcafeffgaokiaaa
namespace Go.Proofs.Ytcafeffgaokiaaa
open Go.RowKit

theorem strInfo : (Try.prog.info? 9).map (fun i => (i.zero, i.size, i.bytes)) = some (some (.string ⟨#[]⟩), 1, 16) := by kernel_rfl
/-- A world whose slice v holds these strings, in memory from block B on. -/
def OwnStrs (w : World) (B : Nat) (v : Value) (xs : List ByteArray) : Prop := w.ownsRow B 9 1 v xs.length (xs.map Value.string)
theorem OwnStrs.nil (w : World) (B : Nat) : OwnStrs w B (.slice none 0 0) [] := World.ownsRow_nil _ _ _ _
theorem OwnStrs.below {w w' : World} {B C : Nat} {v : Value} {xs : List ByteArray} (h : OwnStrs w B v xs) (hB : w.heap.size ≤ C) (hb : Below C w w') : OwnStrs w' B v xs := ownsRow_below h hB hb
theorem OwnStrs.base {w : World} {B B' : Nat} {v : Value} {xs : List ByteArray} (h : OwnStrs w B v xs) (hB : B' ≤ B) : OwnStrs w B' v xs := ownsRow_base h hB
theorem OwnStrs.alloc {w : World} {B : Nat} {v : Value} {xs : List ByteArray} (h : OwnStrs w B v xs) (o : Obj) : OwnStrs (w.alloc o) B v xs := World.ownsRow.alloc h o
theorem OwnStrs.drewN {w : World} {B : Nat} {v : Value} {xs : List ByteArray} (h : OwnStrs w B v xs) (n : Nat) : OwnStrs (w.drewN n) B v xs := h.below (Nat.le_refl _) (Drawn.below ⟨n, rfl⟩ _)

/-- 'out = append(out, y)' of strings onto a row of the call's own. -/
theorem wpList_append_str {ops : Array Oper} {rest : List Oper} {o : Oper} {a : Act} {Q : Exit → Act → World → Prop} {w : World} (hgd : o.guard = none) (s x : Operand)
    (ho : o.op = .call { callee := .builtin .append, args := #[s, x], argTypes := #[127, 127] })
    (base : Nat) (v : Value) (xs : List ByteArray) (hs : a.eval s = v) (hown : OwnStrs w base v xs) (g c : Nat) (y : ByteArray) (hx : a.eval x = .slice (some ⟨g, 0, none⟩) 1 c)
    (hc : w.cell? ⟨g, 0, none⟩ = some (.string y)) (hn : xs.length < 1000000000000) (hbase : base ≤ w.heap.size)
    (h : ∀ v' w', OwnStrs w' base v' (xs ++ [y]) → w.grownBy w' v.ownBlock → wpList Try.prog ops Q rest (a.put o.dst v') w') : wpList Try.prog ops Q (o :: rest) a w := by
  obtain ⟨i0, hi, hz0, hz1, hz2⟩ := info_parts strInfo
  refine wpList_append_own _ hgd s x _ ho base 9 i0 (.string ⟨#[]⟩) 1 16 Try.underlying127 hi hz0 hz1 hz2 rfl (by decide) v xs.length (xs.map Value.string) hs hown ⟨g, 0, none⟩ 1 c [.string y] hx rfl ?_ ?_ ?_ ?_ hbase ?_
  · intro j u hj
    match j, hj with
    | 0, hj => simp at hj; subst hj; simpa [Addr.add] using hc
  · intro u hu; simp at hu; subst hu; rfl
  · unfold maxLen; omega
  · omega
  · intro v' w' h2 h3 _
    exact h v' w' (by unfold OwnStrs; simpa using h2) h3

/-- A slice header at p reads as these strings. -/
def StrsAt (w : World) (p : Option Addr) (xs : List ByteArray) : Prop := SlAt 1 w p xs.length (fun i _ => .string (xs.getD i ByteArray.empty))
theorem StrsAt.below {w w' : World} {p : Option Addr} {xs : List ByteArray} (h : StrsAt w p xs) {B : Nat} (hB : w.heap.size ≤ B) (hb : Below B w w') : StrsAt w' p xs := h.mono hB hb
theorem OwnStrs.form {w : World} {B : Nat} {v : Value} {xs : List ByteArray} (h : OwnStrs w B v xs) : ∃ p cap, v = .slice p xs.length cap ∧ xs.length ≤ cap ∧ StrsAt w p xs ∧ (∀ b, p = some b → B ≤ b.block) :=
  slAt_of_owns h (fun i _ => .string (xs.getD i ByteArray.empty)) fun i hi j hj => by
    have : j = 0 := by omega
    subst this
    simp [List.getD_eq_getElem?_getD, hi]
theorem StrsAt.cells {w : World} {p : Option Addr} {xs : List ByteArray} (h : StrsAt w p xs) {k : Nat} (hk : k < xs.length) :
    ∃ b off, p = some ⟨b, off, none⟩ ∧ b < w.heap.size ∧ ∀ i, i < xs.length → w.cell? ⟨b, off + i, none⟩ = some (.string (xs.getD i ByteArray.empty)) := by
  rcases h with h | ⟨b, off, rfl, hlt, hc⟩
  · omega
  · exact ⟨b, off, rfl, hlt, fun i hi => by simpa using hc i hi 0 (by omega)⟩
end Go.Proofs.Ytcafeffgaokiaaa
