/- Rows of entries: kept, handed to the sort, and what they are behind it. Plain facts on Changed: a replacement changes only what is decoded by windows that contain its block. -/
import Derived.Test.YtcafeffgaokiaaaZ24
import Derived.Test.YtcafeffgaokiaaaZ10
namespace Go.Proofs.Ytcafeffgaokiaaa
open Go.RowKit Go.Maps Go.Lib Go.Sort
theorem ents_ne {W : World} {base : Nat} {v : Value} {xs : List (ByteArray × Nat)} (h : OwnEs W base v xs) {j : Nat} {o : Obj} (hj : W.heap[j]? = some o) (hno : ∀ cur, o ≠ .cells cur 86 (0, 0)) : v.ownBlock = none ∨ v.ownBlock ≠ some j := by
  rcases h.2 with ⟨rfl, _⟩ | ⟨g, cap, cur, rfl, _, hgb, _⟩
  · exact .inl rfl
  · refine .inr fun e' => ?_
    have : g = j := by simpa [Value.ownBlock] using e'
    subst this; rw [hgb] at hj; cases hj; exact hno cur rfl
theorem tb_ents {C B base : Nat} {v : Value} {xs : List (ByteArray × Nat)} {W W' : World} {row : Option Nat} (h : OwnEs W base v xs) (hg : W.grownBy W' row) (hr : ∀ r, row = some r → TurnT C (TB B) r W) : OwnEs W' base v xs := by
  refine World.ownsRow.kept h hg ?_
  rcases hrow : row with _ | k
  · rcases hv : v.ownBlock with _ | k2
    · exact .inl rfl
    · exact .inr (by simp)
  · obtain ⟨o, ho, hc⟩ : ∃ o : Obj, W.heap[k]? = some o ∧ o.isCells = false := by
      rcases hr k hrow with ⟨_, o, ho, hc⟩ | ⟨_, o, ho, hc⟩ <;> exact ⟨o, ho, hc⟩
    exact ents_ne h ho (fun cur e => by rw [e] at hc; cases hc)
theorem ents_form {W : World} {base : Nat} {v : Value} {xs : List (ByteArray × Nat)} {z : ByteArray × Nat} (h : OwnEs W base v (xs ++ [z])) : ∃ g cap, v = .slice (some ⟨g, 0, none⟩) (xs.length + 1) cap := by
  rcases h.2 with ⟨_, h0⟩ | ⟨g, cap, cur, hv, _⟩
  · simp at h0
  · exact ⟨g, cap, by rw [hv, List.length_append]; rfl⟩
/-- The row that a slice of entries owns, for the sort. -/
theorem ents_holds {W : World} {base : Nat} {v : Value} {xs : List (ByteArray × Nat)} (h : OwnEs W base v xs) (hx : 0 < xs.length) :
    ∃ blk cap cur, v = .slice (some ⟨blk, 0, none⟩) xs.length cap ∧ base ≤ blk ∧ blk < W.heap.size ∧ W.heap[blk]? = some (.cells cur 86 (0, 0)) ∧ HoldsK encEn 2 W blk 0 (xs.map toEnt).toArray := by
  rcases h.2 with ⟨_, h0⟩ | ⟨g, cap, cur, hv, hb, hg, h1, h2, h3, h4⟩
  · omega
  refine ⟨g, cap, cur, hv, hb, (Array.getElem?_eq_some_iff.1 hg).1, hg, ?_⟩
  intro j hj
  have hj2 : j < xs.length * 2 := by simpa using hj
  rw [get_flatK _ _ _ _ (by simpa using hj2)]
  refine ⟨?_, by simp [World.frozen?, hg]⟩
  have hq : j / 2 < xs.length := by omega
  have e1 : (xs.map toEnt).toArray[j / 2]! = toEnt xs[j / 2] := by
    rw [getElem!_pos _ _ (by simpa using hq)]; simp
  have hc : cur[j]? = (xs.flatMap fun x => encEn (toEnt x))[j]? := by
    rw [← h4, List.getElem?_take_of_lt hj2, Array.getElem?_toList]
  have hcell : W.cell? ⟨g, 0 + j, none⟩ = cur[j]? := by
    simp [World.cell?, hg]
  rw [hcell, hc, e1]
  obtain ⟨f1, f2⟩ := flat_get xs (j / 2) hq
  rcases Nat.mod_two_eq_zero_or_one j with hm | hm
  · rw [show j / 2 * 2 = j from by omega] at f1
    rw [f1, hm]; rfl
  · rw [show j / 2 * 2 + 1 = j from by omega] at f2
    rw [f2, hm]; rfl
/-- What holds entries reads as these entries. -/
theorem holds_ents {W : World} {blk : Nat} {d : Array Ent} (h : HoldsK encEn 2 W blk 0 d) (hb : blk < W.heap.size) : EntsAt W (some ⟨blk, 0, none⟩) d.toList := by
  refine .inr ⟨blk, 0, rfl, hb, fun i hi j hj => ?_⟩
  have hi2 : i < d.size := by simpa using hi
  have hc := (HoldsK.cell h hi2 hj).1
  rw [hc]
  have e1 : d.toList.getD i default = d[i]! := by
    rw [List.getD_eq_getElem?_getD, Array.getElem?_toList, getElem!_pos d i hi2, Array.getElem?_eq_getElem hi2]; rfl
  unfold entC
  rw [e1]
  match j, hj with
  | 0, _ => rfl
  | 1, _ => rfl
theorem sorted_below {w : World} {blk n B : Nat} {d : Array Ent} {os : Array Obj} (hb : B ≤ blk) (hs : blk < w.heap.size) : Below B w (sortWorldK encEn 2 w blk 0 n d os) := by
  have hgr : w.grownBy (sortWorldK encEn 2 w blk 0 n d os) (some blk) := by
    unfold sortWorldK putRowK
    refine ⟨rfl, rfl, rfl, by simp, fun k hk hne => ?_⟩
    rw [heap_grow_old _ _ (by simpa using hk)]
    have : blk ≠ k := fun e => hne (by rw [e])
    simp [putRow, mapBlock, Sort.ahead, Array.getElem?_modify, this]
  exact (Below.refl B w).grown hgr (by omega) (fun k e => by cases e; exact hb)
theorem sorted_block {w : World} {blk n k : Nat} {d : Array Ent} {os : Array Obj} (hk : k < w.heap.size) (hne : blk ≠ k) : (sortWorldK encEn 2 w blk 0 n d os).heap[k]? = w.heap[k]? := by
  unfold sortWorldK putRowK
  rw [heap_grow_old _ _ (by simpa using hk)]
  simp [putRow, mapBlock, Sort.ahead, Array.getElem?_modify, hne]
theorem sorted_holds {w : World} {blk n : Nat} {d d' : Array Ent} {os : Array Obj} (h : HoldsK encEn 2 w blk 0 d) (hs : blk < w.heap.size) (hd : d'.size = d.size) : HoldsK encEn 2 (sortWorldK encEn 2 w blk 0 n d' os) blk 0 d' := holdsK_sortWorldK encEn 2 w blk 0 n d d' os hs h hd
theorem sorted_size {w : World} {blk n : Nat} {d : Array Ent} {os : Array Obj} : w.heap.size ≤ (sortWorldK encEn 2 w blk 0 n d os).heap.size := by
  unfold sortWorldK putRowK
  simp [grow]
end Go.Proofs.Ytcafeffgaokiaaa
namespace Go.Proofs.Ytcafeffgaokiaaa
open Go.RowKit

theorem ba_ext {a b : ByteArray} (h : a.data.toList = b.data.toList) : a = b := by
  cases a; cases b
  simp only [ByteArray.mk.injEq]
  exact Array.toList_inj.1 h
theorem extract_list (s : ByteArray) (m n : Nat) : (s.extract m (m + n)).data.toList = (s.data.toList.drop m).take n := by
  rw [ByteArray.data_extract, Array.toList_extract, List.extract_eq_take_drop]
  simp
theorem replS_set (s : ByteArray) (a c : Nat) (hc : c < 16) (ha : a < s.size) : (replS s a c).data.toList = s.data.toList.set a (letters.getD c 0) := by
  rw [replS_list s a c hc, List.set_eq_take_append_cons_drop, if_pos (by simpa using ha)]
theorem replS_extract {s : ByteArray} {a c m n : Nat} (hc : c < 16) (ha : a < s.size) (h : a < m ∨ m + n ≤ a) : (replS s a c).extract m (m + n) = s.extract m (m + n) := by
  apply ba_ext
  rw [extract_list, extract_list, replS_set s a c hc ha]
  rcases h with h | h
  · rw [List.drop_set_of_lt h]
  · rw [List.drop_set]
    rw [if_neg (by omega), List.take_set_of_le (by omega)]
theorem replS_decAt {es : List Ent} {s : ByteArray} {a c m n : Nat} (hc : c < 16) (ha : a < s.size) (h : a < m ∨ m + n ≤ a) : decAt es (replS s a c) n m = decAt es s n m := by
  unfold decAt; rw [replS_extract hc ha h]

/-- Strictly increasing. -/
def Inc (l : List Int) : Prop := l.Pairwise (· < ·)
theorem inc_len : ∀ (l : List Int) (lo hi : Int), Inc l → (∀ x ∈ l, lo ≤ x ∧ x ≤ hi) → lo ≤ hi + 1 → (l.length : Int) ≤ hi - lo + 1
  | [], lo, hi, _, _, h => by simp; omega
  | x :: l, lo, hi, hp, hb, h => by
    have h1 := List.pairwise_cons.1 hp
    have hx := hb x (List.mem_cons_self ..)
    have := inc_len l (x + 1) hi h1.2 (fun y hy => ⟨by have := h1.1 y hy; omega, (hb y (List.mem_cons_of_mem _ hy)).2⟩) (by omega)
    simp only [List.length_cons]
    omega
theorem diffs_inc (a b : List Int) : Inc (diffs a b) := by
  unfold diffs diffsK Inc
  rw [List.pairwise_map]
  have h : (List.range (min a.length b.length)).Pairwise (· < ·) := List.pairwise_lt_range
  exact (h.filter _).imp fun h => by omega
theorem diffs_mem {a b : List Int} {x : Int} (h : x ∈ diffs a b) : ∃ k : Nat, x = k ∧ k < a.length ∧ k < b.length ∧ a.getD k 0 ≠ b.getD k 0 := by
  unfold diffs diffsK at h
  obtain ⟨k, hk, rfl⟩ := List.mem_map.1 h
  rw [List.mem_filter, List.mem_range] at hk
  exact ⟨k, rfl, by omega, by omega, by simpa using hk.2⟩
theorem decList_getD {b p f : Int} {es : List Ent} {s : ByteArray} {k : Nat} (h : k < (decList b p f es s).length) : (decList b p f es s).getD k 0 = decAt es s ((p + 1 + f) * b).toNat (k * b.toNat) := by
  rw [decList_len] at h
  unfold decList
  rw [List.getD_eq_getElem?_getD, List.getElem?_map, List.getElem?_range h]; rfl

theorem chErr_zero {l b i p f : Int} {es : List Ent} {s : ByteArray} {a c : Int} : chErr l b i p f es s a c = 0 ↔ decErr l b i p f es s = 0 ∧ (0 ≤ a ∧ a < s.size) ∧ (0 ≤ c ∧ c < l) := by
  unfold chErr
  by_cases h1 : decErr l b i p f es s ≠ 0
  · rw [if_pos h1]; constructor
    · intro h; exact absurd h h1
    · intro h; exact absurd h.1 h1
  rw [if_neg h1]
  by_cases h2 : a < 0 ∨ (s.size : Int) ≤ a
  · rw [if_pos h2]; constructor
    · intro h; omega
    · intro h; omega
  rw [if_neg h2]
  by_cases h3 : c < 0 ∨ l ≤ c
  · rw [if_pos h3]; constructor
    · intro h; omega
    · intro h; omega
  rw [if_neg h3]
  simp only [ne_eq, Classical.not_not] at h1
  exact ⟨fun _ => ⟨h1, by omega, by omega⟩, fun _ => rfl⟩

/-- The block of a place lies in the window of each element that is changed. -/
theorem chOut_mem {l b i p f : Int} {es : List Ent} {s : ByteArray} {a c : Int} (h0 : chErr l b i p f es s a c = 0) {x : Int} (h : x ∈ chOut l b i p f es s a c) : 0 ≤ x ∧ x ≤ a / b ∧ a / b ≤ x + p + f := by
  obtain ⟨h1, h2, h3⟩ := chErr_zero.1 h0
  obtain ⟨hl, hb, _⟩ := decCheck_ok (decErr_zero.1 h1).1
  unfold chOut at h
  rw [if_pos h0] at h
  obtain ⟨k, rfl, hk1, hk2, hne⟩ := diffs_mem h
  have he2 := replS_err (a := a.toNat) (c := c.toNat) (by omega) (by omega) (by omega) h1
  have e1 : decOut l b i p f es s = decList b p f es s := by unfold decOut; rw [if_pos h1]
  have e2 : decOut l b i p f es (replS s a.toNat c.toNat) = decList b p f es (replS s a.toNat c.toNat) := by unfold decOut; rw [if_pos he2]
  rw [e1] at hk1 hne
  rw [e2] at hk2 hne
  rw [decList_getD hk1, decList_getD hk2] at hne
  have hin : ¬ (a.toNat < k * b.toNat ∨ k * b.toNat + ((p + 1 + f) * b).toNat ≤ a.toNat) := fun hor => hne (replS_decAt (by omega) (by omega) hor).symm
  have hmul : 0 ≤ (p + 1 + f) * b := Int.mul_nonneg (by omega) (by omega)
  have hkb : ((k * b.toNat : Nat) : Int) = (k : Int) * b := by rw [Int.natCast_mul, Int.toNat_of_nonneg (by omega)]
  have g1 : (k : Int) * b ≤ a := by omega
  have g2 : a < (k : Int) * b + (p + 1 + f) * b := by omega
  refine ⟨by omega, ?_, ?_⟩
  · exact (Int.le_ediv_iff_mul_le (by omega)).2 g1
  · have : a / b < (k : Int) + (p + 1 + f) := (Int.ediv_lt_iff_lt_mul (by omega)).2 (by rw [Int.add_mul]; exact g2)
    omega
theorem chOut_inc (l b i p f : Int) (es : List Ent) (s : ByteArray) (a c : Int) : Inc (chOut l b i p f es s a c) := by
  unfold chOut
  split
  · exact diffs_inc _ _
  · exact List.Pairwise.nil
theorem chOut_len {l b i p f : Int} {es : List Ent} {s : ByteArray} {a c : Int} (h0 : chErr l b i p f es s a c = 0) : ((chOut l b i p f es s a c).length : Int) ≤ p + 1 + f := by
  obtain ⟨h1, _, _⟩ := chErr_zero.1 h0
  obtain ⟨_, hb, _⟩ := decCheck_ok (decErr_zero.1 h1).1
  have := inc_len _ (a / b - (p + f)) (a / b) (chOut_inc l b i p f es s a c) (fun x hx => by have := chOut_mem h0 hx; omega) (by omega)
  omega
end Go.Proofs.Ytcafeffgaokiaaa
