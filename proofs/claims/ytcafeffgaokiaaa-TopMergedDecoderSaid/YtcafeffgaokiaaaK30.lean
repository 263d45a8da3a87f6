/- append of an entry inside a round; a row of entries for the sort and behind it. Rows of entries: kept, handed to the sort, and what they are behind it. -/
import Derived.Test.YtcafeffgaokiaaaK26
import Derived.OwnWalkIn
namespace Go.Proofs.Ytcafeffgaokiaaa
open Go.RowKit Go.Maps Go.Lib Go.Sort
/-- The entries that the call has collected. -/
def OwnEs (W : World) (base : Nat) (v : Value) (xs : List (ByteArray × Nat)) : Prop := W.ownsRow base 86 2 v xs.length (xs.flatMap fun x => encEn (toEnt x))
theorem entInfo : (Try.prog.info? 86).map (fun i => (i.zero, i.size, i.bytes)) = some (some (.agg #[.string ⟨#[]⟩, .int .i64 0]), 2, 24) := by kernel_rfl
theorem flat_get : ∀ (xs : List (ByteArray × Nat)) (k : Nat) (hk : k < xs.length), (xs.flatMap fun x => encEn (toEnt x))[k * 2]? = some (.string xs[k].1) ∧ (xs.flatMap fun x => encEn (toEnt x))[k * 2 + 1]? = some (.int .i64 (xs[k].2 : Int))
  | [], k, hk => by cases hk
  | x :: xs, 0, _ => by simp [encEn, toEnt]
  | x :: xs, k + 1, hk => by
    have := flat_get xs k (by simpa using hk)
    rw [List.flatMap_cons]
    rw [List.getElem?_append_right (by simp [encEn]; omega), List.getElem?_append_right (by simp [encEn]; omega)]
    have e1 : (k + 1) * 2 - (encEn (toEnt x)).length = k * 2 := by simp [encEn]; omega
    have e2 : (k + 1) * 2 + 1 - (encEn (toEnt x)).length = k * 2 + 1 := by simp [encEn]; omega
    rw [e1, e2]
    exact this
theorem append_entIn {F : Fence} {nF : Nat} {ops : Array Oper} {rest : List Oper} {o : Oper} {a : Act} {Q : Exit → Act → World → Prop} {w : World} (hgd : o.guard = none) (s x : Operand)
    (ho : o.op = .call { callee := .builtin .append, args := #[s, x], argTypes := #[28, 28] })
    (base : Nat) (v : Value) (xs : List (ByteArray × Nat)) (hs : a.eval s = v) (hown : OwnEs w base v xs) (g : Nat) (y : ByteArray × Nat) (hx : a.eval x = .slice (some ⟨g, 0, none⟩) 1 1)
    (hg : w.heap[g]? = some (.cells #[.string y.1, .int .i64 (y.2 : Int)] 86 (0, 0))) (hn : xs.length < 1000000000) (hbase : base ≤ w.heap.size)
    (h : ∀ v' w', OwnEs w' base v' (xs ++ [y]) → w.grownBy w' v.ownBlock → wpListIn F nF Try.prog ops Q rest (a.put o.dst v') w') : wpListIn F nF Try.prog ops Q (o :: rest) a w := by
  obtain ⟨i0, hi, hz0, hz1, hz2⟩ := info_parts entInfo
  refine wpListIn_append_own w hgd s x _ ho base 86 i0 (.agg #[.string ⟨#[]⟩, .int .i64 0]) 2 24 Try.underlying28 hi hz0 hz1 hz2 rfl (by decide) v xs.length _ hs hown ⟨g, 0, none⟩ 1 1 [.string y.1, .int .i64 (y.2 : Int)] hx (by simp) ?_ ?_ ?_ ?_ hbase ?_
  · intro j u hj
    match j, hj with
    | 0, hj => rw [← hj, Addr.add_lit]; simp [World.cell?, hg]
    | 1, hj => rw [← hj, Addr.add_lit]; simp [World.cell?, hg]
    | j + 2, hj => simp at hj
  · intro u hu
    simp at hu
    rcases hu with rfl | rfl <;> rfl
  · unfold maxLen; omega
  · omega
  · intro v' w' h2 h3 _
    refine h v' w' ?_ h3
    unfold OwnEs
    rw [List.flatMap_append, List.length_append]
    simpa [encEn, toEnt] using h2
end Go.Proofs.Ytcafeffgaokiaaa
namespace Go.Proofs.Ytcafeffgaokiaaa
open Go.RowKit Go.Maps Go.Lib Go.Sort
theorem ents_ne {W : World} {base : Nat} {v : Value} {xs : List (ByteArray × Nat)} (h : OwnEs W base v xs) {j : Nat} {o : Obj} (hj : W.heap[j]? = some o) (hno : ∀ cur, o ≠ .cells cur 86 (0, 0)) : v.ownBlock = none ∨ v.ownBlock ≠ some j := by
  rcases h.2 with ⟨rfl, _⟩ | ⟨g, cap, cur, rfl, _, hgb, _⟩
  · exact .inl rfl
  · refine .inr fun e' => ?_
    have : g = j := by simpa [Value.ownBlock] using e'
    subst this; rw [hgb] at hj; cases hj; exact hno cur rfl
theorem tb_ents {C B base : Nat} {v : Value} {xs : List (ByteArray × Nat)} {W W' : World} {row : Option Nat} (h : OwnEs W base v xs) (hg : W.grownBy W' row) (hr : ∀ r, row = some r → TurnT C (TB B) r W) : OwnEs W' base v xs := by
  refine World.ownsRow.kept h hg ?_
  rcases hrow : row with _ | k
  · rcases hv : v.ownBlock with _ | k2
    · exact .inl rfl
    · exact .inr (by simp)
  · obtain ⟨o, ho, hc⟩ : ∃ o : Obj, W.heap[k]? = some o ∧ o.isCells = false := by
      rcases hr k hrow with ⟨_, o, ho, hc⟩ | ⟨_, o, ho, hc⟩ <;> exact ⟨o, ho, hc⟩
    exact ents_ne h ho (fun cur e => by rw [e] at hc; cases hc)
theorem ents_form {W : World} {base : Nat} {v : Value} {xs : List (ByteArray × Nat)} {z : ByteArray × Nat} (h : OwnEs W base v (xs ++ [z])) : ∃ g cap, v = .slice (some ⟨g, 0, none⟩) (xs.length + 1) cap := by
  rcases h.2 with ⟨_, h0⟩ | ⟨g, cap, cur, hv, _⟩
  · simp at h0
  · exact ⟨g, cap, by rw [hv, List.length_append]; rfl⟩
/-- The row that a slice of entries owns, for the sort. -/
theorem ents_holds {W : World} {base : Nat} {v : Value} {xs : List (ByteArray × Nat)} (h : OwnEs W base v xs) (hx : 0 < xs.length) :
    ∃ blk cap cur, v = .slice (some ⟨blk, 0, none⟩) xs.length cap ∧ base ≤ blk ∧ blk < W.heap.size ∧ W.heap[blk]? = some (.cells cur 86 (0, 0)) ∧ HoldsK encEn 2 W blk 0 (xs.map toEnt).toArray := by
  rcases h.2 with ⟨_, h0⟩ | ⟨g, cap, cur, hv, hb, hg, h1, h2, h3, h4⟩
  · omega
  refine ⟨g, cap, cur, hv, hb, (Array.getElem?_eq_some_iff.1 hg).1, hg, ?_⟩
  intro j hj
  have hj2 : j < xs.length * 2 := by simpa using hj
  rw [get_flatK _ _ _ _ (by simpa using hj2)]
  refine ⟨?_, by simp [World.frozen?, hg]⟩
  have hq : j / 2 < xs.length := by omega
  have e1 : (xs.map toEnt).toArray[j / 2]! = toEnt xs[j / 2] := by
    rw [getElem!_pos _ _ (by simpa using hq)]; simp
  have hc : cur[j]? = (xs.flatMap fun x => encEn (toEnt x))[j]? := by
    rw [← h4, List.getElem?_take_of_lt hj2, Array.getElem?_toList]
  have hcell : W.cell? ⟨g, 0 + j, none⟩ = cur[j]? := by
    simp [World.cell?, hg]
  rw [hcell, hc, e1]
  obtain ⟨f1, f2⟩ := flat_get xs (j / 2) hq
  rcases Nat.mod_two_eq_zero_or_one j with hm | hm
  · rw [show j / 2 * 2 = j from by omega] at f1
    rw [f1, hm]; rfl
  · rw [show j / 2 * 2 + 1 = j from by omega] at f2
    rw [f2, hm]; rfl
/-- What holds entries reads as these entries. -/
theorem holds_ents {W : World} {blk : Nat} {d : Array Ent} (h : HoldsK encEn 2 W blk 0 d) (hb : blk < W.heap.size) : EntsAt W (some ⟨blk, 0, none⟩) d.toList := by
  refine .inr ⟨blk, 0, rfl, hb, fun i hi j hj => ?_⟩
  have hi2 : i < d.size := by simpa using hi
  have hc := (HoldsK.cell h hi2 hj).1
  rw [hc]
  have e1 : d.toList.getD i default = d[i]! := by
    rw [List.getD_eq_getElem?_getD, Array.getElem?_toList, getElem!_pos d i hi2, Array.getElem?_eq_getElem hi2]; rfl
  unfold entC
  rw [e1]
  match j, hj with
  | 0, _ => rfl
  | 1, _ => rfl
theorem sorted_below {w : World} {blk n B : Nat} {d : Array Ent} {os : Array Obj} (hb : B ≤ blk) (hs : blk < w.heap.size) : Below B w (sortWorldK encEn 2 w blk 0 n d os) := by
  have hgr : w.grownBy (sortWorldK encEn 2 w blk 0 n d os) (some blk) := by
    unfold sortWorldK putRowK
    refine ⟨rfl, rfl, rfl, by simp, fun k hk hne => ?_⟩
    rw [heap_grow_old _ _ (by simpa using hk)]
    have : blk ≠ k := fun e => hne (by rw [e])
    simp [putRow, mapBlock, Sort.ahead, Array.getElem?_modify, this]
  exact (Below.refl B w).grown hgr (by omega) (fun k e => by cases e; exact hb)
theorem sorted_block {w : World} {blk n k : Nat} {d : Array Ent} {os : Array Obj} (hk : k < w.heap.size) (hne : blk ≠ k) : (sortWorldK encEn 2 w blk 0 n d os).heap[k]? = w.heap[k]? := by
  unfold sortWorldK putRowK
  rw [heap_grow_old _ _ (by simpa using hk)]
  simp [putRow, mapBlock, Sort.ahead, Array.getElem?_modify, hne]
theorem sorted_holds {w : World} {blk n : Nat} {d d' : Array Ent} {os : Array Obj} (h : HoldsK encEn 2 w blk 0 d) (hs : blk < w.heap.size) (hd : d'.size = d.size) : HoldsK encEn 2 (sortWorldK encEn 2 w blk 0 n d' os) blk 0 d' := holdsK_sortWorldK encEn 2 w blk 0 n d d' os hs h hd
theorem sorted_size {w : World} {blk n : Nat} {d : Array Ent} {os : Array Obj} : w.heap.size ≤ (sortWorldK encEn 2 w blk 0 n d os).heap.size := by
  unfold sortWorldK putRowK
  simp [grow]
end Go.Proofs.Ytcafeffgaokiaaa
