/- Lists of rows of ints that a call makes: append of ints that lie somewhere, append of a row. A range over an iterator that keeps a state of its own in cells: one law for the caller, over the iterator's contract. -/
import Derived.Deep.AppendLies
import Derived.Laws.AppendOwnNone
import Derived.Test.YtcafeffgaokiaaaZ3
import Derived.Test.YtcafeffgaokiaaaZ0
import Derived.RangeFuncNested
import Derived.RangeFuncBound
import Derived.RangeFuncCalls
import Derived.RangeFuncLeaves
import Derived.RangeFuncBox
namespace Go.Proofs.Ytcafeffgaokiaaa
open Go.RowKit
/-- append(out, ys...) of ints that lie somewhere, or of none. -/
theorem append_ints_any {ops : Array Oper} {rest : List Oper} {o : Oper} {a : Act} {Q : Exit → Act → World → Prop} {w : World} (hgd : o.guard = none) (s x : Operand)
    (ho : o.op = .call { callee := .builtin .append, args := #[s, x], argTypes := #[34, 34] })
    (base : Nat) (v : Value) (xs : List Int) (hs : a.eval s = v) (hown : OwnInts w base v xs) (p : Option Addr) (c m : Nat) (ys : List Int) (hm : ys.length = m) (hx : a.eval x = .slice p m c)
    (hy : IntsAt w p ys) (hp : p = none → c = 0) (hn : xs.length + ys.length < 1000000000) (hbase : base ≤ w.heap.size)
    (h : ∀ v' w', OwnInts w' base v' (xs ++ ys) → Below base w w' → wpList Try.prog ops Q rest (a.put o.dst v') w') : wpList Try.prog ops Q (o :: rest) a w := by
  obtain ⟨i0, hi, hz0, hz1, hz2⟩ := info_parts intInfo
  subst hm
  rcases hyp : p with _ | ad
  · have hc := hp hyp
    have hl : ys = [] := by
      rcases hy with h | ⟨b, off, he, _⟩
      · exact List.length_eq_zero_iff.1 h
      · rw [hyp] at he; cases he
    subst hl
    rw [hyp, hc] at hx
    refine wpList_append_own_none hgd s x _ ho base 3 i0 1 Try.underlying34 hi v xs.length (xs.map (Value.int .i64)) hs hown hx ?_
    exact h v w (by rw [List.append_nil]; exact hown) (Below.refl _ _)
  · rw [hyp] at hx
    refine wpList_append_own _ hgd s x _ ho base 3 i0 (.int .i64 0) 1 8 Try.underlying34 hi hz0 hz1 hz2 rfl (by decide) v xs.length (xs.map (Value.int .i64)) hs hown ad ys.length c (ys.map (Value.int .i64)) hx (by simp) ?_ ?_ ?_ ?_ hbase ?_
    · intro j u hj
      have hjl : j < ys.length := by
        have := (List.getElem?_eq_some_iff.1 hj).1
        simpa using this
      obtain ⟨b, off, he, _, hc⟩ := hy.cells hjl
      rw [hyp] at he
      obtain rfl := Option.some.inj he
      rw [Addr.add_lit, hc j hjl]
      simp [hjl] at hj
      rw [← hj, List.getD_eq_getElem?_getD, List.getElem?_eq_getElem hjl]; rfl
    · intro u hu
      obtain ⟨z, _, rfl⟩ := List.mem_map.1 hu
      rfl
    · unfold maxLen; omega
    · omega
    · intro v' w' h2 h3 _
      exact h v' w' (by unfold OwnInts; simpa using h2) (below_append (Below.refl _ _) hown h3 hbase (Nat.le_refl _))
theorem hdrInfo : (Try.prog.info? 34).map (fun i => (i.zero, i.size, i.bytes)) = some (some (.slice none 0 0), 1, 24) := by kernel_rfl
theorem hdr_ne_int : 34 ≠ 3 := by decide
/-- A row of ints that fills its block from the beginning. -/
def RowN (w : World) (g : Nat) (xs : List Int) : Prop := ∃ cur, w.heap[g]? = some (.cells cur 3 (0, 0)) ∧ ∀ k, k < xs.length → cur[k]? = some (.int .i64 (xs.getD k 0))
theorem RowN.kept {w w' : World} {g : Nat} {xs : List Int} (h : RowN w g xs) (hk : w'.heap[g]? = w.heap[g]?) : RowN w' g xs := by
  obtain ⟨cur, hh, hc⟩ := h
  exact ⟨cur, hk.trans hh, hc⟩
theorem RowN.lt {w : World} {g : Nat} {xs : List Int} (h : RowN w g xs) : g < w.heap.size := by
  obtain ⟨cur, hh, _⟩ := h
  exact (Array.getElem?_eq_some_iff.1 hh).1
theorem RowN.ints {w : World} {g : Nat} {xs : List Int} (h : RowN w g xs) : IntsAt w (some ⟨g, 0, none⟩) xs := by
  obtain ⟨cur, hh, hc⟩ := h
  refine .inr ⟨g, 0, rfl, (Array.getElem?_eq_some_iff.1 hh).1, fun i hi j hj => ?_⟩
  have : j = 0 := by omega
  subst this
  unfold World.cell?
  simp only [hh]
  simpa using hc i hi
/-- What a call appended to is nil, or a row that fills its block. -/
theorem OwnInts.rowN {w : World} {B : Nat} {v : Value} {xs : List Int} (h : OwnInts w B v xs) : (v = .slice none 0 0 ∧ xs = []) ∨ ∃ g cap, v = .slice (some ⟨g, 0, none⟩) xs.length cap ∧ B ≤ g ∧ RowN w g xs := by
  rcases h.2 with ⟨h0, h1⟩ | ⟨g, cap, cur, rfl, hg, hh, hnc, _, hsz, htk⟩
  · exact .inl ⟨h0, List.length_eq_zero_iff.1 (by simpa using h1)⟩
  · refine .inr ⟨g, cap, rfl, hg, cur, hh, fun k hk => ?_⟩
    have h2 : (cur.toList.take xs.length)[k]? = some (.int .i64 (xs.getD k 0)) := by
      have h3 := htk
      simp only [Nat.mul_one] at h3
      rw [h3, List.getElem?_map, List.getD_eq_getElem?_getD, List.getElem?_eq_getElem hk]
      rfl
    rw [List.getElem?_take_of_lt hk] at h2
    simpa using h2
/-- A list of rows of the call's own, whose rows are the call's own too. -/
def OwnLs (w : World) (B : Nat) (v : Value) (xss : List (List Int)) : Prop :=
  ∃ Q C : Nat → Nat, w.ownsRow B 34 1 v xss.length ((List.range xss.length).map fun j => .slice (some ⟨Q j, 0, none⟩) (xss.getD j []).length (C j)) ∧ ∀ j, j < xss.length → RowN w (Q j) (xss.getD j []) ∧ B ≤ Q j
theorem OwnLs.made (w : World) {B : Nat} (h : B ≤ w.heap.size) : OwnLs (w.alloc (.cells #[] 34)) B (.slice (some ⟨w.heap.size, 0, none⟩) 0 0) [] :=
  ⟨fun _ => 0, fun _ => 0, World.ownsRow_made w #[] 0 h (by simp [maxLen]) rfl, fun j hj => by cases hj⟩
theorem OwnLs.below {w w' : World} {B : Nat} {v : Value} {xss : List (List Int)} (h : OwnLs w B v xss) (hb : Below w.heap.size w w') : OwnLs w' B v xss := by
  obtain ⟨Q, C, h1, h2⟩ := h
  exact ⟨Q, C, ownsRow_below h1 (Nat.le_refl _) hb, fun j hj => ⟨(h2 j hj).1.kept (hb.block _ (h2 j hj).1.lt), (h2 j hj).2⟩⟩
theorem OwnLs.base {w : World} {B B' : Nat} {v : Value} {xss : List (List Int)} (h : OwnLs w B v xss) (hB : B' ≤ B) : OwnLs w B' v xss := by
  obtain ⟨Q, C, h1, h2⟩ := h
  exact ⟨Q, C, ownsRow_base h1 hB, fun j hj => ⟨(h2 j hj).1, Nat.le_trans hB (h2 j hj).2⟩⟩
/-- How a list of rows reads. -/
def LsAt (w : World) (p : Option Addr) (xss : List (List Int)) : Prop :=
  ∃ Q C : Nat → Nat, SlAt 1 w p xss.length (fun j _ => .slice (some ⟨Q j, 0, none⟩) (xss.getD j []).length (C j)) ∧ ∀ j, j < xss.length → RowN w (Q j) (xss.getD j [])
theorem LsAt.below {w w' : World} {p : Option Addr} {xss : List (List Int)} (h : LsAt w p xss) (hb : Below w.heap.size w w') : LsAt w' p xss := by
  obtain ⟨Q, C, h1, h2⟩ := h
  exact ⟨Q, C, h1.mono (Nat.le_refl _) hb, fun j hj => (h2 j hj).kept (hb.block _ (h2 j hj).lt)⟩
theorem OwnLs.form {w : World} {B : Nat} {v : Value} {xss : List (List Int)} (h : OwnLs w B v xss) : ∃ p cap, v = .slice p xss.length cap ∧ LsAt w p xss ∧ (∀ b, p = some b → B ≤ b.block) := by
  obtain ⟨Q, C, h1, h2⟩ := h
  obtain ⟨p, cap, hv, _, hs, hp⟩ := slAt_of_owns h1 (fun j _ => .slice (some ⟨Q j, 0, none⟩) (xss.getD j []).length (C j)) (fun j hj k hk => by
    have : k = 0 := by omega
    subst this
    simp [List.getElem?_range hj])
  exact ⟨p, cap, hv, ⟨Q, C, hs, fun j hj => (h2 j hj).1⟩, hp⟩
theorem LsAt.row {w : World} {p : Option Addr} {xss : List (List Int)} (h : LsAt w p xss) {j : Nat} (hj : j < xss.length) :
    ∃ b off q c, p = some ⟨b, off, none⟩ ∧ b < w.heap.size ∧ w.cell? ⟨b, off + j, none⟩ = some (.slice (some ⟨q, 0, none⟩) (xss.getD j []).length c) ∧ RowN w q (xss.getD j []) := by
  obtain ⟨Q, C, h1, h2⟩ := h
  rcases h1 with h | ⟨b, off, rfl, hlt, hc⟩
  · omega
  · exact ⟨b, off, Q j, C j, rfl, hlt, by simpa using hc j hj 0 (by omega), h2 j hj⟩
theorem map_snoc {α : Type} (n : Nat) (f g : Nat → α) (x : α) (h : ∀ j, j < n → f j = g j) (hn : f n = x) : (List.range (n + 1)).map f = (List.range n).map g ++ [x] := by
  rw [List.range_succ, List.map_append, List.map_cons, List.map_nil, hn]
  congr 1
  exact List.map_congr_left fun j hj => h j (List.mem_range.1 hj)
theorem ls_ne_row {w : World} {B n : Nat} {v : Value} {hs : List Value} (h : w.ownsRow B 34 1 v n hs) {g : Nat} {xs : List Int} (hr : RowN w g xs) : some g ≠ v.ownBlock := by
  intro e
  rcases h.2 with ⟨h0, _⟩ | ⟨g', cap, cur, h0, _, hh, _⟩
  · rw [h0] at e; cases e
  · rw [h0] at e
    have : g = g' := Option.some.inj e
    subst this
    obtain ⟨cur', hh', _⟩ := hr
    rw [hh'] at hh
    injection hh with hh
    injection hh with _ ht _
    exact hdr_ne_int ht.symm
/-- append(out, l) of one row of ints. -/
theorem append_lrow {ops : Array Oper} {rest : List Oper} {o : Oper} {a : Act} {Q : Exit → Act → World → Prop} {w : World} (hgd : o.guard = none) (s x : Operand)
    (ho : o.op = .call { callee := .builtin .append, args := #[s, x], argTypes := #[151, 151] })
    (B : Nat) (v : Value) (xss : List (List Int)) (hv : a.eval s = v) (hsum : OwnLs w B v xss) (g c q m nl : Nat) (ys : List Int) (hyl : ys.length = nl) (hx : a.eval x = .slice (some ⟨g, 0, none⟩) 1 c)
    (hc : w.cell? ⟨g, 0, none⟩ = some (.slice (some ⟨q, 0, none⟩) nl m)) (hr : RowN w q ys) (hq : B ≤ q) (hn : xss.length < 1000000000000) (hbase : B ≤ w.heap.size)
    (h : ∀ v' w', OwnLs w' B v' (xss ++ [ys]) → Below B w w' → wpList Try.prog ops Q rest (a.put o.dst v') w') : wpList Try.prog ops Q (o :: rest) a w := by
  subst hyl
  obtain ⟨QQ, C, h1, h2⟩ := hsum
  obtain ⟨i0, hi, hz0, hz1, hz2⟩ := info_parts hdrInfo
  refine wpList_append_own _ hgd s x _ ho B 34 i0 (.slice none 0 0) 1 24 Try.underlying151 hi hz0 hz1 hz2 rfl (by decide) v xss.length _ hv h1 ⟨g, 0, none⟩ 1 c [.slice (some ⟨q, 0, none⟩) ys.length m] hx rfl ?_ ?_ ?_ ?_ hbase ?_
  · intro j u hj
    match j, hj with
    | 0, hj => simp at hj; subst hj; simpa [Addr.add] using hc
  · intro u hu; simp at hu; subst hu; rfl
  · unfold maxLen; omega
  · omega
  · intro v' w' k1 k2 _
    refine h v' w' ?_ (below_append (Below.refl _ _) h1 k2 hbase (Nat.le_refl _))
    have hkeep : ∀ {q : Nat} {ys : List Int}, RowN w q ys → RowN w' q ys := fun hr => hr.kept (k2.block _ hr.lt (ls_ne_row h1 hr))
    have hg : ∀ j, (xss ++ [ys]).getD j [] = if j < xss.length then xss.getD j [] else if j = xss.length then ys else [] := fun j => by
      rw [List.getD_eq_getElem?_getD, List.getD_eq_getElem?_getD]
      rcases Nat.lt_trichotomy j xss.length with h | h | h
      · rw [if_pos h, List.getElem?_append_left h]
      · subst h
        rw [if_neg (by omega), if_pos rfl, List.getElem?_append_right (Nat.le_refl _)]; simp
      · rw [if_neg (by omega), if_neg (by omega), List.getElem?_eq_none (by simp; omega)]; rfl
    refine ⟨fun j => if j = xss.length then q else QQ j, fun j => if j = xss.length then m else C j, ?_, fun j hj => ?_⟩
    · have e := map_snoc xss.length (fun j => Value.slice (some ⟨if j = xss.length then q else QQ j, 0, none⟩) ((xss ++ [ys]).getD j []).length (if j = xss.length then m else C j)) (fun j => .slice (some ⟨QQ j, 0, none⟩) (xss.getD j []).length (C j)) (.slice (some ⟨q, 0, none⟩) ys.length m)
        (fun j hj => by rw [if_neg (by omega), if_neg (by omega), hg, if_pos hj]) (by rw [if_pos rfl, if_pos rfl, hg, if_neg (by omega), if_pos rfl])
      have hl : (xss ++ [ys]).length = xss.length + 1 := by rw [List.length_append, List.length_singleton]
      rw [hl, e]
      exact k1
    · dsimp only
      rw [hg]
      rw [List.length_append, List.length_singleton] at hj
      by_cases e : j = xss.length
      · rw [if_pos e, if_neg (by omega), if_pos e]
        exact ⟨hkeep hr, hq⟩
      · rw [if_neg e, if_pos (by omega)]
        exact ⟨hkeep (h2 j (by omega)).1, (h2 j (by omega)).2⟩
end Go.Proofs.Ytcafeffgaokiaaa
namespace Go.Proofs.Ytcafeffgaokiaaa
open Go.RowKit

theorem below_grown0 {W W' : World} (h : Below W.heap.size W W') : W.grownBy W' none := by
  obtain ⟨h1, h2, h3, h4, h5⟩ := h
  exact ⟨h1, h2, h3, h4, fun k hk _ => h5 k hk⟩
theorem cell_of_block {W W' : World} {b : Nat} (h : W'.heap[b]? = W.heap[b]?) (o : Nat) : W'.cell? ⟨b, o, none⟩ = W.cell? ⟨b, o, none⟩ := by simp [World.cell?, h]
theorem frozen_of_block {W W' : World} {b : Nat} (h : W'.heap[b]? = W.heap[b]?) (o : Nat) : W'.frozen? ⟨b, o, none⟩ = W.frozen? ⟨b, o, none⟩ := by simp [World.frozen?, h]
/-- An invariant that does not mind new blocks, nor a turn of a block of which T holds. -/
def AbT {β : Type} (T : Nat → World → Prop) (J : β → World → Prop) : Prop := ∀ s W W' row, J s W → W.grownBy W' row → (∀ r, row = some r → T r W) → J s W'
/-- The contract of an iterator: what it gives (G: behind pre it may give x), what has come when it ends (S); its own steps lay new blocks, or turn blocks of which T holds; Kp: what a round keeps. -/
def SeqT {α : Type} (P : Program) (n g : Nat) (lb : Array Value) (encs : α → Array Value) (G : List α → α → World → Prop) (S : List α → Prop) (T : Nat → World → Prop) (Kp : World → World → Prop) (Pre : World → Prop) : Prop :=
  ∀ (l : Nat) (J Jx : List α → World → Prop) (W : World), Pre W → AbT T J → AbT T Jx →
    (∀ pre x W1, J pre W1 → G pre x W1 → YieldAt Fence.wide (n - 1) P l (encs x) W1 fun e W' => (e = .returned (.bool true) ∧ J (pre ++ [x]) W' ∧ Kp W1 W') ∨ (e = .returned (.bool false) ∧ Jx (pre ++ [x]) W')) →
    J [] W →
    CallsIn Fence.wide n P g (#[.func (.yield l) #[] #[]] ++ lb) W fun e W' => (∃ v, e = .returned v) ∧ ((∃ xs, S xs ∧ J xs W') ∨ ∃ pre, Jx pre W')
/-- How the body of a round may be left. -/
def postT {α : Type} (B : Nat) (Kp : World → World → Prop) (I : List α → World → Prop) (Ix : Code → List α → World → Prop) (k : List α) (W : World) : Exit → Act → World → Prop
  | .normal, _, W' => KeepsFrom B W W' ∧ Kp W W' ∧ I k W'
  | .ret, _, W' => KeepsFrom B W W' ∧ Ix .ret k W'
  | .exit id, _, W' => KeepsFrom B W W' ∧ Ix (.exit id) k W'
  | .goto t, _, W' => KeepsFrom B W W' ∧ Ix (.goto t) k W'
  | .panic _, _, _ => False
  | .outgrown, _, _ => False
/-- What the caller's invariants abide: new blocks; a turn of a block of no cells from B on; a turn of a block of which T holds. -/
def TurnT (B : Nat) (T : Nat → World → Prop) (r : Nat) (W : World) : Prop := T r W ∨ (B ≤ r ∧ ∃ o : Obj, W.heap[r]? = some o ∧ o.isCells = false)

theorem AbT.putObj {β : Type} {B : Nat} {T : Nat → World → Prop} {I : β → World → Prop} (h : AbT (TurnT B T) I) {s : β} {W : World} {l : Nat} {o : Obj} (o' : Obj) (hs : I s W) (hB : B ≤ l) (hl : W.heap[l]? = some o) (ho : o.isCells = false) : I s (W.putObj l o') :=
  h s W _ (some l) hs (grownBy_putObj' W l o') (fun r e => by cases e; exact .inr ⟨hB, o, hl, ho⟩)
theorem AbT.alloc {β : Type} {T : Nat → World → Prop} {I : β → World → Prop} (h : AbT T I) {s : β} {W : World} (o : Obj) (hs : I s W) : I s (W.alloc o) :=
  h s W _ none hs (World.grownBy_alloc W o none) (fun r e => by cases e)

theorem rangeT {α : Type} {P : Program} {n : Nat} {g : Operand} {ps : Array Tmp} {assign body : Code} {Q : Exit → Act → World → Prop} {a : Act} {w : World}
    (h1 : 1 ≤ n) {gf : Nat} {lb : Array Value} (hg : a.eval g = .func (.func gf) #[] lb) (eg : ∀ args w, (callFunc gf args).run P w = .ok (.enter gf args) w)
    {encs : α → Array Value} {G : List α → α → World → Prop} {S : List α → Prop} {T : Nat → World → Prop} {Kp : World → World → Prop} {Pre : World → Prop} (hseq : SeqT P (n - 1) gf lb encs G S T Kp Pre)
    (hT : ∀ r W, T r W → r < w.heap.size)
    (hKt : ∀ {A B C : World}, Kp A B → Kp B C → Kp A C) (hKb : ∀ (W : World) (l : Nat) (o o' : Obj), w.heap.size ≤ l → W.heap[l]? = some o → o.isCells = false → Kp W (W.putObj l o'))
    (hPre : ∀ W, Below w.heap.size w W → Pre W) (hps : ∀ x, (encs x).size = ps.size)
    (hG : ∀ x, AbT (TurnT w.heap.size T) (fun pre => G pre x)) (I : List α → World → Prop) (Ix : Code → List α → World → Prop) (hI : AbT (TurnT w.heap.size T) I) (hIx : ∀ c, AbT (TurnT w.heap.size T) (Ix c)) (h0 : I [] w) (a₁ : α → Act)
    (hassign : ∀ (l : Nat) (x : α) (W : World) (K : Act → World → Prop), K (a₁ x) W →
      assign.wpIn (Fence.wide.inRound l) (n - 1 - 1) P (Exit.then K (fun _ _ _ => False)) { tmps := (ps.zip (encs x)).foldl (fun t (p, v) => t.setIfInBounds p v) a.tmps, defers := [] } W)
    (hbody : ∀ (l : Nat) (pre : List α) (x : α) (W : World), I pre W → G pre x W → body.wpIn (Fence.wide.inRound l) (n - 1 - 1) P (postT w.heap.size Kp I Ix (pre ++ [x]) W) (a₁ x) W)
    (hdone : ∀ (D : Nat) (xs : List α) (W : World), w.heap.size ≤ D → S xs → I xs W → W.heap[D]? = some (.deferred (some [])) → Q .normal { a with defers := { target := .collected D, args := #[] } :: a.defers } W)
    (hstop : ∀ (D : Nat) (c : Code) (pre : List α) (W : World), w.heap.size ≤ D → Ix c pre W → W.heap[D]? = some (.deferred (some [])) → c.wpIn Fence.wide n P Q { a with defers := { target := .collected D, args := #[] } :: a.defers } W) :
    (Code.rangeFunc g ps assign body).wpIn Fence.wide n P Q a w := by
  refine wpIn_rangeFunc ?_
  intro fn hfn
  rw [show Fence.wide.round = none from rfl]
  obtain ⟨rec, hrec⟩ : ∃ rec : LoopState → Option Code → Loop, rec = fun st pe => { state := st, pending := pe, fn, tmps := a.tmps, params := ps, assign, body, defers := w.heap.size } := ⟨_, rfl⟩
  obtain ⟨W1, hW1⟩ : ∃ W1, (w.alloc (.deferred (some []))).alloc (.loop (rec .ready none)) = W1 := ⟨_, rfl⟩
  have hL1 : W1.heap[w.heap.size + 1]? = some (.loop (rec .ready none)) := by
    rw [← hW1]; have := World.alloc_heap_new (w.alloc (.deferred (some []))) (.loop (rec .ready none)); rwa [World.size_alloc] at this
  have hK1 : W1.heap[w.heap.size]? = some (.deferred (some [])) := by
    rw [← hW1]; exact (Below.heap_alloc _ _ _ (by simp)).trans (World.alloc_heap_new w _)
  have hI1 : I [] W1 := by rw [← hW1]; exact hI.alloc _ (hI.alloc _ h0)
  have hb1 : Below w.heap.size w W1 := by
    rw [← hW1]; exact ((Below.refl _ w).alloc (Nat.le_refl _) _).alloc (by simp) _
  refine ⟨w.heap.size + 1, [{ target := .collected w.heap.size, args := #[] }], W1, { target := .fn (.func gf) lb, args := #[.func (.yield (w.heap.size + 1)) #[] #[]] }, W1, gf,
    #[.func (.yield (w.heap.size + 1)) #[] #[]] ++ lb, W1, ?_, ?_, fun _ _ => trivial, ?_, fun _ => h1, ?_⟩
  · rw [← hW1, hrec]; exact run_enterLoop_outer _ _ _ _ _
  · simp only [resolve, hg]
    simp [go_sem]
  · simp [invoke, go_sem, eg]
  · have hkp : ∀ {A B : World} {row : Option Nat} {k : Nat} {o : Obj}, A.grownBy B row → (∀ r, row = some r → T r A) → w.heap.size ≤ k → A.heap[k]? = some o → B.heap[k]? = some o := fun hg' hr hk ho =>
      (hg'.block _ (Array.getElem?_eq_some_iff.1 ho).1 (fun e => by have := hT _ _ (hr _ e.symm); omega)).trans ho
    refine (hseq (w.heap.size + 1)
      (fun k W => I k W ∧ W.heap[w.heap.size + 1]? = some (.loop (rec .ready none)) ∧ W.heap[w.heap.size]? = some (.deferred (some [])))
      (fun k W => ∃ c, Ix c k W ∧ W.heap[w.heap.size + 1]? = some (.loop (rec .done (some c))) ∧ W.heap[w.heap.size]? = some (.deferred (some [])))
      W1 (hPre _ hb1)
      (fun s A B row hs hg' hr => ⟨hI s A B row hs.1 hg' (fun r e => .inl (hr r e)), hkp hg' hr (by omega) hs.2.1, hkp hg' hr (Nat.le_refl _) hs.2.2⟩)
      (fun s A B row hs hg' hr => by
        obtain ⟨c, hc, hl, hk⟩ := hs
        exact ⟨c, hIx c s A B row hc hg' (fun r e => .inl (hr r e)), hkp hg' hr (by omega) hl, hkp hg' hr (Nat.le_refl _) hk⟩)
      ?_ ⟨hI1, hL1, hK1⟩).mono ?_
    · rintro k x W ⟨hi, hl, hk⟩ hgx
      have hlt : w.heap.size + 1 < W.heap.size := (Array.getElem?_eq_some_iff.1 hl).1
      have hy := run_yield (P := P) (args := encs x) hl (by rw [hrec]; exact hps x)
      rw [hrec] at hy
      refine ⟨fn, _, assign, body, hy, roundIn_of_wpIn hfn (hassign _ x W _ ⟨_, run_beginRound hl (by rw [hrec]), ?_⟩)⟩
      have hl2 : (W.putObj (w.heap.size + 1) (.loop { rec .ready none with state := .busy })).heap[w.heap.size + 1]? = some (.loop { rec .ready none with state := .busy }) := World.putObj_heap_same hlt
      have hk2 : (W.putObj (w.heap.size + 1) (.loop { rec .ready none with state := .busy })).heap[w.heap.size]? = some (.deferred (some [])) := (World.putObj_heap_other (by omega)).trans hk
      have hw2 : Kp W (W.putObj (w.heap.size + 1) (.loop { rec .ready none with state := .busy })) := hKb _ _ _ _ (by omega) hl rfl
      refine wpIn_mono (hbody _ k x _ (hI.putObj _ hi (by omega) hl rfl) ((hG x).putObj _ hgx (by omega) hl rfl)) ?_
      have fin : ∀ (jump : Option Code) (W3 : World), KeepsFrom w.heap.size (W.putObj (w.heap.size + 1) (.loop { rec .ready none with state := .busy })) W3 →
          (Instr.endRound (w.heap.size + 1) jump).run P W3 = .ok (.bool jump.isNone) (W3.putObj (w.heap.size + 1) (.loop (rec (if jump.isNone then .ready else .done) jump))) ∧
          W3.heap[w.heap.size + 1]? = some (.loop { rec .ready none with state := .busy }) ∧
          (W3.putObj (w.heap.size + 1) (.loop (rec (if jump.isNone then .ready else .done) jump))).heap[w.heap.size + 1]? = some (.loop (rec (if jump.isNone then .ready else .done) jump)) ∧
          (W3.putObj (w.heap.size + 1) (.loop (rec (if jump.isNone then .ready else .done) jump))).heap[w.heap.size]? = some (.deferred (some [])) := fun jump W3 hk3 => by
        have hl3 := hk3.same _ _ (by omega) hl2 rfl
        have := run_endRound (P := P) jump hl3
        rw [hrec] at this ⊢
        exact ⟨this, by rw [hrec] at hl3; exact hl3, World.putObj_heap_same (Array.getElem?_eq_some_iff.1 hl3).1, (World.putObj_heap_other (by omega)).trans (hk3.same _ _ (Nat.le_refl _) hk2 rfl)⟩
      rintro e a3 W3 hp
      cases e with
      | normal =>
        obtain ⟨hk3, hkp3, hi3⟩ := hp
        obtain ⟨hr, hl3, hl4, hk4⟩ := fin none W3 hk3
        exact ⟨_, _, hr, .inl ⟨rfl, ⟨hI.putObj _ hi3 (by omega) hl3 rfl, hl4, hk4⟩, hKt (hKt hw2 hkp3) (hKb _ _ _ _ (by omega) hl3 rfl)⟩⟩
      | ret =>
        obtain ⟨hk3, hi3⟩ := hp
        obtain ⟨hr, hl3, hl4, hk4⟩ := fin (some .ret) W3 hk3
        exact ⟨_, _, hr, .inr ⟨rfl, .ret, (hIx _).putObj _ hi3 (by omega) hl3 rfl, hl4, hk4⟩⟩
      | exit id =>
        obtain ⟨hk3, hi3⟩ := hp
        obtain ⟨hr, hl3, hl4, hk4⟩ := fin (some (.exit id)) W3 hk3
        exact ⟨_, _, hr, .inr ⟨rfl, .exit id, (hIx _).putObj _ hi3 (by omega) hl3 rfl, hl4, hk4⟩⟩
      | goto t =>
        obtain ⟨hk3, hi3⟩ := hp
        obtain ⟨hr, hl3, hl4, hk4⟩ := fin (some (.goto t)) W3 hk3
        exact ⟨_, _, hr, .inr ⟨rfl, .goto t, (hIx _).putObj _ hi3 (by omega) hl3 rfl, hl4, hk4⟩⟩
      | panic ch => exact hp.elim
      | outgrown => exact hp.elim
    · rintro e W2 ⟨⟨v, rfl⟩, (⟨xs, hS, hi, hl, hk⟩ | ⟨k, c, hi, hl, hk⟩)⟩
      · exact ⟨none, _, by have := run_endLoop (P := P) hl (by rw [hrec]; simp); rw [hrec] at this; exact this, hdone _ _ _ (Nat.le_refl _) hS (hI.putObj _ hi (by omega) hl rfl) ((World.putObj_heap_other (by omega)).trans hk)⟩
      · exact ⟨some c, _, by have := run_endLoop (P := P) hl (by rw [hrec]; simp); rw [hrec] at this; exact this, hstop _ c k _ (Nat.le_refl _) ((hIx c).putObj _ hi (by omega) hl rfl) ((World.putObj_heap_other (by omega)).trans hk)⟩
/-- .. in the plain walk. -/
theorem rangeW {α : Type} {P : Program} {g : Operand} {ps : Array Tmp} {assign body : Code} {Q : Exit → Act → World → Prop} {a : Act} {w : World}
    {gf : Nat} {lb : Array Value} (hg : a.eval g = .func (.func gf) #[] lb) (eg : ∀ args w, (callFunc gf args).run P w = .ok (.enter gf args) w)
    {encs : α → Array Value} {G : List α → α → World → Prop} {S : List α → Prop} {T : Nat → World → Prop} {Kp : World → World → Prop} {Pre : World → Prop} (hseq : SeqT P 3 gf lb encs G S T Kp Pre)
    (hT : ∀ r W, T r W → r < w.heap.size)
    (hKt : ∀ {A B C : World}, Kp A B → Kp B C → Kp A C) (hKb : ∀ (W : World) (l : Nat) (o o' : Obj), w.heap.size ≤ l → W.heap[l]? = some o → o.isCells = false → Kp W (W.putObj l o'))
    (hPre : ∀ W, Below w.heap.size w W → Pre W) (hps : ∀ x, (encs x).size = ps.size)
    (hG : ∀ x, AbT (TurnT w.heap.size T) (fun pre => G pre x)) (I : List α → World → Prop) (Ix : Code → List α → World → Prop) (hI : AbT (TurnT w.heap.size T) I) (hIx : ∀ c, AbT (TurnT w.heap.size T) (Ix c)) (h0 : I [] w) (a₁ : α → Act)
    (hassign : ∀ (l : Nat) (x : α) (W : World) (K : Act → World → Prop), K (a₁ x) W →
      assign.wpIn (Fence.wide.inRound l) 2 P (Exit.then K (fun _ _ _ => False)) { tmps := (ps.zip (encs x)).foldl (fun t (p, v) => t.setIfInBounds p v) a.tmps, defers := [] } W)
    (hbody : ∀ (l : Nat) (pre : List α) (x : α) (W : World), I pre W → G pre x W → body.wpIn (Fence.wide.inRound l) 2 P (postT w.heap.size Kp I Ix (pre ++ [x]) W) (a₁ x) W)
    (hdone : ∀ (D : Nat) (xs : List α) (W : World), w.heap.size ≤ D → S xs → I xs W → W.heap[D]? = some (.deferred (some [])) → Q .normal { a with defers := { target := .collected D, args := #[] } :: a.defers } W)
    (hstop : ∀ (D : Nat) (c : Code) (pre : List α) (W : World), w.heap.size ≤ D → Ix c pre W → W.heap[D]? = some (.deferred (some [])) → c.wp P Q { a with defers := { target := .collected D, args := #[] } :: a.defers } W) :
    (Code.rangeFunc g ps assign body).wp P Q a w :=
  wpIn_wide.1 (rangeT (n := 4) (by decide) hg eg hseq hT hKt hKb hPre hps hG I Ix hI hIx h0 a₁ hassign hbody hdone (fun D c pre W h1 h2 h3 => wpIn_wide.2 (hstop D c pre W h1 h2 h3)))
/-- A function that holds a range over a function: its contract from its body. -/
theorem calls_marks {P : Program} {f : FuncId} {fn : Func} {c : Code} {args : Array Value} {w : World} {R : Ending → World → Prop} (hf : P.funcs[f]? = some fn) (hb : fn.body = some c)
    (h : c.wp P (bodyPostM Fence.wide 4 P fn R) { tmps := args ++ Array.replicate (fn.ntmps - args.size) undef, defers := [] } w) : Calls P f args w R :=
  (callsIn_wide (n := 4)).1 (callsIn_of_wp_marks hf hb trivial (wpIn_wide.2 h) rfl)
end Go.Proofs.Ytcafeffgaokiaaa
