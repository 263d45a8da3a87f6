/- propagation.replacements: the function that it returns, for a range; what a range over it keeps. A map from strings to ints, by the pairs that were laid in. -/
import Derived.Test.YtcafeffgaokiaaaK21
import Derived.Test.YtcafeffgaokiaaaK18
import Derived.Test.YtcafeffgaokiaaaK22
import Derived.Test.YtcafeffgaokiaaaK23
import Derived.RangeFuncBox
import Derived.Test.YtcafeffgaokiaaaK20
import Derived.Maps.OwnSet
import Derived.Maps.RangeWalk
import Derived.Sort.KeysCollected
namespace Go.Proofs.Ytcafeffgaokiaaa
open Go.RowKit
theorem repls_any (L b i : Int) (p : Option Addr) (r c : Nat) (dl db di dp df : Int) (da : Option Addr) (dn dc : Nat) (n : Int) (W : World) :
    Calls Try.prog 45 #[.agg #[.int .i64 L, .int .i64 b, .int .i64 i, .slice p r c], .agg #[.int .i64 dl, .int .i64 db, .int .i64 di, .int .i64 dp, .int .i64 df, .slice da dn dc], .int .i64 n] W fun e w' =>
      e = .returned (.func (.func 69) #[] #[.pointer (some ⟨W.heap.size, 0, none⟩), .pointer (some ⟨W.heap.size + 1 + 1, 0, none⟩), .pointer (some ⟨W.heap.size + 1, 0, none⟩)]) ∧
      w' = ((W.alloc (.cells #[.int .i64 L, .int .i64 b, .int .i64 i, .slice p r c] 24)).alloc (.cells #[.int .i64 dl, .int .i64 db, .int .i64 di, .int .i64 dp, .int .i64 df, .slice da dn dc] 30)).alloc (.cells #[.int .i64 n] 3) := by
  go_enter Try.func45, Try.ntmps45
  go_wp2
  go_ret
  exact ⟨rfl, rfl⟩
/-- What a range over the replacements finds. -/
def RpPre (w0 : World) (B1 hi be bn bd : Nat) (L b i : Int) (m : EM) (p : Option Addr) (c n : Nat) (db di dp df : Int) (da : Option Addr) (dn dc : Nat) (W : World) : Prop :=
  B1 ≤ W.heap.size ∧ hi ≤ W.heap.size ∧ Low w0 W ∧ EBox W be L b i m p c ∧ W.cell? ⟨bn, 0, none⟩ = some (.int .i64 (n : Int)) ∧ DBox W bd L db di dp df da dn dc
theorem repl_seq (w0 : World) (B1 lo hi : Nat) (be bn bd : Nat) (hlo : w0.heap.size ≤ lo) (h3 : hi ≤ be) (h4 : hi ≤ bn) (h5 : hi ≤ bd) (L : Nat) (b i : Int) (m : EM) (p : Option Addr) (c : Nat) (I B n : Nat) (hAt : m.At w0 p) (hm : m.Ok I B) (hI : I ≤ 256) (hr : m.r ≤ 64) (hn : n ≤ 16) (hB : B ≤ 16)
    (db di dp df : Int) (es : List Ent) (da : Option Addr) (dc : Nat) (hEs : EntsAt w0 da es) (hwins : WinsFit es) (hL16 : L ≤ 16) (hok : ∀ x ∈ wordsE m n, decErr (L : Int) db di dp df es x = 0) :
    SeqX Try.prog 0 69 #[.pointer (some ⟨be, 0, none⟩), .pointer (some ⟨bn, 0, none⟩), .pointer (some ⟨bd, 0, none⟩)] encR (fun pre x _ => ∃ post, pre ++ x :: post = rpE (decOut (L : Int) db di dp df es) L (wordsE m n)) (fun xs => xs = rpE (decOut (L : Int) db di dp df es) L (wordsE m n)) (TB B1) (KpO B1 lo hi) (KeepsFrom B1) (RpPre w0 B1 hi be bn bd L b i m p c n db di dp df da es.length dc) :=
  fun l J Jx W hP hJ hJx hY h0 => repl_in w0 B1 lo hi l be bn bd hlo (.inr h3) (.inr h4) (.inr h5) L b i m p c I B n hAt hm hI hr hn hB db di dp df es da dc hEs hwins hL16 hok J Jx hJ hJx hY W hP.1 hP.2.1 hP.2.2.1 hP.2.2.2.1 hP.2.2.2.2.1 hP.2.2.2.2.2 h0
theorem tb_boxed {C B u : Nat} {t : TypeId} {v : Value} {W W' : World} {row : Option Nat} (h : Boxed W u t v) (hg : W.grownBy W' row) (hr : ∀ r, row = some r → TurnT C (TB B) r W) : Boxed W' u t v := by
  refine h.kept hg fun e => ?_
  rcases hr u e.symm with ⟨_, o, ho, hc⟩ | ⟨_, o, ho, hc⟩
  · rw [show W.heap[u]? = _ from h] at ho; cases ho; cases hc
  · rw [show W.heap[u]? = _ from h] at ho; cases ho; cases hc
theorem tb_cells {C B u : Nat} {o1 : Obj} {W W' : World} {row : Option Nat} (h : W.heap[u]? = some o1) (hc1 : o1.isCells = true) (hg : W.grownBy W' row) (hr : ∀ r, row = some r → TurnT C (TB B) r W) : W'.heap[u]? = some o1 := by
  have hlt := (Array.getElem?_eq_some_iff.1 h).1
  refine (hg.block u hlt fun e => ?_).trans h
  rcases hr u e.symm with ⟨_, o, ho, hc⟩ | ⟨_, o, ho, hc⟩
  · rw [h] at ho; cases ho; rw [hc1] at hc; cases hc
  · rw [h] at ho; cases ho; rw [hc1] at hc; cases hc
theorem tb_below {C B S : Nat} {w W W' : World} {row : Option Nat} (h : Below S w W) (hs : S ≤ W.heap.size) (hg : W.grownBy W' row) (hr : ∀ r, row = some r → TurnT C (TB B) r W) (hC : S ≤ C) (hB : S ≤ B) : Below S w W' :=
  h.grown hg hs fun k e => by
    rcases hr k e with ⟨h1, _⟩ | ⟨h1, _⟩
    · exact Nat.le_trans hB h1
    · exact Nat.le_trans hC h1
theorem KpO.setCell {B lo hi g : Nat} (W : World) (j : Nat) (v : Value) (h1 : lo ≤ g) (h2 : g < hi) : KpO B lo hi W (W.setCell ⟨g, j, none⟩ v) :=
  ⟨⟨by simp, fun b o hb ho hc => by rw [Below.heap_setCell W ⟨g, j, none⟩ v b (by show b ≠ g; omega)]; exact ho⟩, (KeepsOthers.setCell _ _ _).from _⟩
end Go.Proofs.Ytcafeffgaokiaaa
namespace Go.Proofs.Ytcafeffgaokiaaa
open Go.RowKit Go.Maps
theorem ba_same {a b : ByteArray} (h : a.data.toList = b.data.toList) : a = b := by
  cases a; cases b; congr 1; exact Array.toList_inj.1 h
def kyL (w : ByteArray) : Lit := .string w.data.toList
theorem kyL_inj {a b : ByteArray} (h : kyL a = kyL b) : a = b := by
  unfold kyL at h
  exact ba_same (by injection h)
theorem kyL_key (w : ByteArray) : WideAt.IsKeyLit (kyL w) := by
  unfold kyL WideAt.IsKeyLit; trivial
def inD (i : Nat) : DataW Unit := .lit (.int .i64 (i : Int))
/-- What the map holds: of each key that was laid in, what was laid in. -/
def MapOf (D : DataW Unit) (ps : List (ByteArray × Nat)) : Prop :=
  IsMap D ∧ (∀ w : ByteArray, has D (kyL w) = true ↔ ∃ i, (w, i) ∈ ps) ∧ ∀ (w : ByteArray) (i : Nat) (z : DataW Unit), (w, i) ∈ ps → D.atKey (kyL w) z = inD i
theorem mapOf_nil : MapOf (.map []) [] := by
  refine ⟨isMap_empty, fun w => ⟨fun h => ?_, fun ⟨i, h⟩ => by cases h⟩, fun w i z h => by cases h⟩
  rw [has_eq] at h
  cases h
theorem mapOf_put {D : DataW Unit} {ps : List (ByteArray × Nat)} (h : MapOf D ps) {w : ByteArray} {i : Nat} (hc : ∀ j, (w, j) ∈ ps → j = i) : MapOf (D.put (kyL w) (inD i)) (ps ++ [(w, i)]) := by
  obtain ⟨h1, h2, h3⟩ := h
  refine ⟨h1.put _ _, fun v => ?_, fun v j z hv => ?_⟩
  · by_cases e : v = w
    · subst e
      rw [has_put_same h1 (kyL_key v)]
      exact ⟨fun _ => ⟨i, by simp⟩, fun _ => rfl⟩
    · rw [has_put_other (fun h => e (kyL_inj h)), h2]
      constructor
      · rintro ⟨j, hj⟩; exact ⟨j, List.mem_append_left _ hj⟩
      · rintro ⟨j, hj⟩
        rcases List.mem_append.1 hj with hj | hj
        · exact ⟨j, hj⟩
        · simp at hj; exact absurd hj.1 e
  · by_cases e : v = w
    · subst e
      rw [atKey_put_same h1 (kyL_key v)]
      rcases List.mem_append.1 hv with hj | hj
      · rw [hc j hj]
      · simp at hj; rw [hj]
    · rw [atKey_put_other (fun h => e (kyL_inj h))]
      rcases List.mem_append.1 hv with hj | hj
      · exact h3 v j z hj
      · simp at hj; exact absurd hj.1 e
/-- No two pairs of one window and two inputs. -/
def Cons (ps : List (ByteArray × Nat)) : Prop := ∀ w i j, (w, i) ∈ ps → (w, j) ∈ ps → i = j
theorem mapOf_cons {D : DataW Unit} {ps : List (ByteArray × Nat)} (h : MapOf D ps) : Cons ps := fun w i j hi hj => by
  have h1 := h.2.2 w i (.lit .nil) hi
  rw [h.2.2 w j (.lit .nil) hj] at h1
  unfold inD at h1
  injection h1 with h1
  injection h1 with _ h1
  omega
/-- What a look-up says. -/
theorem mapOf_look {D : DataW Unit} {ps : List (ByteArray × Nat)} (h : MapOf D ps) {w : ByteArray} {c : Int} (hat : D.atKey (kyL w) (.lit (.int .i64 0)) = .lit (.int .i64 c)) {i : Nat} :
    (has D (kyL w) = true ∧ c ≠ (i : Int) → ∃ j, (w, j) ∈ ps ∧ j ≠ i) ∧ (¬ (has D (kyL w) = true ∧ c ≠ (i : Int)) → ∀ j, (w, j) ∈ ps → j = i) := by
  have key : ∀ j, (w, j) ∈ ps → c = (j : Int) := fun j hj => by
    have h1 := h.2.2 w j (.lit (.int .i64 0)) hj
    rw [hat] at h1
    unfold inD at h1
    injection h1 with h1
    injection h1
  constructor
  · rintro ⟨h1, h2⟩
    obtain ⟨j, hj⟩ := (h.2.1 w).1 h1
    exact ⟨j, hj, fun e => h2 (by rw [key j hj, e])⟩
  · intro h1 j hj
    have h2 := key j hj
    exact Classical.byContradiction fun h3 => h1 ⟨(h.2.1 w).2 ⟨j, hj⟩, by omega⟩
theorem lawS : Keyed Try.prog 9 := string_keyed Try.underlying9
theorem zeroI (w : World) : (zeroValue 3).run Try.prog w = .ok (.int .i64 0) w := by kernel_rfl
theorem keyS {w : ByteArray} (h : w.size ≤ maxLen) : keyOf Try.prog 9 (.string w) = some (kyL w) := WideMaps.keyOf_string_mk Try.underlying9 h
/-- The map as the program has it. -/
def OwnM (W : World) (B n : Nat) (D : DataW Unit) : Prop := W.ownsMap Try.prog 9 (plainElem Try.prog 3) B n D
theorem OwnM.of_block {W W' : World} {B n : Nat} {D : DataW Unit} (h : OwnM W B n D) (hb : W'.heap[B]? = W.heap[B]?) : OwnM W' B n D := by
  obtain ⟨es, clock, h1, h2⟩ := h
  exact ⟨es, clock, hb.trans h1, h2⟩
def RngM (W : World) (B r n : Nat) (D : DataW Unit) (left : Lit → Bool) (cnt : Nat) : Prop := W.ranges Try.prog 9 (plainElem Try.prog 3) B r n D left cnt
theorem RngM.of_block {W W' : World} {B r n cnt : Nat} {D : DataW Unit} {left : Lit → Bool} (h : RngM W B r n D left cnt) (hb : W'.heap[B]? = W.heap[B]?) (hr : W'.heap[r]? = W.heap[r]?) : RngM W' B r n D left cnt := by
  obtain ⟨es, clock, since, seen, c0, h1, h2, h3, h4, h5, h6⟩ := h
  exact ⟨es, clock, since, seen, c0, hb.trans h1, h2, h3, h4, hr.trans h5, h6⟩
theorem OwnM.obj {W : World} {B n : Nat} {D : DataW Unit} (h : OwnM W B n D) : ∃ o, W.heap[B]? = some o ∧ o.isCells = false := by
  obtain ⟨es, clock, h1, h2⟩ := h
  exact ⟨_, h1, rfl⟩
theorem RngM.obj {W : World} {B r n cnt : Nat} {D : DataW Unit} {left : Lit → Bool} (h : RngM W B r n D left cnt) : ∃ o, W.heap[r]? = some o ∧ o.isCells = false := by
  obtain ⟨es, clock, since, seen, c0, h1, h2, h3, h4, h5, h6⟩ := h
  exact ⟨_, h5, rfl⟩
/-- The entries that have come: in the map, no key twice; what is still to come is the rest. -/
def Came (D : DataW Unit) (left : Lit → Bool) (xs : List (ByteArray × Nat)) : Prop :=
  (∀ x ∈ xs, ∀ z, has D (kyL x.1) = true ∧ D.atKey (kyL x.1) z = inD x.2) ∧ (xs.map (·.1)).Nodup ∧ ∀ w : ByteArray, left (kyL w) = true ↔ has D (kyL w) = true ∧ w ∉ xs.map (·.1)
theorem came_nil (D : DataW Unit) : Came D (has D) [] := ⟨(fun x hx => absurd hx (by simp)), List.nodup_nil, fun w => by simp⟩
theorem came_step {D : DataW Unit} {left : Lit → Bool} {xs : List (ByteArray × Nat)} (h : Came D left xs) {w : ByteArray} {i : Nat} (hl : left (kyL w) = true) (hat : ∀ z, D.atKey (kyL w) z = inD i) : Came D (fun z => left z && !z.sameKey (kyL w)) (xs ++ [(w, i)]) := by
  obtain ⟨h1, h2, h3⟩ := h
  obtain ⟨h4, h5⟩ := (h3 w).1 hl
  refine ⟨fun x hx z => ?_, ?_, fun v => ?_⟩
  · rcases List.mem_append.1 hx with hx | hx
    · exact h1 x hx z
    · rw [List.mem_singleton] at hx; subst hx; exact ⟨h4, hat z⟩
  · rw [List.map_append, List.map_cons, List.map_nil, List.nodup_append]
    refine ⟨h2, by simp, ?_⟩
    intro a ha b hb
    rw [List.mem_singleton] at hb
    subst hb
    intro e
    subst e
    exact h5 ha
  · rw [Bool.and_eq_true, h3]
    by_cases e : v = w
    · subst e
      have : (kyL v).sameKey (kyL v) = true := WideAt.sameKey_self (kyL_key v)
      simp [this]
    · have : (kyL v).sameKey (kyL w) = false := sameKey_ne fun h => e (kyL_inj h)
      simp [this, e]
theorem came_fresh {D : DataW Unit} {left : Lit → Bool} {xs : List (ByteArray × Nat)} (h : Came D left xs) {w : ByteArray} (hl : left (kyL w) = true) : has D (kyL w) = true ∧ w ∉ xs.map (·.1) := (h.2.2 w).1 hl
/-- All entries, each once: the pairs that were laid in. -/
def Full (ps xs : List (ByteArray × Nat)) : Prop := (∀ y, y ∈ xs ↔ y ∈ ps) ∧ (xs.map (·.1)).Nodup
theorem came_end {D : DataW Unit} {left : Lit → Bool} {xs ps : List (ByteArray × Nat)} (h : Came D left xs) (hl : ∀ k, left k = false) (hM : MapOf D ps) : Full ps xs := by
  obtain ⟨h1, h2, h3⟩ := h
  have inj : ∀ i j : Nat, inD i = inD j → i = j := fun i j h => by
    unfold inD at h
    injection h with h
    injection h with _ h
    omega
  refine ⟨fun y => ⟨fun hy => ?_, fun hy => ?_⟩, h2⟩
  · obtain ⟨a, b⟩ := h1 y hy (.lit .nil)
    obtain ⟨j, hj⟩ := (hM.2.1 y.1).1 a
    have e := hM.2.2 y.1 j (.lit .nil) hj
    rw [b] at e
    have := inj _ _ e
    rw [← this] at hj
    exact hj
  · have h4 : has D (kyL y.1) = true := (hM.2.1 y.1).2 ⟨y.2, hy⟩
    have h5 : y.1 ∈ xs.map (·.1) := by
      refine Classical.byContradiction fun h6 => ?_
      have := (h3 y.1).2 ⟨h4, h6⟩
      rw [hl] at this
      cases this
    obtain ⟨x, hx, e⟩ := List.mem_map.1 h5
    have e1 := (h1 x hx (.lit .nil)).2
    have e2 := hM.2.2 y.1 y.2 (.lit .nil) hy
    rw [e] at e1
    rw [e1] at e2
    have e3 := inj _ _ e2
    have : x = y := by cases x; cases y; simp at e e3; rw [e, e3]
    rw [← this]; exact hx
end Go.Proofs.Ytcafeffgaokiaaa
