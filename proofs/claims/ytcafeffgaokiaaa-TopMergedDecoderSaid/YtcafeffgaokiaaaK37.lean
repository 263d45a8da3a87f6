/- The map of reduction.classes: its keys, clear, one pass over the states: plain. -/
import Derived.Test.YtcafeffgaokiaaaK24
import Derived.Test.YtcafeffgaokiaaaK29
import Derived.DeepKeys4
import Derived.MapViews
import Derived.Deep.OwnRows
import Derived.Laws.OwnMore
namespace Go.Proofs.Ytcafeffgaokiaaa
open Go.RowKit Go.Maps
theorem laidF : laidOutB Try.prog = true := by kernel_rfl
theorem rowF : (142 : TypeId) < Try.prog.types.size := of_decide_eq_true (by kernel_rfl)
theorem wideK : (match Try.prog.underlying 142 with | some (.array _ _) | some (.struct _) => true | _ => false) = true := by rw [Try.underlying142]
set_option maxRecDepth 100000 in
theorem lawF : Keyed Try.prog 142 := Keyed.of_law (deep_law_laid laidF (m := 2) (by decide) rowF (by kernel_rfl) wideK)
def kyF (a : Nat) (w : ByteArray) (b : Nat) : Lit := .string (keyBytes [.int .i64 (a : Int), .string w.data.toList, .int .i64 (b : Int)])
def keyV (a : Nat) (w : ByteArray) (b : Nat) : Value := .agg #[.int .i64 (a : Int), .string w, .int .i64 (b : Int)]
theorem keyF {a b : Nat} {w : ByteArray} (ha : a ≤ 1000) (hb : b ≤ 1000) (hw : w.size ≤ maxLen) : keyOf Try.prog 142 (keyV a w b) = some (kyF a w b) := by
  have h1 : Try.prog.keyType 142 = true := by kernel_rfl
  have h2 : (keyV a w b).formed Try.prog 142 = true := by
    have hc : Try.prog.cellsOf 142 = 3 := by kernel_rfl
    simp [keyV, Value.formed, Try.underlying142, hc]
  have wa : (Lit.int .i64 (a : Int)).wf = true := by simp [Lit.wf, IntKind.min, IntKind.max, IntKind.signed, IntKind.bits]; omega
  have wb : (Lit.int .i64 (b : Int)).wf = true := by simp [Lit.wf, IntKind.min, IntKind.max, IntKind.signed, IntKind.bits]; omega
  obtain ⟨n, hn⟩ : ∃ n, Try.prog.types.size = n + 1 := Nat.exists_eq_succ_of_ne_zero (Nat.ne_of_gt (Nat.lt_of_le_of_lt (Nat.zero_le _) rowF))
  have hc : Try.prog.cellsOf 142 = 3 := by kernel_rfl
  have hci : Try.prog.cellsOf 3 = 1 := by kernel_rfl
  have hcs : Try.prog.cellsOf 9 = 1 := by kernel_rfl
  have ki : ∀ z : Int, (Lit.int .i64 z).wf = true → Try.prog.keyLits (n + 1) 3 [.int .i64 z] = some [.int .i64 z] := fun z hz => by
    simp [Program.keyLits, Try.underlying3, hz]
  have ks : Try.prog.keyLits (n + 1) 9 [.string w] = some [.string w.data.toList] := by
    simp [Program.keyLits, Try.underlying9, hw]
  unfold keyOf
  rw [Try.underlying142]
  simp only [h1, h2, Bool.and_self, if_true, hn]
  unfold Program.keyLits
  simp [Try.underlying142, hc, hci, hcs, keyV, Value.cells, ki _ wa, ki _ wb, ks, kyF]
theorem kyF_inj {a b a' b' : Nat} {w w' : ByteArray} (ha : a ≤ 1000) (hb : b ≤ 1000) (hw : w.size ≤ maxLen) (ha' : a' ≤ 1000) (hb' : b' ≤ 1000) (hw' : w'.size ≤ maxLen) (h : kyF a w b = kyF a' w' b') : a = a' ∧ w = w' ∧ b = b' := by
  have h1 := lawF.inj (keyF ha hb hw) (by rw [h]; exact keyF ha' hb' hw')
  unfold keyV at h1
  simp only [Value.agg.injEq, Array.mk.injEq, List.cons.injEq, Value.int.injEq, Value.string.injEq, true_and, and_true] at h1
  exact ⟨by omega, h1.2.1, by omega⟩
/-- The map as the program has it. -/
def OwnF (W : World) (b n : Nat) (D : DataW Unit) : Prop := W.ownsMap Try.prog 142 (plainElem Try.prog 3) b n D
theorem OwnF.obj {W : World} {b n : Nat} {D : DataW Unit} (h : OwnF W b n D) : ∃ o, W.heap[b]? = some o ∧ o.isCells = false := by
  obtain ⟨es, clock, h1, h2⟩ := h
  exact ⟨_, h1, rfl⟩
theorem OwnF.of_block {W W' : World} {b n : Nat} {D : DataW Unit} (h : OwnF W b n D) (hb : W'.heap[b]? = W.heap[b]?) : OwnF W' b n D := by
  obtain ⟨es, clock, h1, h2⟩ := h
  exact ⟨es, clock, hb.trans h1, h2⟩
/-- clear(m). -/
theorem run_clearM {W : World} {b n : Nat} {D : DataW Unit} (h : OwnF W b n D) :
    ∃ W', (∀ ty, (Builtin.clear_ #[139] ty #[.map (some b)]).run Try.prog W = .ok (.tuple #[]) W') ∧ OwnF W' b 0 (.map []) ∧ W.grownBy W' (some b) := by
  obtain ⟨es, clock, hb, F, hs, hD⟩ := h
  have hlt := (Array.getElem?_eq_some_iff.1 hb).1
  refine ⟨{ W with heap := W.heap.setIfInBounds b (.map #[] clock) }, ?_, ⟨#[], clock, by simp [hlt], ⟨by simp, MapKept.stamped_empty clock, by simp⟩, Nat.le_refl _, rfl⟩, ⟨rfl, rfl, rfl, by simp, fun k hk hne => ?_⟩⟩
  · intro ty
    simp [Builtin.clear_, Sem.run_bind, run_underlying Try.underlying139, MapKept.run_getObj_map hb, MapKept.run_setObj_map _ hb, Result.andThen]
  · have : b ≠ k := fun e => hne (by rw [e])
    simp [this]
theorem run_lenM {W : World} {b n : Nat} {D : DataW Unit} (h : OwnF W b n D) (ty : TypeId) : (Builtin.len_ #[139] ty #[.map (some b)]).run Try.prog W = .ok (.int .i64 (size D)) W := World.ownsMap.len h Try.underlying139 ty
/-- A row of numbers that the call owns. -/
def OwnZ (W : World) (base g c : Nat) (xs : List Nat) : Prop := W.ownsRow base 3 1 (.slice (some ⟨g, 0, none⟩) xs.length c) xs.length (xs.map fun (x : Nat) => Value.int .i64 (x : Int))
theorem OwnZ.lt {W : World} {base g c : Nat} {xs : List Nat} (h : OwnZ W base g c xs) : base ≤ g ∧ g < W.heap.size := World.ownsRow.lt h g rfl
theorem OwnZ.cell {W : World} {base g c : Nat} {xs : List Nat} (h : OwnZ W base g c xs) {k : Nat} (hk : k < xs.length) : W.cell? ⟨g, k, none⟩ = some (.int .i64 ((xs.getD k 0 : Nat) : Int)) ∧ W.frozen? ⟨g, k, none⟩ = false := by
  refine ⟨?_, World.ownsRow.frozenAt h k⟩
  rw [World.ownsRow.cellAt h k (by omega), List.getElem?_map, List.getElem?_eq_getElem hk, List.getD_eq_getElem?_getD, List.getElem?_eq_getElem hk]
  rfl
theorem OwnZ.block {W W' : World} {base g c : Nat} {xs : List Nat} (h : OwnZ W base g c xs) (hb : W'.heap[g]? = W.heap[g]?) : OwnZ W' base g c xs := by
  obtain ⟨h1, h2⟩ := h
  refine ⟨h1, ?_⟩
  rcases h2 with ⟨h3, _⟩ | ⟨g', cap, cur, h3, h4, h5, h6⟩
  · simp at h3
  · have e : g = g' := by simp at h3; exact h3.1
    subst e
    exact .inr ⟨g, cap, cur, h3, h4, hb.trans h5, h6⟩
theorem OwnZ.set {W : World} {base g c : Nat} {xs : List Nat} (h : OwnZ W base g c xs) (k n : Nat) : OwnZ (W.setCell ⟨g, k, none⟩ (.int .i64 (n : Int))) base g c (xs.set k n) := by
  have := (World.ownsRow.stored h k (.int .i64 (n : Int))).1
  unfold OwnZ
  rw [List.length_set, List.map_set]
  exact this
theorem OwnZ.ints {W : World} {base g c : Nat} {xs : List Nat} (h : OwnZ W base g c xs) : ∀ j, j < xs.length → W.cell? ⟨g, 0 + j, none⟩ = some (.int .i64 ((xs.map fun (x : Nat) => (x : Int)).getD j 0)) := fun j hj => by
  rw [Nat.zero_add, (h.cell hj).1, List.getD_eq_getElem?_getD, List.getD_eq_getElem?_getD, List.getElem?_map, List.getElem?_eq_getElem hj]
  rfl
theorem zmake (n : Nat) (h : n ≤ 1000000) (w : World) :
    (Instr.makeSlice 34 (.int .i64 (n : Int)) (.int .i64 (n : Int))).run Try.prog w = .ok (.slice (some ⟨w.heap.size, 0, none⟩) n n) (w.alloc (.cells (madeCells #[.int .i64 0] n) 3)) :=
  run_make_row' 34 3 (.int .i64 0) 8 Try.underlying34 intInfo rfl .i64 .i64 n (by omega) (by omega) w
theorem zmade (w : World) (n base : Nat) (hn : n ≤ 1000000) (hb : base ≤ w.heap.size) : OwnZ (w.alloc (.cells (madeCells #[.int .i64 0] n) 3)) base w.heap.size n (List.replicate n 0) := by
  have h := World.ownsRow_lit (e := 3) (size := 1) w (madeCells #[.int .i64 0] n) n hb (by unfold maxLen; omega) (by simp [madeCells])
  rw [toList_madeCells_one] at h
  unfold OwnZ
  rw [List.length_replicate, List.map_replicate]
  exact h
/-- One pass over the states, s of them done, q numbers given. -/
def PassI (g : List Nat) (κ : Nat → Nat × ByteArray × Nat) (r s q : Nat) (xs : List Nat) : Prop :=
  xs.length = r ∧ (∀ t, s ≤ t → xs.getD t 0 = g.getD t 0) ∧ (∀ t, t < s → xs.getD t 0 < q) ∧ (∀ v, v < q → ∃ t, t < s ∧ xs.getD t 0 = v) ∧ (∀ t u, t < s → u < s → xs.getD t 0 = xs.getD u 0 → κ t = κ u) ∧ Grow (fun t => xs.getD t 0) s
/-- .. and what the map holds. -/
def PassM (D : DataW Unit) (κ : Nat → Nat × ByteArray × Nat) (s q : Nat) (xs : List Nat) : Prop :=
  size D = q ∧ ∀ a w b, a ≤ 1000 → b ≤ 1000 → w.size ≤ maxLen → has D (kyF a w b) = true → ∃ t, t < s ∧ κ t = (a, w, b) ∧ ∀ z, D.atKey (kyF a w b) z = inD (xs.getD t 0)
theorem getD_set_same {xs : List Nat} {s n : Nat} (h : s < xs.length) : (xs.set s n).getD s 0 = n := by
  rw [List.getD_eq_getElem?_getD, List.getElem?_set_self h]; rfl
theorem getD_set_other {xs : List Nat} {s n t : Nat} (h : t ≠ s) : (xs.set s n).getD t 0 = xs.getD t 0 := by
  rw [List.getD_eq_getElem?_getD, List.getD_eq_getElem?_getD, List.getElem?_set_ne (fun e => h e.symm)]
theorem passI_nil (g : List Nat) (κ : Nat → Nat × ByteArray × Nat) : PassI g κ g.length 0 0 g :=
  ⟨rfl, fun _ _ => rfl, fun t ht => absurd ht (Nat.not_lt_zero t), fun v hv => absurd hv (Nat.not_lt_zero v), fun t _ ht => absurd ht (Nat.not_lt_zero t), fun s hs => absurd hs (Nat.not_lt_zero s)⟩
theorem passM_nil (κ : Nat → Nat × ByteArray × Nat) (xs : List Nat) : PassM (.map []) κ 0 0 xs := ⟨rfl, fun a w b _ _ _ h => by rw [has_eq] at h; cases h⟩
theorem passI_old {g : List Nat} {κ : Nat → Nat × ByteArray × Nat} {r s q : Nat} {xs : List Nat} (h : PassI g κ r s q xs) (hs : s < r) {t : Nat} (ht : t < s) (hk : κ t = κ s) : PassI g κ r (s + 1) q (xs.set s (xs.getD t 0)) := by
  obtain ⟨h1, h2, h3, h4, h5, h6⟩ := h
  have hself : (xs.set s (xs.getD t 0)).getD s 0 = xs.getD t 0 := getD_set_same (by omega)
  have hoth : ∀ u, u ≠ s → (xs.set s (xs.getD t 0)).getD u 0 = xs.getD u 0 := fun u hu => getD_set_other hu
  refine ⟨by simp [h1], fun u hu => by rw [hoth u (by omega)]; exact h2 u (by omega), fun u hu => ?_, fun v hv => ?_, fun u v hu hv e => ?_, fun u hu v hv => ?_⟩
  · by_cases e : u = s
    · rw [e, hself]; exact h3 t ht
    · rw [hoth u e]; exact h3 u (by omega)
  · obtain ⟨u, hu, e⟩ := h4 v hv
    exact ⟨u, by omega, by rw [hoth u (by omega)]; exact e⟩
  · by_cases eu : u = s
    · by_cases ev : v = s
      · rw [eu, ev]
      · rw [eu, hself, hoth v ev] at e
        rw [eu, ← hk]; exact h5 t v ht (by omega) e
    · by_cases ev : v = s
      · rw [ev, hself, hoth u eu] at e
        rw [ev, ← hk]; exact h5 u t (by omega) ht e
      · rw [hoth u eu, hoth v ev] at e
        exact h5 u v (by omega) (by omega) e
  · dsimp only at hv ⊢
    by_cases eu : u = s
    · rw [eu, hself] at hv
      obtain ⟨x, hx, e⟩ := h6 t ht v hv
      exact ⟨x, by omega, by rw [hoth x (by omega)]; exact e⟩
    · rw [hoth u eu] at hv
      obtain ⟨x, hx, e⟩ := h6 u (by omega) v hv
      exact ⟨x, hx, by rw [hoth x (by omega)]; exact e⟩
theorem passI_new {g : List Nat} {κ : Nat → Nat × ByteArray × Nat} {r s q : Nat} {xs : List Nat} (h : PassI g κ r s q xs) (hs : s < r) : PassI g κ r (s + 1) (q + 1) (xs.set s q) := by
  obtain ⟨h1, h2, h3, h4, h5, h6⟩ := h
  have hself : (xs.set s q).getD s 0 = q := getD_set_same (by omega)
  have hoth : ∀ u, u ≠ s → (xs.set s q).getD u 0 = xs.getD u 0 := fun u hu => getD_set_other hu
  refine ⟨by simp [h1], fun u hu => by rw [hoth u (by omega)]; exact h2 u (by omega), fun u hu => ?_, fun v hv => ?_, fun u v hu hv e => ?_, fun u hu v hv => ?_⟩
  · by_cases e : u = s
    · rw [e, hself]; omega
    · rw [hoth u e]; have := h3 u (by omega); omega
  · by_cases e : v = q
    · exact ⟨s, by omega, by rw [hself, e]⟩
    · obtain ⟨u, hu, e⟩ := h4 v (by omega)
      exact ⟨u, by omega, by rw [hoth u (by omega)]; exact e⟩
  · by_cases eu : u = s
    · by_cases ev : v = s
      · rw [eu, ev]
      · rw [eu, hself, hoth v ev] at e
        have := h3 v (by omega); omega
    · by_cases ev : v = s
      · rw [ev, hself, hoth u eu] at e
        have := h3 u (by omega); omega
      · rw [hoth u eu, hoth v ev] at e
        exact h5 u v (by omega) (by omega) e
  · dsimp only at hv ⊢
    by_cases eu : u = s
    · rw [eu, hself] at hv
      obtain ⟨x, hx, e⟩ := h4 v hv
      exact ⟨x, by omega, by rw [hoth x (by omega)]; exact e⟩
    · rw [hoth u eu] at hv
      obtain ⟨x, hx, e⟩ := h6 u (by omega) v hv
      exact ⟨x, hx, by rw [hoth x (by omega)]; exact e⟩
theorem passM_set {D : DataW Unit} {κ : Nat → Nat × ByteArray × Nat} {s q n : Nat} {xs : List Nat} (h : PassM D κ s q xs) : PassM D κ (s + 1) q (xs.set s n) :=
  ⟨h.1, fun a w b ha hb hw hh => by
    obtain ⟨t, ht, e, hz⟩ := h.2 a w b ha hb hw hh
    exact ⟨t, by omega, e, fun z => by rw [hz z, getD_set_other (by omega)]⟩⟩
theorem passM_put {D : DataW Unit} {κ : Nat → Nat × ByteArray × Nat} {s q : Nat} {xs : List Nat} (h : PassM D κ s q xs) (hI : IsMap D) (hT : Tidy D) {a b : Nat} {w : ByteArray} (hk : κ s = (a, w, b)) (ha : a ≤ 1000) (hb : b ≤ 1000) (hw : w.size ≤ maxLen) (hn : has D (kyF a w b) = false) (hl : s < xs.length) : PassM (D.put (kyF a w b) (inD q)) κ (s + 1) (q + 1) (xs.set s q) := by
  refine ⟨by rw [size_put hT, hn, h.1]; rfl, fun a' w' b' ha' hb' hw' hh => ?_⟩
  by_cases e : kyF a' w' b' = kyF a w b
  · obtain ⟨rfl, rfl, rfl⟩ := kyF_inj ha' hb' hw' ha hb hw e
    refine ⟨s, by omega, hk, fun z => ?_⟩
    rw [atKey_put_same hI (lawF.key (keyF ha hb hw)), getD_set_same hl]
  · rw [has_put_other e] at hh
    obtain ⟨t, ht, e2, hz⟩ := h.2 a' w' b' ha' hb' hw' hh
    exact ⟨t, by omega, e2, fun z => by rw [atKey_put_other e, hz z, getD_set_other (by omega)]⟩
/-- The classes behind the first i inputs of a pass. -/
def RefI (m : EM) (c : List Nat) (i : Nat) (xs : List Nat) : Prop :=
  xs.length = m.r ∧ Grow (fun t => xs.getD t 0) m.r ∧ ∀ s t, s < m.r → t < m.r → xs.getD s 0 = xs.getD t 0 → c.getD s 0 = c.getD t 0 ∧ ∀ j, j < i → m.D s j = m.D t j ∧ c.getD (m.T s j).toNat 0 = c.getD (m.T t j).toNat 0
theorem refI_nil {m : EM} {c : List Nat} (hl : c.length = m.r) (hg : Grow (fun t => c.getD t 0) m.r) : RefI m c 0 c := ⟨hl, hg, fun s t _ _ e => ⟨e, fun j hj => absurd hj (Nat.not_lt_zero j)⟩⟩
/-- What a state does for an input. -/
def keyS3 (m : EM) (c g : List Nat) (i s : Nat) : Nat × ByteArray × Nat := (g.getD s 0, m.D s i, c.getD (m.T s i).toNat 0)
theorem refI_step {m : EM} {c g xs : List Nat} {i q : Nat} (h : RefI m c i g) (hp : PassI g (keyS3 m c g i) m.r m.r q xs) : RefI m c (i + 1) xs := by
  obtain ⟨p1, _, _, _, p5, p6⟩ := hp
  refine ⟨p1, p6, fun s t hs ht e => ?_⟩
  have hk := p5 s t hs ht e
  unfold keyS3 at hk
  simp only [Prod.mk.injEq] at hk
  obtain ⟨k1, k2, k3⟩ := hk
  obtain ⟨e1, e2⟩ := h.2.2 s t hs ht k1
  refine ⟨e1, fun j hj => ?_⟩
  by_cases hji : j = i
  · rw [hji]; exact ⟨k2, k3⟩
  · exact e2 j (by omega)
/-- A pass that leaves the number of classes: the classes are stable. -/
theorem refI_stable {m : EM} {I B : Nat} (hm : m.Ok I B) {c xs : List Nat} {k : Nat} (h : RefI m c I xs) (hc : Cnt (fun t => c.getD t 0) m.r k) (hx : Cnt (fun t => xs.getD t 0) m.r k) : Stable m I (fun t => xs.getD t 0) := by
  have hfin : Finer (fun t => xs.getD t 0) (fun t => c.getD t 0) m.r := fun s t hs ht e => (h.2.2 s t hs ht e).1
  have hback := cnt_same hx hc hfin
  intro s t hs ht e i hi
  obtain ⟨_, e2⟩ := h.2.2 s t hs ht e
  obtain ⟨e3, e4⟩ := e2 i hi
  exact ⟨e3, hback _ _ (hm.to1 s i hs hi) (hm.to1 t i ht hi) e4⟩
end Go.Proofs.Ytcafeffgaokiaaa
