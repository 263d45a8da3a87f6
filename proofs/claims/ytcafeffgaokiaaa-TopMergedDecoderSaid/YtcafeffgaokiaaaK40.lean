/- reduction.Merge. -/
import Derived.Test.YtcafeffgaokiaaaK39
namespace Go.Proofs.Ytcafeffgaokiaaa
open Go.RowKit Go.Maps Go.Lib Go.Sort
/-- A row of cells that the call owns, by its block. -/
def CelR (W : World) (base g c : Nat) (ys : List (Int × ByteArray)) : Prop := W.ownsRow base 84 2 (.slice (some ⟨g, 0, none⟩) ys.length c) ys.length (ys.flatMap celL)
theorem CelR.lt {W : World} {base g c : Nat} {ys : List (Int × ByteArray)} (h : CelR W base g c ys) : base ≤ g ∧ g < W.heap.size := World.ownsRow.lt h g rfl
theorem CelR.obj {W : World} {base g c : Nat} {ys : List (Int × ByteArray)} (h : CelR W base g c ys) : ∃ cur, W.heap[g]? = some (.cells cur 84 (0, 0)) := by
  rcases h.2 with ⟨h3, _⟩ | ⟨g', cap, cur, h3, h4, h5, _⟩
  · simp at h3
  · have e : g = g' := by simp at h3; exact h3.1
    subst e
    exact ⟨cur, h5⟩
theorem CelR.block {W W' : World} {base g c : Nat} {ys : List (Int × ByteArray)} (h : CelR W base g c ys) (hb : W'.heap[g]? = W.heap[g]?) : CelR W' base g c ys := by
  obtain ⟨h1, h2⟩ := h
  refine ⟨h1, ?_⟩
  rcases h2 with ⟨h3, _⟩ | ⟨g', cap, cur, h3, h4, h5, h6⟩
  · simp at h3
  · have e : g = g' := by simp at h3; exact h3.1
    subst e
    exact .inr ⟨g, cap, cur, h3, h4, hb.trans h5, h6⟩
theorem CelR.base {W : World} {base base' g c : Nat} {ys : List (Int × ByteArray)} (h : CelR W base g c ys) (hb : base' ≤ g) : CelR W base' g c ys := by
  obtain ⟨h1, h2⟩ := h
  refine ⟨h1, ?_⟩
  rcases h2 with ⟨h3, _⟩ | ⟨g', cap, cur, h3, h4, h5⟩
  · simp at h3
  · have e : g = g' := by simp at h3; exact h3.1
    subst e
    exact .inr ⟨g, cap, cur, h3, hb, h5⟩
theorem CelR.cell {W : World} {base g c : Nat} {ys : List (Int × ByteArray)} (h : CelR W base g c ys) {k : Nat} (hk : k < ys.length) : W.cell? ⟨g, k * 2, none⟩ = some (.int .i64 ys[k].1) ∧ W.cell? ⟨g, k * 2 + 1, none⟩ = some (.string ys[k].2) ∧ W.frozen? ⟨g, k * 2, none⟩ = false := by
  obtain ⟨g1, g2⟩ := cel_get ys k hk
  refine ⟨?_, ?_, World.ownsRow.frozenAt h _⟩
  · rw [World.ownsRow.cellAt h (k * 2) (by omega)]; exact g1
  · rw [World.ownsRow.cellAt h (k * 2 + 1) (by omega)]; exact g2
theorem cel_set : ∀ (ys : List (Int × ByteArray)) (k : Nat) (hk : k < ys.length) (n : Int), (ys.flatMap celL).set (k * 2) (.int .i64 n) = (ys.set k (n, ys[k].2)).flatMap celL
  | [], k, hk, _ => by cases hk
  | y :: ys, 0, _, n => by simp [celL]
  | y :: ys, k + 1, hk, n => by
    have := cel_set ys k (by simpa using hk) n
    rw [List.flatMap_cons, List.set_cons_succ, List.flatMap_cons]
    have e1 : (k + 1) * 2 - (celL y).length = k * 2 := by simp [celL]; omega
    rw [List.set_append_right _ _ (by simp [celL]; omega), e1, this]
    rfl
theorem CelR.set {W : World} {base g c : Nat} {ys : List (Int × ByteArray)} (h : CelR W base g c ys) {k : Nat} (hk : k < ys.length) (n : Int) : CelR (W.setCell ⟨g, k * 2, none⟩ (.int .i64 n)) base g c (ys.set k (n, ys[k].2)) := by
  have := (World.ownsRow.stored h (k * 2) (.int .i64 n)).1
  unfold CelR
  rw [List.length_set, ← cel_set ys k hk n]
  exact this
theorem CelR.slAt {W : World} {base g c : Nat} {ys : List (Int × ByteArray)} (h : CelR W base g c ys) {m : EM} {i n : Nat} (hn : ys.length = n) (hy : ∀ k (hk : k < ys.length), ys[k] = (m.T i k, m.D i k)) : SlAt 2 W (some ⟨g, 0, none⟩) n (m.cell i) := by
  subst hn
  refine .inr ⟨g, 0, rfl, h.lt.2, fun k hk j hj => ?_⟩
  obtain ⟨c1, c2, _⟩ := h.cell hk
  rw [hy k hk] at c1 c2
  match j, hj with
  | 0, _ => rw [show 0 + k * 2 + 0 = k * 2 from by omega, c1]; rfl
  | 1, _ => rw [show 0 + k * 2 + 1 = k * 2 + 1 from by omega, c2]; rfl
/-- Headers of rows that the call owns. -/
def hdV (I : Nat) (x : Nat × Nat) : Value := .slice (some ⟨x.1, 0, none⟩) I x.2
def OwnH (W : World) (base : Nat) (v : Value) (I : Nat) (hs : List (Nat × Nat)) : Prop := W.ownsRow base 82 1 v hs.length (hs.map (hdV I))
theorem hdrCInfo : (Try.prog.info? 82).map (fun i => (i.zero, i.size, i.bytes)) = some (some (.slice none 0 0), 1, 24) := by kernel_rfl
theorem OwnH.kept {W W' : World} {base : Nat} {v : Value} {I : Nat} {hs : List (Nat × Nat)} (h : OwnH W base v I hs) (hb : ∀ b, v.ownBlock = some b → W'.heap[b]? = W.heap[b]?) : OwnH W' base v I hs := by
  obtain ⟨h1, h2⟩ := h
  refine ⟨h1, ?_⟩
  rcases h2 with h3 | ⟨g', cap, cur, h3, h4, h5, h6⟩
  · exact .inl h3
  · exact .inr ⟨g', cap, cur, h3, h4, (hb g' (by rw [h3]; rfl)).trans h5, h6⟩
theorem OwnH.ne {W : World} {base : Nat} {v : Value} {I : Nat} {hs : List (Nat × Nat)} (h : OwnH W base v I hs) {b : Nat} {cur : Array Value} {t : TypeId} (ho : W.heap[b]? = some (.cells cur t (0, 0))) (ht : t ≠ 82) : v.ownBlock ≠ some b := by
  intro e
  rcases h.2 with ⟨h3, _⟩ | ⟨g', cap, cur', h3, h4, h5, _⟩
  · rw [h3] at e; cases e
  · rw [h3] at e
    have e2 : g' = b := by simpa [Value.ownBlock] using e
    rw [e2, ho] at h5
    cases h5
    exact ht rfl
theorem OwnH.below {W W' : World} {base : Nat} {v : Value} {I : Nat} {hs : List (Nat × Nat)} (h : OwnH W base v I hs) (hb : Below W.heap.size W W') : OwnH W' base v I hs :=
  h.kept fun b e => hb.block b (World.ownsRow.lt h b e).2
theorem OwnZ.obj {W : World} {base g c : Nat} {xs : List Nat} (h : OwnZ W base g c xs) : ∃ cur, W.heap[g]? = some (.cells cur 3 (0, 0)) := by
  rcases h.2 with ⟨h3, _⟩ | ⟨g', cap, cur, h3, h4, h5, _⟩
  · simp at h3
  · have e : g = g' := by simp at h3; exact h3.1
    subst e
    exact ⟨cur, h5⟩
/-- The merged row of the state s, j cells of it turned. -/
def rowJ (m : EM) (I : Nat) (f : Nat → Nat) (s j : Nat) : List (Int × ByteArray) := (List.range I).map fun i => (if i < j then (f (m.T s i).toNat : Int) else m.T s i, m.D s i)
theorem rowJ_len (m : EM) (I : Nat) (f : Nat → Nat) (s j : Nat) : (rowJ m I f s j).length = I := by simp [rowJ]
theorem rowJ_get {m : EM} {I : Nat} {f : Nat → Nat} {s j k : Nat} (hk : k < (rowJ m I f s j).length) : (rowJ m I f s j)[k] = (if k < j then (f (m.T s k).toNat : Int) else m.T s k, m.D s k) := by
  simp only [rowJ, List.getElem_map, List.getElem_range]
theorem rowJ_set (m : EM) (I : Nat) (f : Nat → Nat) (s j : Nat) : (rowJ m I f s j).set j ((f (m.T s j).toNat : Int), m.D s j) = rowJ m I f s (j + 1) := by
  refine List.ext_getElem (by rw [List.length_set, rowJ_len, rowJ_len]) fun k h1 h2 => ?_
  rw [List.getElem_set]
  by_cases e : j = k
  · rw [if_pos e, rowJ_get, if_pos (by omega), e]
  · rw [if_neg e, rowJ_get, rowJ_get]
    by_cases h : k < j
    · rw [if_pos h, if_pos (by omega)]
    · rw [if_neg h, if_neg (by omega)]
/-- The rows so far. -/
def RowsI (m : EM) (I : Nat) (f : Nat → Nat) (base s : Nat) (hs : List (Nat × Nat)) (W : World) : Prop :=
  (∀ t, t < s → f t < hs.length) ∧ (∀ c, c < hs.length → ∃ t, t < s ∧ f t = c) ∧ ∀ c (hc : c < hs.length), CelR W base hs[c].1 hs[c].2 (rowJ m I f (repF f m.r c) I)
theorem RowsI.nil (m : EM) (I : Nat) (f : Nat → Nat) (base : Nat) (W : World) : RowsI m I f base 0 [] W := ⟨fun t ht => absurd ht (Nat.not_lt_zero t), fun c hc => absurd hc (Nat.not_lt_zero c), fun c hc => absurd hc (Nat.not_lt_zero c)⟩
theorem RowsI.kept {m : EM} {I : Nat} {f : Nat → Nat} {base s : Nat} {hs : List (Nat × Nat)} {W W' : World} (h : RowsI m I f base s hs W) (hb : ∀ (b : Nat) (cur : Array Value), W.heap[b]? = some (Obj.cells cur 84 (0, 0)) → W'.heap[b]? = W.heap[b]?) : RowsI m I f base s hs W' :=
  ⟨h.1, h.2.1, fun c hc => by
    obtain ⟨cur, ho⟩ := (h.2.2 c hc).obj
    exact (h.2.2 c hc).block (hb _ cur ho)⟩
theorem RowsI.below {m : EM} {I : Nat} {f : Nat → Nat} {base s : Nat} {hs : List (Nat × Nat)} {W W' : World} (h : RowsI m I f base s hs W) (hb : Below W.heap.size W W') : RowsI m I f base s hs W' :=
  h.kept fun b cur ho => hb.block b (Array.getElem?_eq_some_iff.1 ho).1
theorem RowsI.skip {m : EM} {I : Nat} {f : Nat → Nat} {base s : Nat} {hs : List (Nat × Nat)} {W : World} (h : RowsI m I f base s hs W) (hf : f s < hs.length) : RowsI m I f base (s + 1) hs W :=
  ⟨fun t ht => by
    by_cases e : t = s
    · rw [e]; exact hf
    · exact h.1 t (by omega), fun c hc => by
    obtain ⟨t, ht, e⟩ := h.2.1 c hc
    exact ⟨t, by omega, e⟩, h.2.2⟩
theorem rep_first {f : Nat → Nat} {r s q : Nat} (hs : s < r) (h1 : ∀ t, t < s → f t < q) (h2 : f s = q) : repF f r q = s := by
  obtain ⟨a1, a2, a3⟩ := repF_spec (f := f) (r := r) (c := q) ⟨s, hs, h2⟩
  rcases Nat.lt_trichotomy (repF f r q) s with h | h | h
  · have := h1 _ h; omega
  · exact h
  · exact absurd h2 (a3 s h)
/-- A new class: its number is the number of rows. -/
theorem RowsI.first {m : EM} {I : Nat} {f : Nat → Nat} {base s : Nat} {hs : List (Nat × Nat)} {W : World} (h : RowsI m I f base s hs W) (hg : Grow f m.r) (hsr : s < m.r) (hf : ¬ f s < hs.length) : f s = hs.length := by
  refine Nat.le_antisymm (Nat.le_of_not_lt fun hlt => ?_) (by omega)
  obtain ⟨t, ht, e⟩ := hg s hsr _ hlt
  have := h.1 t ht
  omega
theorem RowsI.add {m : EM} {I : Nat} {f : Nat → Nat} {base s : Nat} {hs : List (Nat × Nat)} {W : World} (h : RowsI m I f base s hs W) (hsr : s < m.r) (hf : f s = hs.length) {x : Nat × Nat} (hx : CelR W base x.1 x.2 (rowJ m I f s I)) : RowsI m I f base (s + 1) (hs ++ [x]) W := by
  have hrep := rep_first hsr h.1 hf
  refine ⟨fun t ht => ?_, fun c hc => ?_, fun c hc => ?_⟩
  · rw [List.length_append, List.length_singleton]
    by_cases e : t = s
    · rw [e, hf]; omega
    · have := h.1 t (by omega); omega
  · rw [List.length_append, List.length_singleton] at hc
    by_cases e : c = hs.length
    · exact ⟨s, by omega, by rw [hf, e]⟩
    · obtain ⟨t, ht, e2⟩ := h.2.1 c (by omega)
      exact ⟨t, by omega, e2⟩
  · by_cases e : c < hs.length
    · rw [List.getElem_append_left e]; exact h.2.2 c e
    · have e2 : c = hs.length := by rw [List.length_append, List.length_singleton] at hc; omega
      subst e2
      rw [List.getElem_append_right (Nat.le_refl _)]
      simp only [Nat.sub_self, List.getElem_singleton]
      rw [hrep]
      exact hx
theorem RowsI.cnt {m : EM} {I : Nat} {f : Nat → Nat} {base : Nat} {hs : List (Nat × Nat)} {W : World} (h : RowsI m I f base m.r hs W) : Cnt f m.r hs.length := ⟨h.1, h.2.1⟩
/-- The merged encoder in memory. -/
theorem RowsI.at {m : EM} {I : Nat} {f : Nat → Nat} {base base2 : Nat} {hs : List (Nat × Nat)} {W : World} {g6 c6 : Nat} (h : RowsI m I f base m.r hs W) (hv : OwnH W base2 (.slice (some ⟨g6, 0, none⟩) hs.length c6) I hs) : (mrg m I f hs.length).At W (some ⟨g6, 0, none⟩) := by
  refine ⟨fun i => (some ⟨(hs.getD i (0, 0)).1, 0, none⟩, (hs.getD i (0, 0)).2), .inr ⟨g6, 0, rfl, (World.ownsRow.lt hv g6 rfl).2, fun i hi j hj => ?_⟩, fun i hi => ?_⟩
  · have hi' : i < hs.length := hi
    have hj0 : j = 0 := by omega
    subst hj0
    rw [show 0 + i * 1 + 0 = i from by omega, World.ownsRow.cellAt hv i (by omega), List.getElem?_map, List.getElem?_eq_getElem hi']
    dsimp only
    rw [List.getD_eq_getElem?_getD, List.getElem?_eq_getElem hi']
    rfl
  · have hi' : i < hs.length := hi
    have hr := h.2.2 i hi'
    dsimp only
    rw [List.getD_eq_getElem?_getD, List.getElem?_eq_getElem hi']
    refine CelR.slAt (m := mrg m I f hs.length) (i := i) hr (rowJ_len _ _ _ _ _) fun k hk => ?_
    rw [rowJ_get, if_pos (by rw [rowJ_len] at hk; exact hk)]
    rfl
end Go.Proofs.Ytcafeffgaokiaaa
