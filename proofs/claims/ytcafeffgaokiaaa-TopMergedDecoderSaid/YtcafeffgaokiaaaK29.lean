/- Classes of states, the merged encoder: plain. -/
import Derived.Test.YtcafeffgaokiaaaK28
namespace Go.Proofs.Ytcafeffgaokiaaa
open Go.RowKit
/-- Numbered by first appearance. -/
def Grow (f : Nat → Nat) (r : Nat) : Prop := ∀ s, s < r → ∀ v, v < f s → ∃ t, t < s ∧ f t = v
/-- k numbers in all. -/
def Cnt (f : Nat → Nat) (r k : Nat) : Prop := (∀ s, s < r → f s < k) ∧ ∀ v, v < k → ∃ s, s < r ∧ f s = v
def Finer (f g : Nat → Nat) (r : Nat) : Prop := ∀ s t, s < r → t < r → f s = f t → g s = g t
theorem len_subN : ∀ (al bs : List Nat), al.Nodup → al ⊆ bs → al.length ≤ bs.length
  | [], _, _, _ => Nat.zero_le _
  | a :: al, bs, hn, hs => by
    have ha : a ∈ bs := hs List.mem_cons_self
    obtain ⟨h1, h2⟩ := List.nodup_cons.1 hn
    have h3 := len_subN al (bs.erase a) h2 fun x hx => by
      have hxa : x ≠ a := fun e => h1 (e ▸ hx)
      exact (List.mem_erase_of_ne hxa).2 (hs (List.mem_cons_of_mem _ hx))
    rw [List.length_erase_of_mem ha] at h3
    have := List.length_pos_of_mem ha
    rw [List.length_cons]
    omega
theorem cover_le {k n : Nat} (φ : Nat → Nat) (h : ∀ u, u < k → ∃ v, v < n ∧ φ v = u) : k ≤ n := by
  have h1 := len_subN (List.range k) ((List.range n).map φ) List.nodup_range (fun u hu => by
    obtain ⟨v, hv, e⟩ := h u (List.mem_range.1 hu)
    exact List.mem_map.2 ⟨v, List.mem_range.2 hv, e⟩)
  simpa using h1
theorem cover_inj {k : Nat} (φ : Nat → Nat) (h : ∀ u, u < k → ∃ v, v < k ∧ φ v = u) {v1 v2 : Nat} (h1 : v1 < k) (h2 : v2 < k) (e : φ v1 = φ v2) : v1 = v2 := by
  refine Classical.byContradiction fun hne => ?_
  have h3 := len_subN (List.range k) (((List.range k).erase v2).map φ) List.nodup_range (fun u hu => by
    obtain ⟨v, hv, e2⟩ := h u (List.mem_range.1 hu)
    by_cases hv2 : v = v2
    · exact List.mem_map.2 ⟨v1, (List.mem_erase_of_ne hne).2 (List.mem_range.2 h1), by rw [e, ← hv2]; exact e2⟩
    · exact List.mem_map.2 ⟨v, (List.mem_erase_of_ne hv2).2 (List.mem_range.2 hv), e2⟩)
  rw [List.length_map, List.length_erase_of_mem (List.mem_range.2 h2), List.length_range] at h3
  omega
theorem cnt_le {f : Nat → Nat} {r k : Nat} (h : Cnt f r k) : k ≤ r := cover_le f h.2
/-- What the number of a class is under a coarser numbering. -/
theorem finer_map {f g : Nat → Nat} {r k : Nat} (h : Cnt f r k) (hf : Finer f g r) : ∃ φ : Nat → Nat, ∀ s, s < r → φ (f s) = g s := by
  have hc : ∀ v, ∃ u, ∀ s, s < r → f s = v → g s = u := fun v => by
    by_cases hv : ∃ s, s < r ∧ f s = v
    · obtain ⟨s, hs, e⟩ := hv
      exact ⟨g s, fun t ht et => hf t s ht hs (et.trans e.symm)⟩
    · exact ⟨0, fun t ht et => absurd ⟨t, ht, et⟩ hv⟩
  refine ⟨fun v => (hc v).choose, fun s hs => ((hc (f s)).choose_spec s hs rfl).symm⟩
theorem cnt_mono {f g : Nat → Nat} {r k k' : Nat} (hf : Cnt f r k) (hg : Cnt g r k') (h : Finer f g r) : k' ≤ k := by
  obtain ⟨φ, hφ⟩ := finer_map hf h
  refine cover_le φ fun u hu => ?_
  obtain ⟨s, hs, e⟩ := hg.2 u hu
  exact ⟨f s, hf.1 s hs, by rw [hφ s hs, e]⟩
/-- As many classes: the same classes. -/
theorem cnt_same {f g : Nat → Nat} {r k : Nat} (hf : Cnt f r k) (hg : Cnt g r k) (h : Finer f g r) : Finer g f r := by
  obtain ⟨φ, hφ⟩ := finer_map hf h
  have hs : ∀ u, u < k → ∃ v, v < k ∧ φ v = u := fun u hu => by
    obtain ⟨s, hs, e⟩ := hg.2 u hu
    exact ⟨f s, hf.1 s hs, by rw [hφ s hs, e]⟩
  exact fun s t hs' ht' e => cover_inj φ hs (hf.1 s hs') (hf.1 t ht') (by rw [hφ s hs', hφ t ht', e])
theorem grow_cnt {f : Nat → Nat} {r M : Nat} (h : Grow f r) (h1 : ∀ s, s < r → f s ≤ M) (h2 : ∃ s, s < r ∧ f s = M) : Cnt f r (M + 1) := by
  refine ⟨fun s hs => by have := h1 s hs; omega, fun v hv => ?_⟩
  obtain ⟨s, hs, e⟩ := h2
  by_cases hvM : v = M
  · exact ⟨s, hs, by rw [e, hvM]⟩
  · obtain ⟨t, ht, e2⟩ := h s hs v (by omega)
    exact ⟨t, by omega, e2⟩
/-- States of a class write the same, and lead to the same classes. -/
def Stable (m : EM) (I : Nat) (f : Nat → Nat) : Prop := ∀ s t, s < m.r → t < m.r → f s = f t → ∀ i, i < I → m.D s i = m.D t i ∧ f (m.T s i).toNat = f (m.T t i).toNat
/-- The least state of a class. -/
def repF (f : Nat → Nat) (r c : Nat) : Nat := (List.range r).findIdx fun s => f s == c
theorem repF_spec {f : Nat → Nat} {r c : Nat} (h : ∃ s, s < r ∧ f s = c) : repF f r c < r ∧ f (repF f r c) = c ∧ ∀ t, t < repF f r c → f t ≠ c := by
  have hex : ∃ x ∈ List.range r, (f x == c) = true := by
    obtain ⟨s, hs, e⟩ := h
    exact ⟨s, List.mem_range.2 hs, by rw [e]; simp⟩
  have h1 : (List.range r).findIdx (fun s => f s == c) < (List.range r).length := List.findIdx_lt_length_of_exists hex
  have h2 := List.findIdx_getElem (p := fun s => f s == c) (xs := List.range r) (w := h1)
  rw [List.getElem_range] at h2
  rw [List.length_range] at h1
  have h4 : f (repF f r c) = c := by unfold repF; exact beq_iff_eq.1 h2
  refine ⟨h1, h4, fun t ht => ?_⟩
  have h3 := List.not_of_lt_findIdx (p := fun s => f s == c) (xs := List.range r) (i := t) ht
  rw [List.getElem_range] at h3
  simpa using h3
/-- The encoder of the classes. -/
def mrg (m : EM) (I : Nat) (f : Nat → Nat) (k : Nat) : EM := { r := k, L := fun _ => I, T := fun c i => (f (m.T (repF f m.r c) i).toNat : Int), D := fun c i => m.D (repF f m.r c) i }
theorem mrg_ok {m : EM} {I B : Nat} (hm : m.Ok I B) {f : Nat → Nat} {k : Nat} (hc : Cnt f m.r k) : (mrg m I f k).Ok I B := {
  len := fun _ _ => rfl
  to0 := fun _ _ _ _ => Int.natCast_nonneg _
  to1 := fun c i hcl hi => by
    have h1 := repF_spec (hc.2 c hcl)
    exact hc.1 _ (hm.to1 _ i h1.1 hi)
  wd := fun c i hcl hi => hm.wd _ i (repF_spec (hc.2 c hcl)).1 hi }
theorem mrg_enc {m : EM} {I B : Nat} (hm : m.Ok I B) {f : Nat → Nat} {k : Nat} (hc : Cnt f m.r k) (hs : Stable m I f) : ∀ (l : List Nat) (s : Nat) (w : ByteArray), s < m.r → (∀ x ∈ l, x < I) → encW (mrg m I f k) (f s) l w = ((encW m s l w).1, f (encW m s l w).2)
  | [], _, _, _, _ => rfl
  | x :: l, s, w, hsr, hl => by
    have hx := hl x List.mem_cons_self
    have h1 := repF_spec (f := f) (c := f s) ⟨s, hsr, rfl⟩
    obtain ⟨e1, e2⟩ := hs _ s h1.1 hsr h1.2.1 x hx
    show encW (mrg m I f k) ((f (m.T (repF f m.r (f s)) x).toNat : Int)).toNat l (w ++ m.D (repF f m.r (f s)) x) = _
    rw [Int.toNat_natCast, e1, e2, mrg_enc hm hc hs l _ _ (hm.to1 s x hsr hx) fun y hy => hl y (List.mem_cons_of_mem _ hy)]
    rfl
theorem mrg_path {m : EM} {I B : Nat} (hm : m.Ok I B) {f : Nat → Nat} {k : Nat} (hc : Cnt f m.r k) (hs : Stable m I f) {P N : Nat} (hPN : P < N) (x : ByteArray × Nat) : x ∈ pathE (mrg m I f k) P N ↔ x ∈ pathE m P N := by
  rw [pathE_mem (mrg_ok hm hc) hPN, pathE_mem hm hPN]
  constructor
  · rintro ⟨c, l, h1, h2, h3, rfl⟩
    have h4 := repF_spec (hc.2 c h1)
    refine ⟨repF f m.r c, l, h4.1, h2, h3, ?_⟩
    have := mrg_enc hm hc hs l (repF f m.r c) ByteArray.empty h4.1 h3
    rw [h4.2.1] at this
    rw [this]
  · rintro ⟨s, l, h1, h2, h3, rfl⟩
    exact ⟨f s, l, hc.1 s h1, h2, h3, by rw [mrg_enc hm hc hs l s ByteArray.empty h1 h3]⟩
theorem inF_len2 {I : Nat} : ∀ (n : Nat) (l : List Nat), l ∈ inF I n → l.length = n
  | 0, l, h => by rw [List.mem_singleton.1 h]; rfl
  | n + 1, l, h => by
    rw [inF] at h
    obtain ⟨x, _, h⟩ := List.mem_flatMap.1 h
    obtain ⟨l', h', rfl⟩ := List.mem_map.1 h
    rw [List.length_cons, inF_len2 n l' h']
theorem inF_lt2 {I : Nat} : ∀ (n : Nat) (l : List Nat), l ∈ inF I n → ∀ y ∈ l, y < I
  | 0, l, h, y, hy => by rw [List.mem_singleton.1 h] at hy; cases hy
  | n + 1, l, h, y, hy => by
    rw [inF] at h
    obtain ⟨x, hx, h⟩ := List.mem_flatMap.1 h
    obtain ⟨l', h', rfl⟩ := List.mem_map.1 h
    rcases List.mem_cons.1 hy with rfl | hy
    · exact List.mem_range.1 hx
    · exact inF_lt2 n l' h' y hy
theorem mrg_word {m : EM} {I B : Nat} (hm : m.Ok I B) {f : Nat → Nat} {k : Nat} (hc : Cnt f m.r k) (hs : Stable m I f) (n : Nat) (x : ByteArray) : x ∈ wordsE (mrg m I f k) n ↔ x ∈ wordsE m n := by
  have key : ∀ (m' : EM), m'.Ok I B → (x ∈ wordsE m' n ↔ ∃ s l, s < m'.r ∧ l.length = n ∧ (∀ y ∈ l, y < I) ∧ x = (encW m' s l ByteArray.empty).1) := fun m' hm' => by
    constructor
    · intro h
      obtain ⟨s, hs, h⟩ := List.mem_flatMap.1 h
      rw [wordsL_enc hm' _ s _ (List.mem_range.1 hs)] at h
      obtain ⟨l, hl, rfl⟩ := List.mem_map.1 h
      exact ⟨s, l, List.mem_range.1 hs, inF_len2 n l hl, inF_lt2 n l hl, rfl⟩
    · rintro ⟨s, l, h1, rfl, h3, rfl⟩
      exact encW_in hm' h1 h3
  rw [key _ (mrg_ok hm hc), key m hm]
  constructor
  · rintro ⟨c, l, h1, h2, h3, rfl⟩
    have h4 := repF_spec (hc.2 c h1)
    refine ⟨repF f m.r c, l, h4.1, h2, h3, ?_⟩
    have := mrg_enc hm hc hs l (repF f m.r c) ByteArray.empty h4.1 h3
    rw [h4.2.1] at this
    rw [this]
  · rintro ⟨s, l, h1, h2, h3, rfl⟩
    exact ⟨f s, l, hc.1 s h1, h2, h3, by rw [mrg_enc hm hc hs l s ByteArray.empty h1 h3]⟩
end Go.Proofs.Ytcafeffgaokiaaa
