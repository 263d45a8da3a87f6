/- What a decoder with all windows decodes of what the encoder writes: plain. -/
import Derived.Test.YtcafeffgaokiaaaK26
import Derived.Test.YtcafeffgaokiaaaK22
import Derived.Test.YtcafeffgaokiaaaK27
namespace Go.Proofs.Ytcafeffgaokiaaa
open Go.RowKit Go.Lib Go.Sort
theorem encW_size {m : EM} {I B : Nat} (hm : m.Ok I B) : ∀ (l : List Nat) (s : Nat) (w : ByteArray), s < m.r → (∀ x ∈ l, x < I) → (encW m s l w).1.size = w.size + l.length * B
  | [], _, w, _, _ => by show w.size = _; simp
  | x :: l, s, w, hs, hl => by
    have hx := hl x List.mem_cons_self
    show (encW m (m.T s x).toNat l (w ++ m.D s x)).1.size = _
    rw [encW_size hm l _ _ (hm.to1 s x hs hx) fun y hy => hl y (List.mem_cons_of_mem _ hy), ByteArray.size_append, hm.wd s x hs hx, List.length_cons, Nat.add_mul]
    omega
theorem inF_in {I : Nat} : ∀ (n : Nat) (l : List Nat), l.length = n → (∀ x ∈ l, x < I) → l ∈ inF I n
  | 0, l, h, _ => by rw [List.length_eq_zero_iff.1 h]; exact List.mem_singleton_self _
  | n + 1, [], h, _ => by cases h
  | n + 1, x :: l, h, hl => by
    rw [inF]
    refine List.mem_flatMap.2 ⟨x, List.mem_range.2 (hl x (List.mem_cons_self ..)), List.mem_map.2 ⟨l, inF_in n l (by simpa using h) (fun y hy => hl y (List.mem_cons_of_mem _ hy)), rfl⟩⟩
theorem encW_in {m : EM} {I B : Nat} (hm : m.Ok I B) {s : Nat} (hs : s < m.r) {l : List Nat} (hl : ∀ x ∈ l, x < I) : (encW m s l ByteArray.empty).1 ∈ wordsE m l.length := by
  unfold wordsE
  refine List.mem_flatMap.2 ⟨s, List.mem_range.2 hs, ?_⟩
  rw [wordsL_enc hm _ s _ hs]
  exact List.mem_map.2 ⟨l, inF_in _ l rfl hl, rfl⟩
/-- Binary search where the predicate turns once. -/
theorem bsr_turn {less : Nat → Bool} {j : Nat} : ∀ (d lo hi : Nat), hi - lo ≤ d → lo ≤ j → j ≤ hi → (∀ i, lo ≤ i → i < j → less i = true) → (∀ i, j ≤ i → i < hi → less i = false) → bsr less lo hi = j
  | 0, lo, hi, hd, h1, h2, _, _ => by rw [bsr_end (by omega)]; omega
  | d + 1, lo, hi, hd, h1, h2, h3, h4 => by
    by_cases hlt : lo < hi
    · rw [bsr_step hlt]
      by_cases hm : (lo + hi) / 2 < j
      · rw [if_pos (h3 _ (by omega) hm)]
        exact bsr_turn d _ _ (by omega) (by omega) h2 (fun i a b => h3 i (by omega) b) h4
      · rw [if_neg (by rw [h4 _ (by omega) (by omega)]; decide)]
        exact bsr_turn d _ _ (by omega) h1 (by omega) h3 (fun i a b => h4 i a (by omega))
    · rw [bsr_end hlt]; omega
theorem find_sorted {es : List Ent} (hp : es.Pairwise fun a b => a.win.data.toList < b.win.data.toList) {x : Ent} (hx : x ∈ es) : findE es x.win = (x.inp, true) := by
  obtain ⟨j, hj, rfl⟩ := List.getElem_of_mem hx
  have hg : ∀ i (hi : i < es.length), es.getD i default = es[i] := fun i hi => by rw [List.getD_eq_getElem?_getD, List.getElem?_eq_getElem hi]; rfl
  have hpl : placeOf es es[j].win = j := by
    unfold placeOf
    refine bsr_turn es.length 0 es.length (by omega) (Nat.zero_le _) (Nat.le_of_lt hj) (fun i _ hi => ?_) (fun i hi hi2 => ?_)
    · rw [ba_toList, ba_toList, hg i (by omega), bless_lt]
      exact List.pairwise_iff_getElem.1 hp i j (by omega) hj hi
    · rw [ba_toList, ba_toList, hg i hi2]
      refine Bool.eq_false_iff.2 fun h => ?_
      rw [bless_lt] at h
      by_cases e : i = j
      · subst e; exact List.lt_irrefl _ h
      · exact List.lt_irrefl _ (List.lt_trans h (List.pairwise_iff_getElem.1 hp j i hj hi2 (by omega)))
  have hh : hasAt es es[j].win = true := by
    unfold hasAt
    rw [hpl, hg j hj]
    simp [hj]
  unfold findE
  rw [if_pos hh, hpl, hg j hj]
theorem len_subset : ∀ (al bs : List (List UInt8)), al.Nodup → al ⊆ bs → al.length ≤ bs.length
  | [], _, _, _ => Nat.zero_le _
  | a :: al, bs, hn, hs => by
    have ha : a ∈ bs := hs List.mem_cons_self
    obtain ⟨h1, h2⟩ := List.nodup_cons.1 hn
    have h3 := len_subset al (bs.erase a) h2 fun x hx => by
      have hxa : x ≠ a := fun e => h1 (e ▸ hx)
      exact (List.mem_erase_of_ne hxa).2 (hs (List.mem_cons_of_mem _ hx))
    rw [List.length_erase_of_mem ha] at h3
    have := List.length_pos_of_mem ha
    rw [List.length_cons]
    omega
/-- No more entries than paths. -/
theorem built_len {ps : List (ByteArray × Nat)} {es : List Ent} (h : Built ps es) : es.length ≤ ps.length := by
  have hn : (es.map (·.win.data.toList)).Nodup := by
    have hp : (es.map (·.win.data.toList)).Pairwise (fun a b : List UInt8 => a < b) := List.pairwise_map.2 h.2
    refine List.Pairwise.imp ?_ hp
    intro a b hab e
    rw [e] at hab
    exact List.lt_irrefl _ hab
  have hs : (es.map (·.win.data.toList)) ⊆ ps.map (·.1.data.toList) := by
    intro w hw
    obtain ⟨x, hx, rfl⟩ := List.mem_map.1 hw
    obtain ⟨y, hy, rfl⟩ := (h.1 x).1 hx
    exact List.mem_map.2 ⟨y, hy, rfl⟩
  have := len_subset _ _ hn hs
  rwa [List.length_map, List.length_map] at this
/-- The decoder is valid. -/
theorem built_check {l : Int} {B I : Nat} {m : EM} (he : encCheck l (B : Int) (I : Int) m = 0) {P F : Nat} (hPF : P + F < 16) {es : List Ent} (hb : Built (pathE m P (P + 1 + F)) es) (hmany : manyP m.r I (P + 1 + F) = false) :
    decCheck l (B : Int) (I : Int) (P : Int) (F : Int) es = 0 ∧ ∀ x ∈ es, x.win.size = (P + 1 + F) * B := by
  obtain ⟨hl, hB, hI, hr, hok, hwd⟩ := encCheck_ok he
  rw [Int.toNat_natCast, Int.toNat_natCast] at hok
  have hent : ∀ x ∈ es, ∃ s ls, s < m.r ∧ ls.length = P + 1 + F ∧ (∀ y ∈ ls, y < I) ∧ x = ⟨(encW m s ls ByteArray.empty).1, ((ls.getD P 0 : Nat) : Int)⟩ := fun x hx => by
    obtain ⟨y, hy, rfl⟩ := (hb.1 x).1 hx
    obtain ⟨s, ls, h1, h2, h3, rfl⟩ := (pathE_mem hok (by omega) y).1 hy
    exact ⟨s, ls, h1, h2, h3, rfl⟩
  have hsz : ∀ x ∈ es, x.win.size = (P + 1 + F) * B := fun x hx => by
    obtain ⟨s, ls, h1, h2, h3, rfl⟩ := hent x hx
    have := encW_size hok ls s ByteArray.empty h1 h3
    rw [h2, show ByteArray.empty.size = 0 from rfl, Nat.zero_add] at this
    exact this
  refine ⟨?_, hsz⟩
  have hlen : es.length ≤ 65536 := by
    have h1 := built_len hb
    rw [pathE_len hok] at h1
    unfold manyP at hmany
    have := of_decide_eq_false hmany
    omega
  unfold decCheck
  rw [if_neg (by omega), if_neg (by omega), if_neg (by omega)]
  have h0 : ∀ i r, entBody l (B : Int) (I : Int) (P : Int) (F : Int) es i = some r → r ≠ 0 := fun i r h => by
    unfold entBody at h
    split at h
    · cases h; decide
    · split at h
      · cases h; assumption
      · split at h
        · cases h; decide
        · split at h
          · cases h; decide
          · cases h
  refine (firstFrom_zero_iff h0 _ _).2 fun i _ hi => ?_
  have hi : i < es.length := by omega
  have hg : ∀ i (hi : i < es.length), es.getD i default = es[i] := fun i hi => by rw [List.getD_eq_getElem?_getD, List.getElem?_eq_getElem hi]; rfl
  have hx := hsz es[i] (List.getElem_mem hi)
  obtain ⟨s, ls, h1, h2, h3, h4⟩ := hent es[i] (List.getElem_mem hi)
  have hin : ls.getD P 0 < I := by
    rw [List.getD_eq_getElem?_getD, List.getElem?_eq_getElem (by omega)]
    exact h3 _ (List.getElem_mem _)
  have hwc : wordCheck l (encW m s ls ByteArray.empty).1.data.toList = 0 := by
    have h5 := encW_in hok h1 h3
    rw [h2] at h5
    obtain ⟨s', hs', hx'⟩ := List.mem_flatMap.1 h5
    have hz : (encW m s ls ByteArray.empty).1.size = (P + 1 + F) * B := by rw [h4] at hx; exact hx
    refine wordCheck_of hl ?_ (wordsL_let hok hwd _ s' _ (List.mem_range.1 hs') (fun c hc => by cases hc) _ hx')
    have h6 : (P + 1 + F) * B ≤ 16 * 16 := Nat.mul_le_mul (by omega) (by omega)
    have h7 : (encW m s ls ByteArray.empty).1.data.toList.length = (encW m s ls ByteArray.empty).1.size := by simp
    omega
  unfold entBody
  rw [hg i hi]
  rw [if_neg (by rw [hx, Int.natCast_mul]; simp)]
  rw [if_neg (by rw [h4, hwc]; simp)]
  rw [if_neg (by rw [h4]; show ¬ (((ls.getD P 0 : Nat) : Int) < 0 ∨ (I : Int) ≤ ((ls.getD P 0 : Nat) : Int)); omega)]
  rw [if_neg]
  rintro ⟨h5, h6⟩
  rw [hg (i - 1) (by omega)] at h6
  have h7 := List.pairwise_iff_getElem.1 hb.2 (i - 1) i (by omega) hi (by omega)
  unfold leStr at h6
  rw [ba_toList, ba_toList] at h6
  rcases Bool.or_eq_true_iff.1 h6 with h8 | h8
  · rw [bless_lt] at h8; exact List.lt_irrefl _ (List.lt_trans h7 h8)
  · rw [beq_iff_eq] at h8; rw [h8] at h7; exact List.lt_irrefl _ h7
end Go.Proofs.Ytcafeffgaokiaaa
