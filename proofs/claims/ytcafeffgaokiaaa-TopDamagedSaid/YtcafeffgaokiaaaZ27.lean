/- What a decoder with all windows decodes of what the encoder writes: plain. -/
import Derived.Test.YtcafeffgaokiaaaZ24
import Derived.Test.YtcafeffgaokiaaaZ25
import Derived.Test.YtcafeffgaokiaaaZ20
import Derived.Test.YtcafeffgaokiaaaZ26
namespace Go.Proofs.Ytcafeffgaokiaaa
open Go.RowKit Go.Lib Go.Sort
theorem encW_app (m : EM) : ∀ (l1 l2 : List Nat) (s : Nat) (w : ByteArray), encW m s (l1 ++ l2) w = encW m (encW m s l1 w).2 l2 (encW m s l1 w).1
  | [], _, _, _ => rfl
  | x :: l1, l2, s, w => encW_app m l1 l2 (m.T s x).toNat (w ++ m.D s x)
theorem ba_nil_right (a : ByteArray) : a ++ ByteArray.empty = a := by
  apply ba_same
  rw [ByteArray.data_append, Array.toList_append, show ByteArray.empty.data.toList = [] from rfl, List.append_nil]
theorem encW_pre (m : EM) : ∀ (l : List Nat) (s : Nat) (w : ByteArray), encW m s l w = (w ++ (encW m s l ByteArray.empty).1, (encW m s l ByteArray.empty).2)
  | [], s, w => by
    show (w, s) = (w ++ ByteArray.empty, s)
    rw [ba_nil_right]
  | x :: l, s, w => by
    show encW m (m.T s x).toNat l (w ++ m.D s x) = (w ++ (encW m (m.T s x).toNat l (ByteArray.empty ++ m.D s x)).1, (encW m (m.T s x).toNat l (ByteArray.empty ++ m.D s x)).2)
    rw [encW_pre m l _ (w ++ m.D s x), encW_pre m l _ (ByteArray.empty ++ m.D s x), ba_nil_left, ba_assoc]
theorem encW_st {m : EM} {I B : Nat} (hm : m.Ok I B) : ∀ (l : List Nat) (s : Nat) (w : ByteArray), s < m.r → (∀ x ∈ l, x < I) → (encW m s l w).2 < m.r
  | [], _, _, hs, _ => hs
  | x :: l, s, w, hs, hl => encW_st hm l _ _ (hm.to1 s x hs (hl x List.mem_cons_self)) fun y hy => hl y (List.mem_cons_of_mem _ hy)
theorem encW_size {m : EM} {I B : Nat} (hm : m.Ok I B) : ∀ (l : List Nat) (s : Nat) (w : ByteArray), s < m.r → (∀ x ∈ l, x < I) → (encW m s l w).1.size = w.size + l.length * B
  | [], _, w, _, _ => by show w.size = _; simp
  | x :: l, s, w, hs, hl => by
    have hx := hl x List.mem_cons_self
    show (encW m (m.T s x).toNat l (w ++ m.D s x)).1.size = _
    rw [encW_size hm l _ _ (hm.to1 s x hs hx) fun y hy => hl y (List.mem_cons_of_mem _ hy), ByteArray.size_append, hm.wd s x hs hx, List.length_cons, Nat.add_mul]
    omega
theorem inF_in {I : Nat} : ∀ (n : Nat) (l : List Nat), l.length = n → (∀ x ∈ l, x < I) → l ∈ inF I n
  | 0, l, h, _ => by rw [List.length_eq_zero_iff.1 h]; exact List.mem_singleton_self _
  | n + 1, [], h, _ => by cases h
  | n + 1, x :: l, h, hl => by
    rw [inF]
    refine List.mem_flatMap.2 ⟨x, List.mem_range.2 (hl x (List.mem_cons_self ..)), List.mem_map.2 ⟨l, inF_in n l (by simpa using h) (fun y hy => hl y (List.mem_cons_of_mem _ hy)), rfl⟩⟩
theorem encW_in {m : EM} {I B : Nat} (hm : m.Ok I B) {s : Nat} (hs : s < m.r) {l : List Nat} (hl : ∀ x ∈ l, x < I) : (encW m s l ByteArray.empty).1 ∈ wordsE m l.length := by
  unfold wordsE
  refine List.mem_flatMap.2 ⟨s, List.mem_range.2 hs, ?_⟩
  rw [wordsL_enc hm _ s _ hs]
  exact List.mem_map.2 ⟨l, inF_in _ l rfl hl, rfl⟩
theorem ba_mid (a b c : ByteArray) : (a ++ b ++ c).extract a.size (a.size + b.size) = b := by
  apply ba_same
  rw [extract_list]
  have ha : a.size = a.data.toList.length := by simp
  have hb : b.size = b.data.toList.length := by simp
  rw [ByteArray.data_append, ByteArray.data_append, Array.toList_append, Array.toList_append, ha, hb, List.append_assoc, List.drop_left, List.take_left]
/-- A window of what is written: it is written from a state on, with the inputs there. -/
theorem encW_win {m : EM} {I B : Nat} (hm : m.Ok I B) {s : Nat} (hs : s < m.r) {l : List Nat} (hl : ∀ x ∈ l, x < I) {k n : Nat} (h : k + n ≤ l.length) :
    ∃ t, t < m.r ∧ (encW m s l ByteArray.empty).1.extract (k * B) (k * B + n * B) = (encW m t ((l.drop k).take n) ByteArray.empty).1 := by
  have h1 : ∀ x ∈ l.take k, x < I := fun x hx => hl x (List.mem_of_mem_take hx)
  have h2 : ∀ x ∈ (l.drop k).take n, x < I := fun x hx => hl x (List.mem_of_mem_drop (List.mem_of_mem_take hx))
  have ht := encW_st hm (l.take k) s ByteArray.empty hs h1
  refine ⟨_, ht, ?_⟩
  have e : l = l.take k ++ ((l.drop k).take n ++ (l.drop k).drop n) := by rw [List.take_append_drop, List.take_append_drop]
  have s1 := encW_size hm (l.take k) s ByteArray.empty hs h1
  have s2 := encW_size hm ((l.drop k).take n) _ ByteArray.empty ht h2
  have z0 : ByteArray.empty.size = 0 := rfl
  rw [z0, Nat.zero_add, List.length_take, Nat.min_eq_left (by omega)] at s1
  rw [z0, Nat.zero_add, List.length_take, List.length_drop, Nat.min_eq_left (by omega)] at s2
  have e2 : (encW m s l ByteArray.empty).1 = (encW m s (l.take k) ByteArray.empty).1 ++ (encW m (encW m s (l.take k) ByteArray.empty).2 ((l.drop k).take n) ByteArray.empty).1 ++ (encW m (encW m (encW m s (l.take k) ByteArray.empty).2 ((l.drop k).take n) ByteArray.empty).2 ((l.drop k).drop n) ByteArray.empty).1 := by
    conv => lhs; rw [e]
    rw [encW_app, encW_app, encW_pre m ((l.drop k).drop n), encW_pre m ((l.drop k).take n)]
  rw [e2, ← s1, ← s2]
  exact ba_mid _ _ _
/-- Binary search where the predicate turns once. -/
theorem bsr_turn {less : Nat → Bool} {j : Nat} : ∀ (d lo hi : Nat), hi - lo ≤ d → lo ≤ j → j ≤ hi → (∀ i, lo ≤ i → i < j → less i = true) → (∀ i, j ≤ i → i < hi → less i = false) → bsr less lo hi = j
  | 0, lo, hi, hd, h1, h2, _, _ => by rw [bsr_end (by omega)]; omega
  | d + 1, lo, hi, hd, h1, h2, h3, h4 => by
    by_cases hlt : lo < hi
    · rw [bsr_step hlt]
      by_cases hm : (lo + hi) / 2 < j
      · rw [if_pos (h3 _ (by omega) hm)]
        exact bsr_turn d _ _ (by omega) (by omega) h2 (fun i a b => h3 i (by omega) b) h4
      · rw [if_neg (by rw [h4 _ (by omega) (by omega)]; decide)]
        exact bsr_turn d _ _ (by omega) h1 (by omega) h3 (fun i a b => h4 i a (by omega))
    · rw [bsr_end hlt]; omega
theorem find_sorted {es : List Ent} (hp : es.Pairwise fun a b => a.win.data.toList < b.win.data.toList) {x : Ent} (hx : x ∈ es) : findE es x.win = (x.inp, true) := by
  obtain ⟨j, hj, rfl⟩ := List.getElem_of_mem hx
  have hg : ∀ i (hi : i < es.length), es.getD i default = es[i] := fun i hi => by rw [List.getD_eq_getElem?_getD, List.getElem?_eq_getElem hi]; rfl
  have hpl : placeOf es es[j].win = j := by
    unfold placeOf
    refine bsr_turn es.length 0 es.length (by omega) (Nat.zero_le _) (Nat.le_of_lt hj) (fun i _ hi => ?_) (fun i hi hi2 => ?_)
    · rw [ba_toList, ba_toList, hg i (by omega), bless_lt]
      exact List.pairwise_iff_getElem.1 hp i j (by omega) hj hi
    · rw [ba_toList, ba_toList, hg i hi2]
      refine Bool.eq_false_iff.2 fun h => ?_
      rw [bless_lt] at h
      by_cases e : i = j
      · subst e; exact List.lt_irrefl _ h
      · exact List.lt_irrefl _ (List.lt_trans h (List.pairwise_iff_getElem.1 hp j i hj hi2 (by omega)))
  have hh : hasAt es es[j].win = true := by
    unfold hasAt
    rw [hpl, hg j hj]
    simp [hj]
  unfold findE
  rw [if_pos hh, hpl, hg j hj]
theorem len_subset : ∀ (al bs : List (List UInt8)), al.Nodup → al ⊆ bs → al.length ≤ bs.length
  | [], _, _, _ => Nat.zero_le _
  | a :: al, bs, hn, hs => by
    have ha : a ∈ bs := hs List.mem_cons_self
    obtain ⟨h1, h2⟩ := List.nodup_cons.1 hn
    have h3 := len_subset al (bs.erase a) h2 fun x hx => by
      have hxa : x ≠ a := fun e => h1 (e ▸ hx)
      exact (List.mem_erase_of_ne hxa).2 (hs (List.mem_cons_of_mem _ hx))
    rw [List.length_erase_of_mem ha] at h3
    have := List.length_pos_of_mem ha
    rw [List.length_cons]
    omega
/-- No more entries than paths. -/
theorem built_len {ps : List (ByteArray × Nat)} {es : List Ent} (h : Built ps es) : es.length ≤ ps.length := by
  have hn : (es.map (·.win.data.toList)).Nodup := by
    have hp : (es.map (·.win.data.toList)).Pairwise (fun a b : List UInt8 => a < b) := List.pairwise_map.2 h.2
    refine List.Pairwise.imp ?_ hp
    intro a b hab e
    rw [e] at hab
    exact List.lt_irrefl _ hab
  have hs : (es.map (·.win.data.toList)) ⊆ ps.map (·.1.data.toList) := by
    intro w hw
    obtain ⟨x, hx, rfl⟩ := List.mem_map.1 hw
    obtain ⟨y, hy, rfl⟩ := (h.1 x).1 hx
    exact List.mem_map.2 ⟨y, hy, rfl⟩
  have := len_subset _ _ hn hs
  rwa [List.length_map, List.length_map] at this
theorem winCount_mul {B : Nat} (hB : 0 < B) (x n : Nat) : winCount (x * B) (n * B) B = x + 1 - n := by
  unfold winCount
  by_cases h : n ≤ x
  · rw [if_pos (Nat.mul_le_mul_right _ h), ← Nat.sub_mul, Nat.mul_div_cancel _ hB]; omega
  · rw [if_neg (by have := Nat.mul_lt_mul_of_pos_right (show x < n by omega) hB; omega)]; omega
/-- The decoder is valid. -/
theorem built_check {l : Int} {B I : Nat} {m : EM} (he : encCheck l (B : Int) (I : Int) m = 0) {P F : Nat} (hPF : P + F < 16) {es : List Ent} (hb : Built (pathE m P (P + 1 + F)) es) (hmany : manyP m.r I (P + 1 + F) = false) :
    decCheck l (B : Int) (I : Int) (P : Int) (F : Int) es = 0 ∧ ∀ x ∈ es, x.win.size = (P + 1 + F) * B := by
  obtain ⟨hl, hB, hI, hr, hok, hwd⟩ := encCheck_ok he
  rw [Int.toNat_natCast, Int.toNat_natCast] at hok
  have hent : ∀ x ∈ es, ∃ s ls, s < m.r ∧ ls.length = P + 1 + F ∧ (∀ y ∈ ls, y < I) ∧ x = ⟨(encW m s ls ByteArray.empty).1, ((ls.getD P 0 : Nat) : Int)⟩ := fun x hx => by
    obtain ⟨y, hy, rfl⟩ := (hb.1 x).1 hx
    obtain ⟨s, ls, h1, h2, h3, rfl⟩ := (pathE_mem hok (by omega) y).1 hy
    exact ⟨s, ls, h1, h2, h3, rfl⟩
  have hsz : ∀ x ∈ es, x.win.size = (P + 1 + F) * B := fun x hx => by
    obtain ⟨s, ls, h1, h2, h3, rfl⟩ := hent x hx
    have := encW_size hok ls s ByteArray.empty h1 h3
    rw [h2, show ByteArray.empty.size = 0 from rfl, Nat.zero_add] at this
    exact this
  refine ⟨?_, hsz⟩
  have hlen : es.length ≤ 65536 := by
    have h1 := built_len hb
    rw [pathE_len hok] at h1
    unfold manyP at hmany
    have := of_decide_eq_false hmany
    omega
  unfold decCheck
  rw [if_neg (by omega), if_neg (by omega), if_neg (by omega)]
  have h0 : ∀ i r, entBody l (B : Int) (I : Int) (P : Int) (F : Int) es i = some r → r ≠ 0 := fun i r h => by
    unfold entBody at h
    split at h
    · cases h; decide
    · split at h
      · cases h; assumption
      · split at h
        · cases h; decide
        · split at h
          · cases h; decide
          · cases h
  refine (firstFrom_zero_iff h0 _ _).2 fun i _ hi => ?_
  have hi : i < es.length := by omega
  have hg : ∀ i (hi : i < es.length), es.getD i default = es[i] := fun i hi => by rw [List.getD_eq_getElem?_getD, List.getElem?_eq_getElem hi]; rfl
  have hx := hsz es[i] (List.getElem_mem hi)
  obtain ⟨s, ls, h1, h2, h3, h4⟩ := hent es[i] (List.getElem_mem hi)
  have hin : ls.getD P 0 < I := by
    rw [List.getD_eq_getElem?_getD, List.getElem?_eq_getElem (by omega)]
    exact h3 _ (List.getElem_mem _)
  have hwc : wordCheck l (encW m s ls ByteArray.empty).1.data.toList = 0 := by
    have h5 := encW_in hok h1 h3
    rw [h2] at h5
    obtain ⟨s', hs', hx'⟩ := List.mem_flatMap.1 h5
    have hz : (encW m s ls ByteArray.empty).1.size = (P + 1 + F) * B := by rw [h4] at hx; exact hx
    refine wordCheck_of hl ?_ (wordsL_let hok hwd _ s' _ (List.mem_range.1 hs') (fun c hc => by cases hc) _ hx')
    have h6 : (P + 1 + F) * B ≤ 16 * 16 := Nat.mul_le_mul (by omega) (by omega)
    have h7 : (encW m s ls ByteArray.empty).1.data.toList.length = (encW m s ls ByteArray.empty).1.size := by simp
    omega
  unfold entBody
  rw [hg i hi]
  rw [if_neg (by rw [hx, Int.natCast_mul]; simp)]
  rw [if_neg (by rw [h4, hwc]; simp)]
  rw [if_neg (by rw [h4]; show ¬ (((ls.getD P 0 : Nat) : Int) < 0 ∨ (I : Int) ≤ ((ls.getD P 0 : Nat) : Int)); omega)]
  rw [if_neg]
  rintro ⟨h5, h6⟩
  rw [hg (i - 1) (by omega)] at h6
  have h7 := List.pairwise_iff_getElem.1 hb.2 (i - 1) i (by omega) hi (by omega)
  unfold leStr at h6
  rw [ba_toList, ba_toList] at h6
  rcases Bool.or_eq_true_iff.1 h6 with h8 | h8
  · rw [bless_lt] at h8; exact List.lt_irrefl _ (List.lt_trans h7 h8)
  · rw [beq_iff_eq] at h8; rw [h8] at h7; exact List.lt_irrefl _ h7
/-- What is decoded of what is written: the inputs but the first P and the last F ones. -/
theorem built_decode {l : Int} {B I : Nat} {m : EM} (he : encCheck l (B : Int) (I : Int) m = 0) {P F : Nat} (hPF : P + F < 16) {es : List Ent} (hb : Built (pathE m P (P + 1 + F)) es) (hmany : manyP m.r I (P + 1 + F) = false) {s : Nat} (hs : s < m.r) {ls : List Nat} (hls : ∀ x ∈ ls, x < I) (hn : ls.length ≤ 16) :
    (encW m s ls ByteArray.empty).1.size = ls.length * B ∧ decErr l (B : Int) (I : Int) (P : Int) (F : Int) es (encW m s ls ByteArray.empty).1 = 0 ∧
      decOut l (B : Int) (I : Int) (P : Int) (F : Int) es (encW m s ls ByteArray.empty).1 = ((intsN ls).drop P).take (ls.length - P - F) := by
  obtain ⟨hl, hB, hI, hr, hok, hwd⟩ := encCheck_ok he
  rw [Int.toNat_natCast, Int.toNat_natCast] at hok
  obtain ⟨hck, hsz⟩ := built_check he hPF hb hmany
  obtain ⟨hz, hd⟩ := words_dec he hck hn _ (encW_in hok hs hls)
  rw [Int.toNat_natCast] at hz
  refine ⟨hz, hd, ?_⟩
  unfold decOut decList
  have en : (((P : Int) + 1 + (F : Int)) * (B : Int)).toNat = (P + 1 + F) * B := by
    rw [show ((P : Int) + 1 + (F : Int)) * (B : Int) = (((P + 1 + F) * B : Nat) : Int) from by rw [Int.natCast_mul]; rfl, Int.toNat_natCast]
  rw [if_pos hd, en, Int.toNat_natCast, hz, winCount_mul (by omega)]
  refine List.ext_getElem (by simp [intsN]; omega) fun k h1 h2 => ?_
  rw [List.length_map, List.length_range] at h1
  rw [List.getElem_map, List.getElem_range, List.getElem_take, List.getElem_drop]
  unfold intsN
  rw [List.getElem_map]
  obtain ⟨t, ht, hw⟩ := encW_win hok hs hls (k := k) (n := P + 1 + F) (by omega)
  have hmem : (⟨(encW m t ((ls.drop k).take (P + 1 + F)) ByteArray.empty).1, ((ls[P + k]'(by omega) : Nat) : Int)⟩ : Ent) ∈ es := by
    refine (hb.1 _).2 ⟨((encW m t ((ls.drop k).take (P + 1 + F)) ByteArray.empty).1, ls[P + k]'(by omega)), ?_, rfl⟩
    refine (pathE_mem hok (by omega) _).2 ⟨t, (ls.drop k).take (P + 1 + F), ht, by simp; omega, fun y hy => hls y (List.mem_of_mem_drop (List.mem_of_mem_take hy)), ?_⟩
    congr 1
    rw [List.getD_eq_getElem?_getD, List.getElem?_take_of_lt (by omega), List.getElem?_drop, List.getElem?_eq_getElem (by omega), Option.getD_some]
    congr 1
    omega
  have hf := find_sorted hb.2 hmem
  unfold decAt
  rw [hw, hf]
  rfl
end Go.Proofs.Ytcafeffgaokiaaa
