/- The walks of propagation.replaced, propagation.changes, grooveref28.replaced, grooveref12.Same and slices.Equal. Plain facts: a word in which a letter has been replaced is a word again; what Changed returns. What encoders write: plain lists. -/
import Derived.Test.YtcafeffgaokiaaaJ2
import Derived.Deep.QuietTactic
import Derived.BigQuiet
import Derived.WalkSpells
import Derived.WalkLawsBesides
import Derived.Test.YtcafeffgaokiaaaJ3
import Derived.Test.YtcafeffgaokiaaaJ1
namespace Go.Proofs.Ytcafeffgaokiaaa
open Go.RowKit

/-- A word with another letter at a place. -/
def replS (s : ByteArray) (a c : Nat) : ByteArray := s.extract 0 a ++ ({ data := #[48, 49, 50, 51, 52, 53, 54, 55, 56, 57, 97, 98, 99, 100, 101, 102] } : ByteArray).extract c (c + 1) ++ s.extract (a + 1) s.size

set_option maxHeartbeats 1000000 in
theorem replaced_any (s : ByteArray) (a c : Nat) (ha : a < s.size) (hc : c < 16) (hs : s.size ≤ 9223372036854775806) (w : World) :
    Calls Try.prog 39 #[.string s, .int .i64 a, .int .i64 c] w fun e w' => e = .returned (.string (replS s a c)) ∧ Drawn w w' := by
  have h1 : (0 : Int) ≤ (a : Int) := by omega
  have h2 : (a : Int) < (s.size : Int) := by omega
  have h3 : (0 : Int) ≤ (c : Int) := by omega
  have h4 : (c : Int) < (16 : Int) := by omega
  have h5 : IntKind.i64.wrap ((c : Int) + 1) = (c : Int) + 1 := IntWalk.i64_in _ (by omega)
  have h6 : IntKind.i64.wrap ((a : Int) + 1) = (a : Int) + 1 := IntWalk.i64_in _ (by omega)
  have h7 : ((c : Int) + 1).toNat = c + 1 := by omega
  have h8 : ((a : Int) + 1).toNat = a + 1 := by omega
  go_enter Try.func39, Try.ntmps39
  go_wp2_with fail
  go_quiet (fail)
  go_wp2
  go_ret
  exact ⟨rfl, (Drawn.refl _).drewN _⟩
/-- The places below k at which two lists differ. -/
def diffsK (a b : List Int) (k : Nat) : List Int := ((List.range k).filter fun i => a.getD i 0 != b.getD i 0).map fun (i : Nat) => (i : Int)
/-- The places at which two lists differ. -/
def diffs (a b : List Int) : List Int := diffsK a b (min a.length b.length)
theorem diffsK_len (a b : List Int) (k : Nat) : (diffsK a b k).length ≤ k := by
  unfold diffsK
  rw [List.length_map]
  exact Nat.le_trans (List.length_filter_le _ _) (by simp)
theorem diffsK_hit {a b : List Int} {k : Nat} (h : (a.getD k 0 != b.getD k 0) = true) : diffsK a b (k + 1) = diffsK a b k ++ [(k : Int)] := by
  unfold diffsK; rw [List.range_succ, List.filter_append, List.map_append]
  simp only [List.filter_cons, h, if_true, List.filter_nil, List.map_cons, List.map_nil]
theorem diffsK_miss {a b : List Int} {k : Nat} (h : (a.getD k 0 != b.getD k 0) = false) : diffsK a b (k + 1) = diffsK a b k := by
  unfold diffsK; rw [List.range_succ, List.filter_append, List.map_append]
  simp only [List.filter_cons, h, Bool.false_eq_true, if_false, List.filter_nil, List.map_nil, List.append_nil]

set_option maxHeartbeats 2000000 in
theorem changes_any (a b : List Int) (pa pb : Option Addr) (ca cb : Nat) (w : World) (hA : IntsAt w pa a) (hB : IntsAt w pb b) (hl : b.length = a.length) (hla : a.length < 1000000000000) :
    Calls Try.prog 40 #[.slice pa a.length ca, .slice pb a.length cb] w fun e w' => ∃ v, e = .returned v ∧ OwnInts w' w.heap.size v (diffs a b) ∧ Below w.heap.size w w' := by
  have HA := Lib.hid hA
  have HB := Lib.hid hB
  have HL := Lib.hid hl
  have hD : diffs a b = diffsK a b a.length := by unfold diffs; rw [hl, Nat.min_self]
  have HD := Lib.hid hD
  clear hA hB hl hD
  go_enter Try.func40, Try.ntmps40
  go_wp2
  go_loopw [5, 12] (fun v i wr => ∃ k : Nat, k ≤ a.length ∧ i = .int .i64 k ∧ Below w.heap.size w wr ∧ Hid (OwnInts wr w.heap.size v (diffsK a b k))) (fun _ i _ => a.length - (intOf i).toNat)
  case atStart => exact ⟨0, by omega, rfl, Below.refl _ _, Lib.hid (OwnInts.nil _ _)⟩
  case round =>
    obtain ⟨k, hk, rfl, hd, Hown⟩ := hrel
    by_cases hlt : k < a.length
    · have hltb : k < b.length := by have := HL.out; omega
      obtain ⟨ab, ao, rfl, hab, hca⟩ := IntsAt.cells HA.out hlt
      obtain ⟨bb, bo, rfl, hbb, hcb⟩ := IntsAt.cells HB.out hltb
      have hxa := hca k hlt
      have hxb := hcb k hltb
      rw [← hd.cell (p := ⟨ab, _, none⟩) hab] at hxa
      rw [← hd.cell (p := ⟨bb, _, none⟩) hbb] at hxb
      obtain ⟨x, hx⟩ : ∃ x, a.getD k 0 = x := ⟨_, rfl⟩
      obtain ⟨y, hy⟩ : ∃ y, b.getD k 0 = y := ⟨_, rfl⟩
      rw [hx] at hxa
      rw [hy] at hxb
      have i0 : (0 : Int) ≤ (k : Int) := by omega
      have i1 : (k : Int) < (a.length : Int) := by omega
      have hsz := hd.size
      have hlen := diffsK_len a b k
      have Hd := Lib.hid hd
      have Hx := Lib.hid hx
      have Hy := Lib.hid hy
      clear hca hcb hd hx hy
      cases hne : (x != y)
      · have hv := Lib.hid (diffsK_miss (a := a) (b := b) (k := k) (by rw [Hx.out, Hy.out]; exact hne))
        go_wp2_with fail
        go_quiet (fail)
        go_wp2
        go_roundw
        case rel => exact ⟨k + 1, by omega, by go_num, below_dr Hd.out, Lib.hid (by rw [hv.out]; exact Hown.out.drewN _)⟩
        case measure => simp [intOf]; omega
      · have hv := Lib.hid (diffsK_hit (a := a) (b := b) (k := k) (by rw [Hx.out, Hy.out]; exact hne))
        go_wp2_with fail
        go_quiet (fail)
        go_wp2_with (at_builtin; refine wpList_append_int rfl _ _ rfl w.heap.size _ _ rfl ((Hown.out.drewN _).alloc _) wr.heap.size 1 k rfl ?_ ?_ ?_ ?_)
        · exact cell_new0 _ _ _
        · omega
        · simp; omega
        · intro v' w2 hown2 hgrow
          have Hb4 := Lib.hid (below_append ((below_dr Hd.out).alloc (by simp; omega) _) ((Hown.out.drewN _).alloc _) hgrow (by simp; omega) (Nat.le_refl _))
          have Hown2 := Lib.hid hown2
          clear hown2 hgrow
          go_wp2
          go_roundw
          case rel => exact ⟨k + 1, by omega, by go_num, Hb4.out, Lib.hid (by rw [hv.out]; exact Hown2.out)⟩
          case measure => simp [intOf]; omega
    · have hk' : k = a.length := by omega
      have Hk := Lib.hid hk'
      clear hk'
      go_wp2
      go_ret
      exact ⟨_, rfl, by rw [HD.out, ← Hk.out]; exact Hown.out, hd⟩

/-- Same, Equal: are two lists the same? -/
theorem same_step {a b : List Int} {k : Nat} (hl : a.length = b.length) (h : ∀ j, j < k → a.getD j 0 = b.getD j 0) (hk : ¬ k < a.length) : (a == b) = true := by
  rw [beq_iff_eq]
  apply List.ext_getElem hl
  intro n h1 h2
  have := h n (by omega)
  simpa [List.getD_eq_getElem?_getD, h1, h2] using this
theorem same_no {a b : List Int} {k : Nat} (h : (a.getD k 0 != b.getD k 0) = true) : (a == b) = false := by
  rw [beq_eq_false_iff_ne]; rintro rfl; simp at h
theorem same_len {a b : List Int} (h : ¬ a.length = b.length) : (a == b) = false := by
  rw [beq_eq_false_iff_ne]; rintro rfl; exact h rfl

set_option maxHeartbeats 2000000 in
theorem equal_any (a b : List Int) (pa pb : Option Addr) (ca cb : Nat) (w : World) (hA : IntsAt w pa a) (hB : IntsAt w pb b) (hla : a.length < 1000000000000) :
    Calls Try.prog 12 #[.slice pa a.length ca, .slice pb b.length cb] w fun e w' => e = .returned (.bool (a == b)) ∧ Drawn w w' := by
  have HA := Lib.hid hA
  have HB := Lib.hid hB
  clear hA hB
  by_cases hl : a.length = b.length
  case neg =>
    have hv := Lib.hid (same_len hl)
    have hl1 : ((a.length : Int) != (b.length : Int)) = true := by simp; omega
    clear hl
    go_enter Try.func12, Try.ntmps12
    go_wp2
    go_ret
    exact ⟨ret_bool hv.out.symm, Drawn.refl _⟩
  have hl1 : ((a.length : Int) != (b.length : Int)) = false := by simp; omega
  have HL := Lib.hid hl
  clear hl
  go_enter Try.func12, Try.ntmps12
  go_wp2
  go_loopw [13] (fun i wr => ∃ k : Nat, k ≤ a.length ∧ i = .int .i64 k ∧ Drawn w wr ∧ Hid (∀ j, j < k → a.getD j 0 = b.getD j 0)) (fun i _ => a.length - (intOf i).toNat)
  case atStart => exact ⟨0, by omega, rfl, Drawn.refl _, Lib.hid (fun j hj => by omega)⟩
  case round =>
    obtain ⟨k, hk, rfl, hd, hr⟩ := hrel
    by_cases hlt : k < a.length
    · have hltb : k < b.length := by have := HL.out; omega
      obtain ⟨ab, ao, rfl, hab, hca⟩ := IntsAt.cells HA.out hlt
      obtain ⟨bb, bo, rfl, hbb, hcb⟩ := IntsAt.cells HB.out hltb
      have hxa := hca k hlt
      have hxb := hcb k hltb
      rw [← hd.cell] at hxa hxb
      obtain ⟨x, hx⟩ : ∃ x, a.getD k 0 = x := ⟨_, rfl⟩
      obtain ⟨y, hy⟩ : ∃ y, b.getD k 0 = y := ⟨_, rfl⟩
      rw [hx] at hxa
      rw [hy] at hxb
      have i0 : (0 : Int) ≤ (k : Int) := by omega
      have i1 : (k : Int) < (a.length : Int) := by omega
      have i2 : (k : Int) < (b.length : Int) := by omega
      have Hd := Lib.hid hd
      have Hx := Lib.hid hx
      have Hy := Lib.hid hy
      clear hca hcb hd hx hy
      cases hne : (x != y)
      · have hj : ∀ j, j < k + 1 → a.getD j 0 = b.getD j 0 := fun j hj => by
          rcases Nat.lt_or_ge j k with h | h
          · exact hr.out j h
          · have : j = k := by omega
            subst this; rw [Hx.out, Hy.out]; simpa using hne
        have Hj := Lib.hid hj
        clear hj
        go_wp2_with fail
        go_quiet (fail)
        go_wp2
        go_roundw
        case rel => exact ⟨k + 1, by omega, by go_num, Hd.out.drewN _, Hj⟩
        case measure => simp [intOf]; omega
      · have hv := Lib.hid (same_no (a := a) (b := b) (k := k) (by rw [Hx.out, Hy.out]; exact hne))
        go_wp2_with fail
        go_quiet (fail)
        go_wp2
        go_ret
        exact ⟨ret_bool hv.out.symm, Hd.out.drewN _⟩
    · have hv := Lib.hid (same_step HL.out hr.out hlt)
      go_wp2
      go_ret
      exact ⟨ret_bool hv.out.symm, hd⟩
end Go.Proofs.Ytcafeffgaokiaaa
namespace Go.Proofs.Ytcafeffgaokiaaa
open Go.RowKit

theorem firstFrom_zero_iff {body : Nat → Option Int} (h0 : ∀ i r, body i = some r → r ≠ 0) : ∀ m k, firstFrom body 0 m k = 0 ↔ ∀ i, k ≤ i → i < k + m → body i = none
  | 0, k => by simp [firstFrom]; omega
  | m + 1, k => by
    simp only [firstFrom]
    cases hb : body k with
    | some r => simp only; constructor
                · intro h; exact absurd h (h0 k r hb)
                · intro h; have := h k (Nat.le_refl _) (by omega); rw [hb] at this; cases this
    | none =>
      simp only
      rw [firstFrom_zero_iff h0 m (k + 1)]
      constructor
      · intro h i h1 h2
        rcases Nat.lt_or_ge k i with h3 | h3
        · exact h i (by omega) (by omega)
        · have : i = k := by omega
          subst this; exact hb
      · intro h i h1 h2; exact h i (by omega) (by omega)

/-- A letter of the alphabet of q letters. -/
def isLet (q : Int) (c : UInt8) : Prop := 0 ≤ digit c ∧ digit c < q
theorem wordCheck_zero {q : Int} {l : List UInt8} : wordCheck q l = 0 ↔ (1 ≤ q ∧ q ≤ 16) ∧ l.length ≤ 65536 ∧ ∀ i, i < l.length → isLet q (l.getD i 0) := by
  unfold wordCheck
  by_cases h1 : q < 1 ∨ 16 < q
  · rw [if_pos h1]; constructor
    · intro h; omega
    · intro h; omega
  rw [if_neg h1]
  by_cases h2 : 65536 < l.length
  · rw [if_pos h2]; constructor
    · intro h; omega
    · intro h; omega
  rw [if_neg h2]
  have hb : ∀ (i : Nat) (r : Int), (if digit (l.getD i 0) < 0 ∨ q ≤ digit (l.getD i 0) then some (13 : Int) else none) = some r → r ≠ 0 := by
    intro i r h
    split at h
    · injection h with h; omega
    · cases h
  rw [firstFrom_zero_iff hb]
  constructor
  · intro h
    refine ⟨by omega, by omega, fun i hi => ?_⟩
    have := h i (Nat.zero_le _) (by omega)
    by_cases h3 : digit (l.getD i 0) < 0 ∨ q ≤ digit (l.getD i 0)
    · rw [if_pos h3] at this; cases this
    · exact ⟨by omega, by omega⟩
  · intro ⟨_, _, h⟩ i _ hi
    have := h i (by omega)
    unfold isLet at this
    rw [if_neg (by omega)]
theorem replS_list (s : ByteArray) (a c : Nat) (hc : c < 16) : (replS s a c).data.toList = s.data.toList.take a ++ letters.getD c 0 :: s.data.toList.drop (a + 1) := by
  have hl : ∀ c, c < 16 → (({ data := #[48, 49, 50, 51, 52, 53, 54, 55, 56, 57, 97, 98, 99, 100, 101, 102] } : ByteArray).extract c (c + 1)).data.toList = [letters.getD c 0] := by decide
  have h1 : (s.extract 0 a).data.toList = s.data.toList.take a := by simp
  have h2 : (s.extract (a + 1) s.size).data.toList = s.data.toList.drop (a + 1) := by
    rw [ByteArray.data_extract, Array.toList_extract, List.extract_eq_take_drop, List.take_of_length_le]
    rw [List.length_drop]; exact Nat.le_refl _
  unfold replS
  rw [ByteArray.data_append, ByteArray.data_append, Array.toList_append, Array.toList_append, h1, h2, hl c hc]
  simp
theorem replS_size (s : ByteArray) (a c : Nat) (ha : a < s.size) (hc : c < 16) : (replS s a c).size = s.size := by
  have h : (replS s a c).data.toList.length = s.data.toList.length := by
    rw [replS_list s a c hc]
    have h : s.data.toList.length = s.size := by simp
    simp only [List.length_append, List.length_take, List.length_cons, List.length_drop]
    omega
  simpa using h
theorem digit_letter : ∀ c, c < 16 → digit (letters.getD c 0) = c := by decide
theorem replS_word {l : Int} {s : ByteArray} {a c : Nat} (ha : a < s.size) (hc : c < 16) (hcl : (c : Int) < l) (h : wordCheck l s.data.toList = 0) : wordCheck l (replS s a c).data.toList = 0 := by
  rw [wordCheck_zero] at h ⊢
  obtain ⟨h1, h2, h3⟩ := h
  have hlen : s.data.toList.length = s.size := by simp
  have hlen2 : (replS s a c).data.toList.length = s.size := by have := replS_size s a c ha hc; simpa using this
  refine ⟨h1, by omega, fun i hi => ?_⟩
  rw [hlen2] at hi
  rw [replS_list s a c hc]
  have hta : (s.data.toList.take a).length = a := by rw [List.length_take]; omega
  rcases Nat.lt_trichotomy i a with hlt | rfl | hgt
  · have : (s.data.toList.take a ++ letters.getD c 0 :: s.data.toList.drop (a + 1)).getD i 0 = s.data.toList.getD i 0 := by
      rw [List.getD_eq_getElem?_getD, List.getElem?_append_left (by omega), List.getElem?_take_of_lt hlt, List.getD_eq_getElem?_getD]
    rw [this]; exact h3 i (by omega)
  · have : (s.data.toList.take i ++ letters.getD c 0 :: s.data.toList.drop (i + 1)).getD i 0 = letters.getD c 0 := by
      rw [List.getD_eq_getElem?_getD, List.getElem?_append_right (by omega), hta]; simp
    rw [this]
    unfold isLet
    rw [digit_letter c hc]; omega
  · have : (s.data.toList.take a ++ letters.getD c 0 :: s.data.toList.drop (a + 1)).getD i 0 = s.data.toList.getD i 0 := by
      rw [List.getD_eq_getElem?_getD, List.getElem?_append_right (by omega), hta]
      obtain ⟨m, rfl⟩ : ∃ m, i = a + 1 + m := ⟨i - a - 1, by omega⟩
      rw [show a + 1 + m - a = m + 1 from by omega, List.getElem?_cons_succ, List.getElem?_drop, List.getD_eq_getElem?_getD]
    rw [this]; exact h3 i (by omega)
theorem decErr_zero {l b i p f : Int} {es : List Ent} {s : ByteArray} : decErr l b i p f es s = 0 ↔ decCheck l b i p f es = 0 ∧ wordCheck l s.data.toList = 0 ∧ (s.size : Int) % b = 0 := by
  unfold decErr
  by_cases h1 : decCheck l b i p f es ≠ 0
  · rw [if_pos h1]; constructor
    · intro h; omega
    · intro h; exact absurd h.1 h1
  rw [if_neg h1]
  by_cases h2 : wordCheck l s.data.toList ≠ 0
  · rw [if_pos h2]; constructor
    · intro h; exact absurd h h2
    · intro h; exact absurd h.2.1 h2
  rw [if_neg h2]
  by_cases h3 : (s.size : Int) % b ≠ 0
  · rw [if_pos h3]; constructor
    · intro h; omega
    · intro h; exact absurd h.2.2 h3
  rw [if_neg h3]
  simp only [ne_eq, Classical.not_not] at h1 h2 h3
  simp [h1, h2, h3]
theorem replS_err {l b i p f : Int} {es : List Ent} {s : ByteArray} {a c : Nat} (ha : a < s.size) (hc : c < 16) (hcl : (c : Int) < l) (h : decErr l b i p f es s = 0) : decErr l b i p f es (replS s a c) = 0 := by
  rw [decErr_zero] at h ⊢
  exact ⟨h.1, replS_word ha hc hcl h.2.1, by rw [replS_size s a c ha hc]; exact h.2.2⟩
theorem decList_len (b p f : Int) (es : List Ent) (s : ByteArray) : (decList b p f es s).length = winCount s.size ((p + 1 + f) * b).toNat b.toNat := by simp [decList]
theorem winCount_le {s n b : Nat} : winCount s n b ≤ s + 1 := by
  unfold winCount; split
  · have := Nat.div_le_self (s - n) b; omega
  · omega
theorem decOut_len {l b i p f : Int} {es : List Ent} {s : ByteArray} (h : decErr l b i p f es s = 0) : (decOut l b i p f es s).length = winCount s.size ((p + 1 + f) * b).toNat b.toNat := by
  unfold decOut; rw [if_pos h]; exact decList_len _ _ _ _ _
/-- Why Changed returns nothing. -/
def chErr (l b i p f : Int) (es : List Ent) (s : ByteArray) (a c : Int) : Int :=
  if decErr l b i p f es s ≠ 0 then decErr l b i p f es s else if a < 0 ∨ (s.size : Int) ≤ a then 2 else if c < 0 ∨ l ≤ c then 13 else 0
/-- What Changed returns. -/
def chOut (l b i p f : Int) (es : List Ent) (s : ByteArray) (a c : Int) : List Int :=
  if chErr l b i p f es s a c = 0 then diffs (decOut l b i p f es s) (decOut l b i p f es (replS s a.toNat c.toNat)) else []
end Go.Proofs.Ytcafeffgaokiaaa
namespace Go.Proofs.Ytcafeffgaokiaaa
open Go.RowKit
/-- A valid encoder: rows of I cells, states of the encoder, words of B letters. -/
structure EM.Ok (m : EM) (I B : Nat) : Prop where
  len : ∀ s, s < m.r → m.L s = I
  to0 : ∀ s k, s < m.r → k < I → 0 ≤ m.T s k
  to1 : ∀ s k, s < m.r → k < I → (m.T s k).toNat < m.r
  wd : ∀ s k, s < m.r → k < I → (m.D s k).size = B
/-- What can be written from a state behind a word, n cells on. -/
def wordsL (m : EM) : Nat → Nat → ByteArray → List ByteArray
  | 0, _, w => [w]
  | n + 1, s, w => (List.range (m.L s)).flatMap fun k => wordsL m n (m.T s k).toNat (w ++ m.D s k)
/-- .. of the first j cells of the state. -/
def wordsK (m : EM) (n s : Nat) (w : ByteArray) (j : Nat) : List ByteArray := (List.range j).flatMap fun k => wordsL m n (m.T s k).toNat (w ++ m.D s k)
theorem wordsK_succ (m : EM) (n s : Nat) (w : ByteArray) (j : Nat) : wordsK m n s w (j + 1) = wordsK m n s w j ++ wordsL m n (m.T s j).toNat (w ++ m.D s j) := by
  unfold wordsK
  rw [List.range_succ, List.flatMap_append]
  simp
/-- All written words of n blocks. -/
def wordsE (m : EM) (n : Nat) : List ByteArray := (List.range m.r).flatMap fun s => wordsL m n s ByteArray.empty
def wordsS (m : EM) (n j : Nat) : List ByteArray := (List.range j).flatMap fun s => wordsL m n s ByteArray.empty
theorem wordsS_succ (m : EM) (n j : Nat) : wordsS m n (j + 1) = wordsS m n j ++ wordsL m n j ByteArray.empty := by
  unfold wordsS
  rw [List.range_succ, List.flatMap_append]
  simp
def inF (I : Nat) : Nat → List (List Nat)
  | 0 => [[]]
  | n + 1 => (List.range I).flatMap fun x => (inF I n).map (x :: ·)
/-- What the inputs l write from the state s, and where they end. -/
def encW (m : EM) : Nat → List Nat → ByteArray → ByteArray × Nat
  | s, [], w => (w, s)
  | s, x :: l, w => encW m (m.T s x).toNat l (w ++ m.D s x)
theorem wordsL_enc {m : EM} {I B : Nat} (hm : m.Ok I B) : ∀ n s w, s < m.r → wordsL m n s w = (inF I n).map fun l => (encW m s l w).1
  | 0, _, _, _ => rfl
  | n + 1, s, w, hs => by
    show (List.range (m.L s)).flatMap _ = ((List.range I).flatMap fun x => (inF I n).map (x :: ·)).map _
    rw [hm.len s hs, List.map_flatMap]
    have key : ∀ L : List Nat, (∀ x ∈ L, x < I) → L.flatMap (fun k => wordsL m n (m.T s k).toNat (w ++ m.D s k)) = L.flatMap fun x => ((inF I n).map (x :: ·)).map fun l => (encW m s l w).1 := by
      intro L
      induction L with
      | nil => intro _; rfl
      | cons x L ih =>
        intro h
        rw [List.flatMap_cons, List.flatMap_cons, ih fun y hy => h y (List.mem_cons_of_mem _ hy)]
        congr 1
        rw [wordsL_enc hm n _ _ (hm.to1 s x hs (h x List.mem_cons_self)), List.map_map]
        rfl
    exact key _ fun x hx => List.mem_range.1 hx
/-- The sizes of written words. -/
theorem wordsL_size {m : EM} {I B : Nat} (hm : m.Ok I B) : ∀ n s w, s < m.r → ∀ x ∈ wordsL m n s w, x.size = w.size + n * B
  | 0, _, w, _, x, hx => by
    rw [wordsL, List.mem_singleton] at hx
    rw [hx]; omega
  | n + 1, s, w, hs, x, hx => by
    rw [wordsL, List.mem_flatMap] at hx
    obtain ⟨k, hk, hx⟩ := hx
    have hkI : k < I := by rw [← hm.len s hs]; exact List.mem_range.1 hk
    have h1 := wordsL_size hm n _ _ (hm.to1 s k hs hkI) x hx
    rw [h1, ByteArray.size_append, hm.wd s k hs hkI, Nat.add_mul]
    omega
/-- A valid encoder by what Check finds. -/
theorem encCheck_ok {l b i : Int} {m : EM} (h : encCheck l b i m = 0) : (1 ≤ l ∧ l ≤ 16) ∧ (1 ≤ b ∧ b ≤ 16) ∧ (1 ≤ i ∧ i ≤ 256) ∧ (0 < m.r ∧ m.r ≤ 64) ∧ m.Ok i.toNat b.toNat ∧ ∀ s k, s < m.r → k < m.L s → wordCheck l (m.D s k).data.toList = 0 := by
  unfold encCheck at h
  split at h
  · cases h
  split at h
  · cases h
  split at h
  · cases h
  split at h
  · cases h
  rename_i h1 h2 h3 h4
  have hb0 : ∀ s r, encRowB l b i m s = some r → r ≠ 0 := fun s r hr => by
    unfold encRowB at hr
    split at hr
    · cases hr; decide
    · split at hr
      · cases hr; assumption
      · cases hr
  have hrow := (firstFrom_zero_iff hb0 m.r 0).1 h
  have hrow2 : ∀ s, s < m.r → (m.L s : Int) = i ∧ encRowV l b m s = 0 := fun s hs => by
    have hr := hrow s (Nat.zero_le _) (by omega)
    unfold encRowB at hr
    split at hr
    · cases hr
    · split at hr
      · cases hr
      · rename_i a1 a2
        exact ⟨by omega, by omega⟩
  have hc0 : ∀ s k r, encCellB l b m s k = some r → r ≠ 0 := fun s k r hr => by
    unfold encCellB at hr
    split at hr
    · cases hr; decide
    · split at hr
      · cases hr; decide
      · cases hr
  have hcell : ∀ s k, s < m.r → k < m.L s → (0 ≤ m.T s k ∧ m.T s k < m.r) ∧ ((m.D s k).size : Int) = b ∧ wordCheck l (m.D s k).data.toList = 0 := fun s k hs hk => by
    have hv := (hrow2 s hs).2
    have hr := (firstFrom_zero_iff (hc0 s) (m.L s) 0).1 hv k (Nat.zero_le _) (by omega)
    unfold encCellB at hr
    split at hr
    · cases hr
    · split at hr
      · cases hr
      · rename_i a1 a2
        refine ⟨⟨by omega, by omega⟩, ?_, ?_⟩
        · exact Classical.byContradiction fun hh => a2 (.inl hh)
        · exact Classical.byContradiction fun hh => a2 (.inr hh)
  have hlen : ∀ s, s < m.r → m.L s = i.toNat := fun s hs => by have := (hrow2 s hs).1; omega
  refine ⟨by omega, by omega, by omega, by omega, ⟨hlen, fun s k hs hk => ?_, fun s k hs hk => ?_, fun s k hs hk => ?_⟩, fun s k hs hk => (hcell s k hs hk).2.2⟩
  · exact (hcell s k hs (by rw [hlen s hs]; exact hk)).1.1
  · have := (hcell s k hs (by rw [hlen s hs]; exact hk)).1; omega
  · have := (hcell s k hs (by rw [hlen s hs]; exact hk)).2.1; omega
end Go.Proofs.Ytcafeffgaokiaaa
