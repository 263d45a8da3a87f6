/- The walks of word.Check and of grooveref07.Check: what each returns, for every number and string. -/
import Derived.Test.YtcafeffgaokiaaaRows
import Derived.Test.YtcafeffgaokiaaaK0
import Derived.Test.YtcafeffgaokiaaaShelfA
import Derived.WalkKit
import Derived.WalkSpells
import Derived.WalkLawsBesides
import Derived.Deep.QuietTactic
import Derived.BigQuiet
import Derived.Lib.Hide
namespace Go.Proofs.Ytcafeffgaokiaaa
open Go.RowKit

/-- The letters of all alphabets. -/
def letters : List UInt8 := [48, 49, 50, 51, 52, 53, 54, 55, 56, 57, 97, 98, 99, 100, 101, 102]
/-- The number of a letter; -1 if it is none. -/
def digit (c : UInt8) : Int := firstFrom (fun i => if letters[i]? = some c then some (i : Int) else none) (-1) 16 0
/-- What both Checks return. -/
def wordCheck (q : Int) (s : List UInt8) : Int :=
  if q < 1 ∨ 16 < q then 12 else if 65536 < s.length then 4 else
    firstFrom (fun i => if digit (s.getD i 0) < 0 ∨ q ≤ digit (s.getD i 0) then some 13 else none) 0 s.length 0

theorem ba_getD (s : ByteArray) (k : Nat) (hk : k < s.size) : s.data.toList.getD k 0 = s[k] := by
  have h : k < s.data.size := hk
  simp [List.getD_eq_getElem?_getD, Array.getElem?_eq_getElem h]; rfl
theorem digit_index (q : Nat) (hq : q ≤ 16) (c : UInt8) : Lib.indexByte (letters.take q) c < 0 ↔ (digit c < 0 ∨ (q : Int) ≤ digit c) := by
  have h : ∀ q, q < 17 → ∀ n, n < 256 → (Lib.indexByte (letters.take q) (UInt8.ofNat n) < 0 ↔ (digit (UInt8.ofNat n) < 0 ∨ (q : Int) ≤ digit (UInt8.ofNat n))) := by decide +kernel
  have := h q (by omega) c.toNat c.toNat_lt
  simpa using this

set_option maxHeartbeats 400000 in
theorem known_any (q : Int) (w : World) :
    Calls Try.prog 65 #[.int .i64 q] w fun e w' => e = .returned (.bool (decide (1 ≤ q ∧ q ≤ 16))) ∧ w = w' := by
  go_enter Try.func65, Try.ntmps65
  by_cases h : 1 ≤ q
  · go_wp2
    go_ret
    exact ⟨by simp [h], rfl⟩
  · go_wp2
    go_ret
    exact ⟨by simp; omega, rfl⟩

/-- The place of a letter among the first q ones; -1 if it is none of them. -/
def idxL (q : Nat) (c : UInt8) : Int := Lib.indexByte (letters.take q) c
theorem idxL_neg (q : Nat) (hq : q ≤ 16) (c : UInt8) : idxL q c < 0 ↔ (digit c < 0 ∨ (q : Int) ≤ digit c) := digit_index q hq c
theorem indexLetters (q : Nat) (c : UInt8) (w : World) :
    Calls Try.prog 66 #[.string (({ data := #[48, 49, 50, 51, 52, 53, 54, 55, 56, 57, 97, 98, 99, 100, 101, 102] } : ByteArray).extract 0 q), .int .u8 c.toNat] w fun e w' => e = .returned (.int .i64 (idxL q c)) ∧ w' = w := by
  have hx : (({ data := #[48, 49, 50, 51, 52, 53, 54, 55, 56, 57, 97, 98, 99, 100, 101, 102] } : ByteArray).extract 0 q).data.toList = letters.take q := by
    simp [letters]
  have hbb : ((c.toNat : Nat) : Int).toNat.toUInt8 = c := by simp
  have := Try.strings_IndexByte (({ data := #[48, 49, 50, 51, 52, 53, 54, 55, 56, 57, 97, 98, 99, 100, 101, 102] } : ByteArray).extract 0 q) c.toNat w
  rw [hx, hbb] at this
  exact this

set_option maxHeartbeats 1000000 in
theorem wordCheck_any (q : Int) (s : ByteArray) (hs : s.size ≤ maxLen) (w : World) :
    Calls Try.prog 37 #[.int .i64 q, .string s] w fun e w' => e = .returned (.int .i64 (wordCheck q s.data.toList)) ∧ Drawn w w' := by
  unfold maxLen at hs
  have hlen : s.data.toList.length = s.size := by simp
  have Hlen := Lib.hid hlen
  clear hlen
  by_cases hq : q < 1 ∨ 16 < q
  · have hv : wordCheck q s.data.toList = 12 := by simp [wordCheck, hq]
    have Hv := Lib.hid hv
    clear hv
    have hk : decide (1 ≤ q ∧ q ≤ 16) = false := by simp; omega
    go_enter Try.func37, Try.ntmps37
    go_wp2_with (go_at_call 65; refine (known_any _ _).mono ?_; rintro e w' ⟨rfl, rfl⟩; rw [hk])
    go_ret
    exact ⟨ret_int Hv.out.symm, Drawn.refl _⟩
  have hk : decide (1 ≤ q ∧ q ≤ 16) = true := by simp; omega
  by_cases hz : 65536 < s.size
  · have hv : wordCheck q s.data.toList = 4 := by simp [wordCheck, hq, Hlen.out, hz]
    have Hv := Lib.hid hv
    clear hv hq
    go_enter Try.func37, Try.ntmps37
    go_wp2_with (go_at_call 65; refine (known_any _ _).mono ?_; rintro e w' ⟨rfl, rfl⟩; rw [hk])
    go_ret
    exact ⟨ret_int Hv.out.symm, Drawn.refl _⟩
  have hv : wordCheck q s.data.toList = firstFrom (fun i => if digit (s.data.toList.getD i 0) < 0 ∨ q ≤ digit (s.data.toList.getD i 0) then some 13 else none) 0 s.data.toList.length 0 := by
    unfold wordCheck; rw [if_neg hq, if_neg (by rw [Hlen.out]; exact hz)]
  have Hv := Lib.hid hv
  clear hv
  have hq1 : 1 ≤ q := by omega
  have hq2 : q ≤ 16 := by omega
  clear hq
  obtain ⟨qn, rfl⟩ : ∃ qn : Nat, q = qn := ⟨q.toNat, by omega⟩
  go_enter Try.func37, Try.ntmps37
  go_wp2_with (go_at_call 65; refine (known_any _ _).mono ?_; rintro e w' ⟨rfl, rfl⟩; rw [hk])
  go_loopw [16] (fun i wr => ∃ k : Nat, k ≤ s.size ∧ i = .int .i64 k ∧ Drawn w wr ∧ Hid (wordCheck qn s.data.toList = firstFrom (fun i => if digit (s.data.toList.getD i 0) < 0 ∨ (qn : Int) ≤ digit (s.data.toList.getD i 0) then some 13 else none) 0 (s.size - k) k)) (fun i _ => s.size - (intOf i).toNat)
  case atStart => exact ⟨0, by omega, rfl, Drawn.refl _, Lib.hid (by rw [Hv.out, Hlen.out]; rfl)⟩
  case round =>
    obtain ⟨k, hk', rfl, hd, hr⟩ := hrel
    by_cases hlt : k < s.size
    · have hL := Lib.hid (ba_getD s k hlt)
      by_cases hc : idxL qn s[k] < 0
      · have hv2 : wordCheck qn s.data.toList = 13 := by
          rw [hr.out, firstFrom_some hlt (r := 13)]
          simp only [hL.out]; rw [if_pos ((idxL_neg qn (by omega) _).1 hc)]
        have Hv2 := Lib.hid hv2
        clear hv2
        go_wp2_with fail
        go_quiet ((go_at_call 66; exact Calls.quiet_of_same (indexLetters _ _ _)))
        go_wp2
        go_ret
        exact ⟨ret_int Hv2.out.symm, hd.drewN _⟩
      · have hv2 : wordCheck qn s.data.toList = firstFrom (fun i => if digit (s.data.toList.getD i 0) < 0 ∨ (qn : Int) ≤ digit (s.data.toList.getD i 0) then some 13 else none) 0 (s.size - (k + 1)) (k + 1) := by
          rw [hr.out, firstFrom_none hlt]
          simp only [hL.out]; rw [if_neg (fun h => hc ((idxL_neg qn (by omega) _).2 h))]
        have Hv2 := Lib.hid hv2
        clear hv2
        go_wp2_with fail
        go_quiet ((go_at_call 66; exact Calls.quiet_of_same (indexLetters _ _ _)))
        go_wp2
        go_roundw
        case rel => exact ⟨k + 1, by omega, by go_num, hd.drewN _, Hv2⟩
        case measure => simp [intOf]; omega
    · go_wp2
      go_ret
      refine ⟨ret_int ?_, hd⟩
      rw [hr.out, firstFrom_end (by omega)]
end Go.Proofs.Ytcafeffgaokiaaa
