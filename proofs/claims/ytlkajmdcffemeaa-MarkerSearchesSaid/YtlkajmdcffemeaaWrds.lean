/- The walk of marker.checkWords. -/
import Derived.Test.YtlkajmdcffemeaaWord
import Derived.Test.YtlkajmdcffemeaaStrs
import Derived.Deep.DeepFit
namespace Go.Proofs.Ytlkajmdcffemeaa
open Go.RowKit

/-- The error of words of b letters, with a marker of m letters. -/
def wordsErr (b m : Nat) (ws : List ByteArray) : Int :=
  firstFrom (fun i => if wordCheck 2 (ws.getD i ByteArray.empty).data.toList ≠ 0 then some (wordCheck 2 (ws.getD i ByteArray.empty).data.toList) else if (ws.getD i ByteArray.empty).size ≠ b then some 11 else none)
    (if 1024 < ws.length * (b + m) then 4 else 0) ws.length 0
theorem wordsErr_at {b m : Nat} {ws : List ByteArray} {k : Nat} (h : k < ws.length) (hw : wordsErr b m ws = 0) (hr : wordsErr b m ws = firstFrom (fun i => if wordCheck 2 (ws.getD i ByteArray.empty).data.toList ≠ 0 then some (wordCheck 2 (ws.getD i ByteArray.empty).data.toList) else if (ws.getD i ByteArray.empty).size ≠ b then some 11 else none) (if 1024 < ws.length * (b + m) then 4 else 0) (ws.length - k) k) :
    wordCheck 2 (ws.getD k ByteArray.empty).data.toList = 0 ∧ (ws.getD k ByteArray.empty).size = b ∧ wordsErr b m ws = firstFrom (fun i => if wordCheck 2 (ws.getD i ByteArray.empty).data.toList ≠ 0 then some (wordCheck 2 (ws.getD i ByteArray.empty).data.toList) else if (ws.getD i ByteArray.empty).size ≠ b then some 11 else none) (if 1024 < ws.length * (b + m) then 4 else 0) (ws.length - (k + 1)) (k + 1) := by
  by_cases h1 : wordCheck 2 (ws.getD k ByteArray.empty).data.toList ≠ 0
  · exfalso
    rw [hr, firstFrom_some (r := wordCheck 2 (ws.getD k ByteArray.empty).data.toList) h (by simp only [if_pos h1])] at hw
    exact h1 hw
  · by_cases h2 : (ws.getD k ByteArray.empty).size ≠ b
    · exfalso
      rw [hr, firstFrom_some (r := 11) h (by simp only [if_neg h1, if_pos h2])] at hw
      cases hw
    · exact ⟨by simpa using h1, by simpa using h2, by rw [hr]; exact firstFrom_none h (by simp only [if_neg h1, if_neg h2])⟩
theorem wordsErr_ok {b m : Nat} {ws : List ByteArray} (hw : wordsErr b m ws = 0) : (∀ x ∈ ws, x.size = b) ∧ ws.length * (b + m) ≤ 1024 := by
  have h : ∀ k, k ≤ ws.length → (∀ j, j < k → (ws.getD j ByteArray.empty).size = b) ∧ wordsErr b m ws = firstFrom (fun i => if wordCheck 2 (ws.getD i ByteArray.empty).data.toList ≠ 0 then some (wordCheck 2 (ws.getD i ByteArray.empty).data.toList) else if (ws.getD i ByteArray.empty).size ≠ b then some 11 else none) (if 1024 < ws.length * (b + m) then 4 else 0) (ws.length - k) k := by
    intro k
    induction k with
    | zero => intro _; exact ⟨fun j h => by omega, rfl⟩
    | succ k ih =>
      intro hk
      obtain ⟨h1, h2⟩ := ih (by omega)
      obtain ⟨_, h3, h4⟩ := wordsErr_at (by omega) hw h2
      exact ⟨fun j hj => by
        by_cases e : j = k
        · rw [e]; exact h3
        · exact h1 j (by omega), h4⟩
  obtain ⟨h1, h2⟩ := h ws.length (Nat.le_refl _)
  refine ⟨fun x hx => ?_, ?_⟩
  · obtain ⟨j, hj, rfl⟩ := List.getElem_of_mem hx
    have := h1 j hj
    rwa [List.getD_eq_getElem?_getD, List.getElem?_eq_getElem hj] at this
  · rw [h2, firstFrom_end (Nat.le_refl _)] at hw
    by_cases e : 1024 < ws.length * (b + m)
    · rw [if_pos e] at hw; cases hw
    · omega

set_option maxRecDepth 100000 in
set_option maxHeartbeats 2000000 in
theorem checkWords_any (b m : Nat) (ws : List ByteArray) (p : Option Addr) (c : Nat) (hb : b ≤ 1000) (hm : m ≤ 1000) (hl : ws.length ≤ 100000) (hx : ∀ x ∈ ws, x.size ≤ maxLen) (w : World) (hS : StrsAt w p ws) :
    Calls Try.prog 56 #[.int .i64 (b : Int), .int .i64 (m : Int), .slice p ws.length c] w fun e w' => e = .returned (.int .i64 (wordsErr b m ws)) ∧ Drawn w w' := by
  have HS := Lib.hid hS
  have HX := Lib.hid hx
  obtain ⟨P, hP⟩ : ∃ P, ws.length * (b + m) = P := ⟨_, rfl⟩
  have hPb : P ≤ 200000000 := by rw [← hP]; exact Nat.mul_le_mul hl (show b + m ≤ 2000 by omega)
  have hmul1 : wrap64 ((ws.length : Int) * ((b : Int) + (m : Int))) = (P : Int) := by
    rw [show (ws.length : Int) * ((b : Int) + (m : Int)) = (P : Int) from by rw [← hP]; push_cast; rfl]
    exact IntWalk.wrap64_in _ (by omega)
  have hmul2 : IntKind.i64.wrap ((ws.length : Int) * ((b : Int) + (m : Int))) = (P : Int) := by
    rw [show (ws.length : Int) * ((b : Int) + (m : Int)) = (P : Int) from by rw [← hP]; push_cast; rfl]
    exact IntWalk.i64_in _ (by omega)
  have HF : Hid (wordsErr b m ws = firstFrom (fun i => if wordCheck 2 (ws.getD i ByteArray.empty).data.toList ≠ 0 then some (wordCheck 2 (ws.getD i ByteArray.empty).data.toList) else if (ws.getD i ByteArray.empty).size ≠ b then some 11 else none) (if 1024 < P then 4 else 0) (ws.length - 0) 0) := Lib.hid (by rw [← hP]; rfl)
  clear hS hx hP
  generalize wordsErr b m ws = E at *
  go_enter Try.func56, Try.ntmps56
  go_wp2
  go_loopw [12] (fun i wr => ∃ k : Nat, k ≤ ws.length ∧ i = .int .i64 k ∧ Drawn w wr ∧ Hid (E = firstFrom (fun i => if wordCheck 2 (ws.getD i ByteArray.empty).data.toList ≠ 0 then some (wordCheck 2 (ws.getD i ByteArray.empty).data.toList) else if (ws.getD i ByteArray.empty).size ≠ b then some 11 else none) (if 1024 < P then 4 else 0) (ws.length - k) k)) (fun i _ => ws.length - (intOf i).toNat)
  case atStart => exact ⟨0, by omega, rfl, Drawn.refl _, HF⟩
  case round =>
    clear HF
    obtain ⟨k, hk, rfl, hd, hr⟩ := hrel
    have Hd := Lib.hid hd
    by_cases hlt : k < ws.length
    · obtain ⟨ab, ao, rfl, hab, hca⟩ := StrsAt.cells HS.out hlt
      have hxa := hca k hlt
      rw [← hd.cell] at hxa
      have hxm := HX.out _ (getD_mem ws k ByteArray.empty hlt)
      obtain ⟨x, hxe⟩ : ∃ x, ws.getD k ByteArray.empty = x := ⟨_, rfl⟩
      rw [hxe] at hxa hxm
      have Hc := Lib.hid (wordCheck_any 2 x hxm)
      obtain ⟨e, he⟩ : ∃ e, wordCheck 2 x.data.toList = e := ⟨_, rfl⟩
      rw [he] at Hc
      have i0 : (0 : Int) ≤ (k : Int) := by omega
      have i1 : (k : Int) < (ws.length : Int) := by omega
      clear hca hd
      cases hE : (e != 0)
      · have he0 : ¬ wordCheck 2 (ws.getD k ByteArray.empty).data.toList ≠ 0 := by rw [hxe, he]; simpa using hE
        cases hB : ((x.size : Int) != (b : Int))
        · have HN := Lib.hid (show E = firstFrom _ _ (ws.length - (k + 1)) (k + 1) from hr.out.trans (firstFrom_none hlt (by
            have h2 : ¬ (ws.getD k ByteArray.empty).size ≠ b := by rw [hxe]; have := (bne_eq_false_iff_eq.1 hB); omega
            simp only [if_neg he0, if_neg h2])))
          clear hr he0 hxe he
          go_wp2_with (go_at_call 39; go_fit (Hc.out _); rintro e w1 ⟨rfl, hd⟩; have Hd2 := Lib.hid hd; clear hd)
          go_roundw
          case rel => exact ⟨k + 1, by omega, by go_num, Hd.out.trans Hd2.out, HN⟩
          case measure => simp [intOf]; omega
        · have HN := Lib.hid (show E = 11 from hr.out.trans (firstFrom_some hlt (by
            have h2 : (ws.getD k ByteArray.empty).size ≠ b := by rw [hxe]; have := bne_iff_ne.1 hB; omega
            simp only [if_neg he0, if_pos h2])))
          clear hr he0 hxe he
          go_wp2_with (go_at_call 39; go_fit (Hc.out _); rintro e w1 ⟨rfl, hd⟩; have Hd2 := Lib.hid hd; clear hd)
          go_ret
          exact ⟨ret_int HN.out.symm, Hd.out.trans Hd2.out⟩
      · have HN := Lib.hid (show E = e from hr.out.trans (firstFrom_some hlt (by
          have h2 : wordCheck 2 (ws.getD k ByteArray.empty).data.toList ≠ 0 := by rw [hxe, he]; exact bne_iff_ne.1 hE
          simp only [if_pos h2]; rw [hxe, he])))
        clear hr hxe he
        go_wp2_with (go_at_call 39; go_fit (Hc.out _); rintro e w1 ⟨rfl, hd⟩; have Hd2 := Lib.hid hd; clear hd)
        go_ret
        exact ⟨ret_int HN.out.symm, Hd.out.trans Hd2.out⟩
    · have i1 : ¬ (k : Int) < (ws.length : Int) := by omega
      have hfin := Lib.hid (hr.out.trans (firstFrom_end (by omega)))
      clear hr hd
      by_cases hg : 1024 < P
      · rw [if_pos hg] at hfin
        have hgI : (1024 : Int) < (P : Int) := by omega
        go_wp2
        go_ret
        exact ⟨ret_int hfin.out.symm, Hd.out⟩
      · rw [if_neg hg] at hfin
        have hgI : ¬ (1024 : Int) < (P : Int) := by omega
        go_wp2
        go_ret
        exact ⟨ret_int hfin.out.symm, Hd.out⟩
set_option maxRecDepth 100000 in
set_option maxHeartbeats 2000000 in
theorem refCheckWords_any (b m : Nat) (ws : List ByteArray) (p : Option Addr) (c : Nat) (hb : b ≤ 1000) (hm : m ≤ 1000) (hl : ws.length ≤ 100000) (hx : ∀ x ∈ ws, x.size ≤ maxLen) (w : World) (hS : StrsAt w p ws) :
    Calls Try.prog 58 #[.int .i64 (b : Int), .int .i64 (m : Int), .slice p ws.length c] w fun e w' => e = .returned (.int .i64 (wordsErr b m ws)) ∧ Drawn w w' := by
  have HS := Lib.hid hS
  have HX := Lib.hid hx
  obtain ⟨P, hP⟩ : ∃ P, ws.length * (b + m) = P := ⟨_, rfl⟩
  have hPb : P ≤ 200000000 := by rw [← hP]; exact Nat.mul_le_mul hl (show b + m ≤ 2000 by omega)
  have hmul1 : wrap64 ((ws.length : Int) * ((b : Int) + (m : Int))) = (P : Int) := by
    rw [show (ws.length : Int) * ((b : Int) + (m : Int)) = (P : Int) from by rw [← hP]; push_cast; rfl]
    exact IntWalk.wrap64_in _ (by omega)
  have hmul2 : IntKind.i64.wrap ((ws.length : Int) * ((b : Int) + (m : Int))) = (P : Int) := by
    rw [show (ws.length : Int) * ((b : Int) + (m : Int)) = (P : Int) from by rw [← hP]; push_cast; rfl]
    exact IntWalk.i64_in _ (by omega)
  have HF : Hid (wordsErr b m ws = firstFrom (fun i => if wordCheck 2 (ws.getD i ByteArray.empty).data.toList ≠ 0 then some (wordCheck 2 (ws.getD i ByteArray.empty).data.toList) else if (ws.getD i ByteArray.empty).size ≠ b then some 11 else none) (if 1024 < P then 4 else 0) (ws.length - 0) 0) := Lib.hid (by rw [← hP]; rfl)
  clear hS hx hP
  generalize wordsErr b m ws = E at *
  go_enter Try.func58, Try.ntmps58
  go_wp2
  go_loopw [7] (fun i wr => ∃ k : Nat, k ≤ ws.length ∧ i = .int .i64 k ∧ Drawn w wr ∧ Hid (E = firstFrom (fun i => if wordCheck 2 (ws.getD i ByteArray.empty).data.toList ≠ 0 then some (wordCheck 2 (ws.getD i ByteArray.empty).data.toList) else if (ws.getD i ByteArray.empty).size ≠ b then some 11 else none) (if 1024 < P then 4 else 0) (ws.length - k) k)) (fun i _ => ws.length - (intOf i).toNat)
  case atStart => exact ⟨0, by omega, rfl, Drawn.refl _, HF⟩
  case round =>
    clear HF
    obtain ⟨k, hk, rfl, hd, hr⟩ := hrel
    have Hd := Lib.hid hd
    by_cases hlt : k < ws.length
    · obtain ⟨ab, ao, rfl, hab, hca⟩ := StrsAt.cells HS.out hlt
      have hxa := hca k hlt
      rw [← hd.cell] at hxa
      have hxm := HX.out _ (getD_mem ws k ByteArray.empty hlt)
      obtain ⟨x, hxe⟩ : ∃ x, ws.getD k ByteArray.empty = x := ⟨_, rfl⟩
      rw [hxe] at hxa hxm
      have Hc := Lib.hid (refCheck7_any 2 x hxm)
      obtain ⟨e, he⟩ : ∃ e, wordCheck 2 x.data.toList = e := ⟨_, rfl⟩
      rw [he] at Hc
      have i0 : (0 : Int) ≤ (k : Int) := by omega
      have i1 : (k : Int) < (ws.length : Int) := by omega
      clear hca hd
      cases hE : (e != 0)
      · have he0 : ¬ wordCheck 2 (ws.getD k ByteArray.empty).data.toList ≠ 0 := by rw [hxe, he]; simpa using hE
        cases hB : ((x.size : Int) != (b : Int))
        · have HN := Lib.hid (show E = firstFrom _ _ (ws.length - (k + 1)) (k + 1) from hr.out.trans (firstFrom_none hlt (by
            have h2 : ¬ (ws.getD k ByteArray.empty).size ≠ b := by rw [hxe]; have := (bne_eq_false_iff_eq.1 hB); omega
            simp only [if_neg he0, if_neg h2])))
          clear hr he0 hxe he
          go_wp2_with (go_at_call 64; go_fit (Hc.out _); rintro e w1 ⟨rfl, rfl⟩)
          go_roundw
          case rel => exact ⟨k + 1, by omega, by go_num, Hd.out, HN⟩
          case measure => simp [intOf]; omega
        · have HN := Lib.hid (show E = 11 from hr.out.trans (firstFrom_some hlt (by
            have h2 : (ws.getD k ByteArray.empty).size ≠ b := by rw [hxe]; have := bne_iff_ne.1 hB; omega
            simp only [if_neg he0, if_pos h2])))
          clear hr he0 hxe he
          go_wp2_with (go_at_call 64; go_fit (Hc.out _); rintro e w1 ⟨rfl, rfl⟩)
          go_ret
          exact ⟨ret_int HN.out.symm, Hd.out⟩
      · have HN := Lib.hid (show E = e from hr.out.trans (firstFrom_some hlt (by
          have h2 : wordCheck 2 (ws.getD k ByteArray.empty).data.toList ≠ 0 := by rw [hxe, he]; exact bne_iff_ne.1 hE
          simp only [if_pos h2]; rw [hxe, he])))
        clear hr hxe he
        go_wp2_with (go_at_call 64; go_fit (Hc.out _); rintro e w1 ⟨rfl, rfl⟩)
        go_ret
        exact ⟨ret_int HN.out.symm, Hd.out⟩
    · have i1 : ¬ (k : Int) < (ws.length : Int) := by omega
      have hfin := Lib.hid (hr.out.trans (firstFrom_end (by omega)))
      clear hr hd
      by_cases hg : 1024 < P
      · rw [if_pos hg] at hfin
        have hgI : (1024 : Int) < (P : Int) := by omega
        go_wp2
        go_ret
        exact ⟨ret_int hfin.out.symm, Hd.out⟩
      · rw [if_neg hg] at hfin
        have hgI : ¬ (1024 : Int) < (P : Int) := by omega
        go_wp2
        go_ret
        exact ⟨ret_int hfin.out.symm, Hd.out⟩
end Go.Proofs.Ytlkajmdcffemeaa
