/- The walk of groovelaw49.MarkerLengths. -/
import Derived.Test.YtlkajmdcffemeaaFine
import Derived.Test.YtlkajmdcffemeaaAwk
namespace Go.Proofs.Ytlkajmdcffemeaa
open Go.RowKit

theorem fine_ok {x : Nat} {m s : ByteArray} (h : fineB m = true) : 0 < m.size ∧ m.size ≤ 8 ∧ 1 ≤ fineN x ∧ fineN x ≤ 6 ∧ wordCheck 2 m.data.toList = 0 := by
  unfold fineB at h
  simp only [Bool.and_eq_true, decide_eq_true_eq] at h
  refine ⟨by omega, h.1.2, ?_, ?_, h.2⟩ <;> unfold fineN <;> omega
theorem okB_of_locErr {b : Int} {m s : ByteArray} (h : locErr b m s = 0) : okB (blksW b.toNat m s) = true := by
  unfold locErr at h
  split at h
  · rename_i h1; exact absurd h h1
  · split at h
    · assumption
    · cases h
theorem data_extract_list (s : ByteArray) (a e : Nat) : (s.extract a e).data.toList = (s.data.toList.drop a).take (e - a) := by
  rw [ByteArray.data_extract]; simp
theorem bytes_ext {a b : ByteArray} (h : a.data.toList = b.data.toList) : a = b := ByteArray.ext (Array.ext' h)
theorem extract_list (s : ByteArray) (n : Nat) : (s.extract n s.size).data.toList = s.data.toList.drop n := by
  rw [data_extract_list]
  have : s.size = s.data.toList.length := by simp
  rw [this, List.take_of_length_le (by rw [List.length_drop]; exact Nat.le_refl _)]
/-- One block further: the marker stands behind it. -/
theorem step_lengths {b n k : Nat} {m s : ByteArray} {L : List (ByteArray × Int)} (hb : 1 ≤ b) (hm : 0 < m.size) (hok : okB L = true) (hk : k < L.length) (hn : n ≤ s.size) (hd : L.drop k = blksW b m (s.extract n s.size)) :
    ∃ (sh : Int) (n' : Nat), (L.map (·.2)).getD k 0 = sh ∧ (-1 ≤ sh ∧ sh ≤ 1) ∧ (n : Int) + ((b : Int) + sh + (m.size : Int)) = (n' : Int) ∧ n' ≤ s.size ∧ m.size ≤ n' ∧ s.extract (n' - m.size) n' = m ∧ L.drop (k + 1) = blksW b m (s.extract n' s.size) := by
  have hrs : (s.extract n s.size).size = s.size - n := by rw [ByteArray.size_extract, Nat.min_self]
  have hr0 : (s.extract n s.size).size ≠ 0 := fun h => by
    have := congrArg List.length hd
    rw [blksW_nil h, List.length_drop] at this
    simp at this; omega
  have hhead : L.drop k = L[k] :: L.drop (k + 1) := List.drop_eq_getElem_cons hk
  have hk2 : L[k].2 ≠ 2 := by
    have := List.all_eq_true.1 hok L[k] (List.getElem_mem hk)
    simpa using this
  rcases shiftB_cases b m (s.extract n s.size) with h2 | ⟨hsh, hfit⟩
  · rw [blksW_bad hr0 h2, hhead] at hd
    injection hd with h1 _
    rw [h1] at hk2
    exact absurd rfl hk2
  · have hne : shiftB b m (s.extract n s.size) ≠ 2 := by rcases hsh with h | h | h <;> rw [h] <;> decide
    rw [blksW_step hm hr0 hne, hhead] at hd
    have hle := fitsB_le hfit
    obtain ⟨sh, hshe⟩ : ∃ sh, shiftB b m (s.extract n s.size) = sh := ⟨_, rfl⟩
    rw [hshe] at hd hsh hfit hle
    obtain ⟨t, ht⟩ : ∃ t : Nat, (b : Int) + sh = t := ⟨((b : Int) + sh).toNat, by omega⟩
    have htt : ((b : Int) + sh).toNat = t := by omega
    unfold fitsB at hfit
    rw [htt] at hd hfit hle
    injection hd with h1 h2
    rw [hrs] at hle
    have hpre := (Bool.and_eq_true_iff.1 hfit).2
    have hpre2 := List.isPrefixOf_iff_prefix.1 hpre
    rw [extract_list, extract_list, List.drop_drop] at hpre2
    obtain ⟨q, hq⟩ := hpre2
    have hml : m.data.toList.length = m.size := by simp
    refine ⟨sh, n + t + m.size, ?_, by omega, by omega, by omega, by omega, ?_, ?_⟩
    · rw [List.getD_eq_getElem?_getD, List.getElem?_map, List.getElem?_eq_getElem hk, h1]; rfl
    · apply bytes_ext
      rw [data_extract_list, show n + t + m.size - m.size = n + t from by omega, show n + t + m.size - (n + t) = m.size from by omega, ← hq, ← hml, List.take_left']
      rfl
    · rw [h2]
      congr 1
      apply bytes_ext
      rw [extract_list, extract_list, extract_list, List.drop_drop]
      congr 1; omega
theorem blksW_some {b : Nat} {m s : ByteArray} (h : blksW b m s = []) (hm : 0 < m.size) : s.size = 0 := by
  by_cases h0 : s.size = 0
  · exact h0
  · rcases shiftB_cases b m s with h2 | ⟨hsh, _⟩
    · rw [blksW_bad h0 h2] at h; cases h
    · rw [blksW_step hm h0 (by rcases hsh with h | h | h <;> rw [h] <;> decide)] at h; cases h

set_option maxRecDepth 100000 in
set_option maxHeartbeats 4000000 in
theorem lengthsLaw (x : Nat) (m s : ByteArray) (w : World) (hx : x ≤ 255) (hm : m.size ≤ maxLen) (hs : s.size ≤ maxLen) :
    Calls Try.prog 3 #[.int .u8 (x : Int), .string m, .string s] w fun e w' => e = .returned (.bool true) ∧ Below w.heap.size w w' := by
  have Hf := Lib.hid (fine_any x m hx hm)
  obtain ⟨b, hbe⟩ : ∃ b, fineN x = b := ⟨_, rfl⟩
  rw [hbe] at Hf
  cases hF : fineB m
  · rw [hF] at Hf
    clear hF hbe
    go_enter Try.func3, Try.ntmps3
    go_wp2_with first
      | (go_at_call 11; go_fit (Hf.out _); rintro e w1 ⟨rfl, hd⟩; have Hd := Lib.hid hd; clear hd)
      | (go_at_call 12; go_fit (awake_any _); rintro e w2 ⟨rfl, hb2⟩; have Hb2 := Lib.hid hb2; clear hb2)
    go_ret
    exact ⟨rfl, (Drawn.below Hd.out _).trans (Hb2.out.mono (by rw [Drawn.heap Hd.out]; exact Nat.le_refl _))⟩
  · rw [hF] at Hf
    obtain ⟨hm1, hm2, hb1, hb2, hmc⟩ := fine_ok (x := x) (s := s) hF
    rw [hbe] at hb1 hb2
    by_cases h60 : 60 < s.size
    · have h60I : decide ((60 : Int) < (s.size : Int)) = true := by rw [decide_eq_true_eq]; omega
      clear hF hbe hmc
      go_enter Try.func3, Try.ntmps3
      go_wp2_with first
        | (go_at_call 11; go_fit (Hf.out _); rintro e w1 ⟨rfl, hd⟩; have Hd := Lib.hid hd; clear hd)
        | (go_at_call 12; go_fit (awake_any _); rintro e w2 ⟨rfl, hb2⟩; have Hb2 := Lib.hid hb2; clear hb2)
      go_ret
      exact ⟨rfl, (Drawn.below Hd.out _).trans (Hb2.out.mono (by rw [Drawn.heap Hd.out]; exact Nat.le_refl _))⟩
    · have h60I : decide ((60 : Int) < (s.size : Int)) = false := by rw [decide_eq_false_iff_not]; omega
      have Hl := Lib.hid (Locate_any (b : Int) m s hm hs)
      obtain ⟨E, hE⟩ : ∃ E, locErr (b : Int) m s = E := ⟨_, rfl⟩
      rw [hE] at Hl
      by_cases hz : E = 0
      · have hz2 : (E != 0) = false := by rw [hz]; rfl
        have hlo : locOut (b : Int) m s = (blksW b m s).map (·.2) := by unfold locOut; rw [hE, if_pos hz]; rfl
        have hok := okB_of_locErr (hE.trans hz)
        rw [Int.toNat_natCast] at hok
        rw [hlo] at Hl
        have hst : (blksW b m s).drop 0 = blksW b m (s.extract 0 s.size) := by
          rw [List.drop_zero, ByteArray.extract_zero_size]
        have hLl := blksW_len b m s hm1
        generalize blksW b m s = L at *
        have Hok := Lib.hid hok
        have Hst := Lib.hid hst
        clear hF hbe hmc hE hz hlo hok hst
        go_enter Try.func3, Try.ntmps3
        go_wp2_with first
          | (go_at_call 11; go_fit (Hf.out _); rintro e w1 ⟨rfl, hd⟩; have Hd := Lib.hid hd; clear hd)
          | (go_at_call 13; go_fit (Hl.out _); rintro e w2 ⟨v, rfl, _, ho, hb⟩; obtain ⟨p, c, rfl, _, hI, _⟩ := ho.form; have HI := Lib.hid hI; have Hb2 := Lib.hid hb; clear hb hI ho)
        have hw2 : Below w.heap.size w w2 := (Drawn.below Hd.out _).trans (Hb2.out.mono (by rw [Drawn.heap Hd.out]; exact Nat.le_refl _))
        have Hw2 := Lib.hid hw2
        clear hw2
        go_loop [11, 45] (fun v i => ∃ k n : Nat, k ≤ L.length ∧ i = .int .i64 k ∧ v = .int .i64 n ∧ n ≤ s.size ∧ Hid (L.drop k = blksW b m (s.extract n s.size))) (fun _ i => L.length - (intOf i).toNat)
        case atStart => exact ⟨0, 0, Nat.zero_le _, rfl, rfl, Nat.zero_le _, Hst⟩
        case round =>
          obtain ⟨k, n, hk, rfl, rfl, hn, hd⟩ := hrel
          have hlen : (L.map (·.2)).length = L.length := by simp
          by_cases hlt : k < L.length
          · obtain ⟨sh, n', hsh, ⟨hs1, hs2⟩, he, hn', hmn, hex, hd'⟩ := step_lengths hb1 hm1 Hok.out hlt hn hd.out
            obtain ⟨bb, off, rfl, hbl, hcell⟩ := IntsAt.cells HI.out (k := k) (by rw [hlen]; exact hlt)
            have hx1 := hcell k (by rw [hlen]; exact hlt)
            rw [hsh] at hx1
            have Hd' := Lib.hid hd'
            have Hex := Lib.hid hex
            have hs3 : decide (sh < -1) = false := by rw [decide_eq_false_iff_not]; omega
            have hs4 : decide (1 < sh) = false := by rw [decide_eq_false_iff_not]; omega
            have hltI : (k : Int) < (L.length : Int) := by omega
            have hxl : ((s.extract (n' - m.size) n').toList == m.toList) = true := by rw [hex]; simp
            have hng : decide (s.size < n') = false := by rw [decide_eq_false_iff_not]; omega
            have hngI : decide ((s.size : Int) < (n' : Int)) = false := by rw [decide_eq_false_iff_not]; omega
            clear hcell hsh hd' hex hd hlen
            go_wp2
            go_round
            case rel => exact ⟨k + 1, n', by omega, by go_num, rfl, hn', Hd'⟩
            case measure => simp [intOf]; omega
          · have hke : k = L.length := by omega
            have hne : n = s.size := by
              have h1 := hd.out
              rw [hke, List.drop_of_length_le (Nat.le_refl _)] at h1
              have h2 := blksW_some h1.symm hm1
              rw [ByteArray.size_extract, Nat.min_self] at h2
              omega
            have hneI : ((n : Int) == (s.size : Int)) = true := by rw [hne]; simp
            have hltI : ¬ (k : Int) < (L.length : Int) := by omega
            have Hne := Lib.hid hne
            clear hne hke hd hlen
            go_wp2_with (go_at_call 12; go_fit (awake_any _); rintro e w3 ⟨rfl, hb3⟩; have Hb3 := Lib.hid hb3; clear hb3)
            go_ret
            exact ⟨rfl, Hw2.out.trans (Hb3.out.mono Hw2.out.size)⟩
      · have hz2 : (E != 0) = true := by rw [bne_iff_ne]; exact hz
        have hlo : locOut (b : Int) m s = [] := by unfold locOut; rw [hE, if_neg hz]
        rw [hlo] at Hl
        clear hF hbe hmc hE hlo
        go_enter Try.func3, Try.ntmps3
        go_wp2_with first
          | (go_at_call 11; go_fit (Hf.out _); rintro e w1 ⟨rfl, hd⟩; have Hd := Lib.hid hd; clear hd)
          | (go_at_call 13; go_fit (Hl.out _); rintro e w2 ⟨v, rfl, hv, _, hb⟩; obtain rfl := hv hz; have Hb2 := Lib.hid hb; clear hb hv)
          | (go_at_call 12; go_fit (awake_any _); rintro e w3 ⟨rfl, hb3⟩; have Hb3 := Lib.hid hb3; clear hb3)
        go_ret
        exact ⟨rfl, (Drawn.below Hd.out _).trans ((Hb2.out.trans (Hb3.out.mono Hb2.out.size)).mono (by rw [Drawn.heap Hd.out]; exact Nat.le_refl _))⟩
end Go.Proofs.Ytlkajmdcffemeaa
