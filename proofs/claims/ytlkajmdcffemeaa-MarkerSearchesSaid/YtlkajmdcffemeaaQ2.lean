/- grooveref49.Insert. -/
import Derived.Test.YtlkajmdcffemeaaQ1
import Derived.Test.YtlkajmdcffemeaaInsert
namespace Go.Proofs.Ytlkajmdcffemeaa
open Go.RowKit

theorem cut_list (s : ByteArray) (a e : Nat) : (s.extract a e).data.toList = (s.data.toList.drop a).take (e - a) := by
  rw [ByteArray.data_extract]; simp
theorem rest_list (s : ByteArray) (n : Nat) : (s.extract n s.size).data.toList = s.data.toList.drop n := by
  rw [cut_list]
  have : s.size = s.data.toList.length := by simp
  rw [this, List.take_of_length_le (by rw [List.length_drop]; exact Nat.le_refl _)]
theorem rest_head (s : ByteArray) (i n : Nat) : (s.extract i s.size).extract 0 n = s.extract i (i + n) := by
  refine ByteArray.ext (Array.ext' ?_)
  rw [cut_list, rest_list, cut_list, List.drop_zero, Nat.sub_zero, show i + n - i = n from by omega]
theorem rest_rest (s : ByteArray) (i n : Nat) : (s.extract i s.size).extract n (s.extract i s.size).size = s.extract (i + n) s.size := by
  refine ByteArray.ext (Array.ext' ?_)
  rw [rest_list, rest_list, rest_list, List.drop_drop]
theorem rest_size (s : ByteArray) (i : Nat) : (s.extract i s.size).size = s.size - i := by rw [ByteArray.size_extract, Nat.min_self]
theorem chunks_at {n i : Nat} {s : ByteArray} {pre : List ByteArray} (hn : 0 < n) (hi : i < s.size) (h : chunksW n s = pre ++ chunksW n (s.extract i s.size)) :
    chunksW n s = (pre ++ [s.extract i (i + n)]) ++ chunksW n (s.extract (i + n) s.size) := by
  have h2 := chunksW_step (n := n) (s := s.extract i s.size) hn (by rw [rest_size]; omega)
  rw [rest_head, rest_rest] at h2
  rw [h, h2]; simp

set_option maxRecDepth 100000 in
set_option maxHeartbeats 4000000 in
theorem refInsert_any (b : Int) (m s : ByteArray) (hm : m.size ≤ maxLen) (hs : s.size ≤ maxLen) (w : World) :
    Calls Try.prog 16 #[.int .i64 b, .string m, .string s] w fun e w' => e = .returned (.tuple #[.string (insOut b m s), .int .i64 (insErr b m s)]) ∧ Below w.heap.size w w' := by
  have Hc := Lib.hid (refCheckWord_any b m s hm hs)
  obtain ⟨E, hE⟩ : ∃ E, mkErr b m.data.toList s.data.toList = E := ⟨_, rfl⟩
  rw [hE] at Hc
  by_cases hz : E = 0
  · have hz2 : (E != 0) = false := by rw [hz]; rfl
    obtain ⟨⟨hb1, hb2⟩, ⟨hm1, hm2⟩, hs2⟩ := mkErr_ok (hE.trans hz)
    obtain ⟨n, rfl⟩ : ∃ n : Nat, b = n := ⟨b.toNat, by omega⟩
    have hie : insErr n m s = if s.size % n ≠ 0 then 11 else if 65536 < s.size / n * (n + m.size) then 4 else 0 := by unfold insErr; rw [hE, if_neg (fun h => h hz)]; rfl
    have hio : insOut n m s = if insErr n m s = 0 then ⟨(trackL m (chunksW n s)).toArray⟩ else ⟨#[]⟩ := by unfold insOut; rw [Int.toNat_natCast]
    by_cases hr : s.size % n = 0
    · have hrI : (((s.size : Int) % (n : Int)) != 0) = false := by rw [bne_eq_false_iff_eq]; omega
      rw [if_neg (fun h => h hr)] at hie
      obtain ⟨q, hq⟩ : ∃ q, s.size / n = q := ⟨_, rfl⟩
      have hqI : (s.size : Int) / (n : Int) = (q : Int) := by rw [← hq]; simp
      have hqle : q ≤ 65536 := by rw [← hq]; exact Nat.le_trans (Nat.div_le_self _ _) hs2
      obtain ⟨t, ht⟩ : ∃ t, q * (n + m.size) = t := ⟨_, rfl⟩
      have htI : (q : Int) * ((n : Int) + (m.size : Int)) = (t : Int) := by rw [← ht]; simp
      have htl : t ≤ 65536 * 32 := by rw [← ht]; exact Nat.mul_le_mul hqle (by omega)
      rw [hq, ht] at hie
      by_cases hbig : 65536 < t
      · rw [if_pos hbig] at hie
        rw [hie, if_neg (by decide)] at hio
        rw [hie, hio]
        have hbI : (65536 : Int) < (t : Int) := by omega
        clear hz hE hm hs hie hio hq ht hr
        go_enter Try.func16, Try.ntmps16
        go_wp2_with (go_at_call 44; go_fit (Hc.out _); rintro e w1 ⟨rfl, rfl⟩)
        go_ret2
        exact ⟨rfl, Below.refl _ _⟩
      · rw [if_neg hbig] at hie
        rw [hie, if_pos rfl] at hio
        rw [hie, hio]
        have hbI : ¬ (65536 : Int) < (t : Int) := by omega
        have htr : (trackL m (chunksW n s)).length ≤ 1000000000000 := by
          have := trackL_chunks_len n m s.size s
          have h2 : s.size * m.size ≤ 65536 * 16 := Nat.mul_le_mul hs2 hm2
          unfold chunksW
          omega
        have hcl : (chunksW n s).length ≤ 1000000000 := by
          have := chunks_len n (by omega) s.size s
          unfold chunksW
          omega
        have Htr := Lib.hid htr
        have Hcl := Lib.hid hcl
        have Hr := Lib.hid hr
        have HT := Lib.hid (refTrack_any m (chunksW n s))
        clear hz hE hm hs hie hio hq ht hr htr hcl
        go_enter Try.func16, Try.ntmps16
        go_wp2_with (go_at_call 44; go_fit (Hc.out _); rintro e w1 ⟨rfl, rfl⟩)
        go_loopw [9, 10] (fun v iv wr => ∃ (pre : List ByteArray) (i : Nat), iv = .int .i64 i ∧ i ≤ s.size ∧ Hid ((s.size - i) % n = 0) ∧ Hid (chunksW n s = pre ++ chunksW n (s.extract i s.size)) ∧ Hid (OwnStrs wr w.heap.size v pre) ∧ Below w.heap.size w wr) (fun _ iv _ => s.size - (intOf iv).toNat)
        case atStart => exact ⟨[], 0, rfl, Nat.zero_le _, Hr, Lib.hid (by rw [ByteArray.extract_zero_size]; rfl), Lib.hid (OwnStrs.nil _ _), Below.refl _ _⟩
        case round =>
          obtain ⟨pre, i, rfl, hi, hrd, hL, Hown, hb⟩ := hrel
          by_cases hlt : i < s.size
          · have hltI : (i : Int) < (s.size : Int) := by omega
            have hle : n ≤ s.size - i := Nat.le_of_dvd (by omega) (Nat.dvd_of_mod_eq_zero hrd.out)
            have hle2 : i + n ≤ s.size := by omega
            have hle2I : (i : Int) + (n : Int) ≤ (s.size : Int) := by omega
            have hst := Lib.hid (chunks_at (show 0 < n by omega) hlt hL.out)
            have hpl : pre.length < 1000000000000 := by
              have h1 := Hcl.out
              rw [hL.out, List.length_append] at h1
              omega
            have hrd2 := Lib.hid (show (s.size - (i + n)) % n = 0 by
              rw [← Nat.sub_sub]
              exact Nat.sub_mod_eq_zero_of_mod_eq (by rw [hrd.out, Nat.mod_self]))
            have hsz := hb.size
            have Hb := Lib.hid hb
            clear hb hL hrd
            go_wp2_with (at_builtin; refine wpList_append_str rfl _ _ rfl w.heap.size _ _ rfl (Hown.out.alloc _) wr.heap.size 1 (s.extract i (i + n)) rfl ?_ ?_ ?_ ?_)
            · exact cell_new0 _ _ _
            · exact hpl
            · simp; omega
            intro v' w2 hown' hgrow
            have hb2 := Lib.hid (below_append (Hb.out.alloc hsz _) (Hown.out.alloc _) hgrow (by simp; omega) (Nat.le_refl _))
            have Hown' := Lib.hid hown'
            clear hown' hgrow
            go_wp2
            go_roundw
            case rel => exact ⟨pre ++ [s.extract i (i + n)], i + n, by go_num, hle2, hrd2, hst, Hown', hb2.out⟩
            case measure => simp [intOf]; omega
          · have hltI : ¬ (i : Int) < (s.size : Int) := by omega
            have hfin : pre = chunksW n s := by
              rw [hL.out, chunksW_nil (s := s.extract i s.size) (by rw [rest_size]; omega), List.append_nil]
            subst hfin
            obtain ⟨p, c, rfl, _, hX, _⟩ := Hown.out.form
            have HX := Lib.hid hX
            have Hb := Lib.hid hb
            clear hb hX hL
            go_wp2_with (go_at_call 45; go_fit (HT.out p c _ HX.out Hcl.out Htr.out); rintro e w3 ⟨rfl, rfl⟩)
            go_ret2
            exact ⟨rfl, Hb.out⟩
    · have hrI : (((s.size : Int) % (n : Int)) != 0) = true := by rw [bne_iff_ne]; omega
      rw [if_pos hr] at hie
      rw [hie, if_neg (by decide)] at hio
      rw [hie, hio]
      clear hz hE hm hs hie hio hr
      go_enter Try.func16, Try.ntmps16
      go_wp2_with (go_at_call 44; go_fit (Hc.out _); rintro e w1 ⟨rfl, rfl⟩)
      go_ret2
      exact ⟨rfl, Below.refl _ _⟩
  · have hz2 : (E != 0) = true := by rw [bne_iff_ne]; exact hz
    have hie : insErr b m s = E := by unfold insErr; rw [hE, if_pos hz]
    have hio : insOut b m s = ⟨#[]⟩ := by unfold insOut; rw [hie, if_neg hz]
    rw [hie, hio]
    clear hz hE hm hs hie hio
    go_enter Try.func16, Try.ntmps16
    go_wp2_with (go_at_call 44; go_fit (Hc.out _); rintro e w1 ⟨rfl, rfl⟩)
    go_ret2
    exact ⟨rfl, Below.refl _ _⟩
end Go.Proofs.Ytlkajmdcffemeaa
