/- grooveref49.Remove. -/
import Derived.Test.YtlkajmdcffemeaaQ2
import Derived.Test.YtlkajmdcffemeaaRem
namespace Go.Proofs.Ytlkajmdcffemeaa
open Go.RowKit

theorem part_head {s : ByteArray} {i n q : Nat} (hn : n ≤ q) : (s.extract i (i + q)).extract 0 n = s.extract i (i + n) := by
  refine ByteArray.ext (Array.ext' ?_)
  rw [cut_list, cut_list, cut_list, List.drop_zero, Nat.sub_zero, List.take_take, show i + q - i = q from by omega, show i + n - i = n from by omega, Nat.min_eq_left hn]
theorem part_size {s : ByteArray} {i q : Nat} (hs : i + q ≤ s.size) : (s.extract i (i + q)).size = q := by rw [ByteArray.size_extract, Nat.min_eq_left hs]; omega
theorem part_tail {s : ByteArray} {i n q : Nat} : (s.extract i (i + q)).extract n (s.extract i (i + q)).size = s.extract (i + n) (i + q) := by
  refine ByteArray.ext (Array.ext' ?_)
  rw [rest_list, cut_list, cut_list, List.drop_take, List.drop_drop, show i + q - i - n = i + q - (i + n) from by omega]
theorem remL_snoc (b : Nat) (pre : List ByteArray) (x : ByteArray) : remL b (pre ++ [x]) = remL b pre ++ (x.extract 0 b).data.toList := by
  unfold remL; rw [List.flatMap_append]; simp
theorem remOk_snoc (b : Nat) (m : ByteArray) (pre : List ByteArray) (x : ByteArray) : remOk b m (pre ++ [x]) = (remOk b m pre && decide (x.extract b x.size = m)) := by
  unfold remOk; rw [List.all_append]; simp
theorem remOk_left {b : Nat} {m : ByteArray} {pre rest : List ByteArray} (h : remOk b m pre = false) : remOk b m (pre ++ rest) = false := by
  unfold remOk at h ⊢; rw [List.all_append, h, Bool.false_and]

set_option maxRecDepth 100000 in
set_option maxHeartbeats 4000000 in
theorem refRemove_any (b : Int) (m s : ByteArray) (hm : m.size ≤ maxLen) (hs : s.size ≤ maxLen) (w : World) :
    Calls Try.prog 18 #[.int .i64 b, .string m, .string s] w fun e w' => e = .returned (.tuple #[.string (remOut b m s), .int .i64 (remErr b m s)]) ∧ w = w' := by
  have Hc := Lib.hid (refCheckWord_any b m s hm hs)
  obtain ⟨E, hE⟩ : ∃ E, mkErr b m.data.toList s.data.toList = E := ⟨_, rfl⟩
  rw [hE] at Hc
  by_cases hz : E = 0
  · have hz2 : (E != 0) = false := by rw [hz]; rfl
    obtain ⟨⟨hb1, hb2⟩, ⟨hm1, hm2⟩, hs2⟩ := mkErr_ok (hE.trans hz)
    obtain ⟨n, rfl⟩ : ∃ n : Nat, b = n := ⟨b.toNat, by omega⟩
    obtain ⟨q, hq⟩ : ∃ q, n + m.size = q := ⟨_, rfl⟩
    have hqI : (n : Int) + (m.size : Int) = (q : Int) := by omega
    have hie : remErr n m s = if s.size % q ≠ 0 then 11 else if remOk n m (chunksW q s) then 0 else 11 := by unfold remErr; rw [hE, if_neg (fun h => h hz), Int.toNat_natCast, hq]
    have hio : remOut n m s = if remErr n m s = 0 then ⟨(remL n (chunksW q s)).toArray⟩ else ⟨#[]⟩ := by unfold remOut; rw [Int.toNat_natCast, hq]
    have hq1 : 0 < q := by omega
    have hq2 : q ≤ 32 := by omega
    by_cases hr : s.size % q = 0
    · have hrI : (((s.size : Int) % (q : Int)) != 0) = false := by rw [bne_eq_false_iff_eq]; omega
      rw [if_neg (fun h => h hr)] at hie
      have hcl : (chunksW q s).length ≤ 65536 := by
        have := chunks_len q hq1 s.size s
        unfold chunksW
        omega
      have Hie := Lib.hid hie
      have Hio := Lib.hid hio
      have Hcl := Lib.hid hcl
      have Hr := Lib.hid hr
      have hnq : n ≤ q := by omega
      clear hz hE hm hs hr hie hio hq hcl
      generalize remErr n m s = RE at *
      generalize remOut n m s = RO at *
      go_enter Try.func18, Try.ntmps18
      go_wp2_with (go_at_call 44; go_fit (Hc.out _); rintro e w1 ⟨rfl, rfl⟩)
      go_loop [10, 11] (fun o iv => ∃ (pre : List ByteArray) (i : Nat) (a : ByteArray), iv = .int .i64 i ∧ o = .string a ∧ i ≤ s.size ∧ Hid ((s.size - i) % q = 0) ∧ Hid (chunksW q s = pre ++ chunksW q (s.extract i s.size)) ∧ Hid (a = ⟨(remL n pre).toArray⟩) ∧ Hid (remOk n m pre = true)) (fun _ iv => s.size - (intOf iv).toNat)
      case atStart => exact ⟨[], 0, _, rfl, rfl, Nat.zero_le _, Hr, Lib.hid (by rw [ByteArray.extract_zero_size]; rfl), Lib.hid rfl, Lib.hid rfl⟩
      case round =>
        obtain ⟨pre, i, a, rfl, rfl, hi, hrd, hL, ha, hok⟩ := hrel
        by_cases hlt : i < s.size
        · have hltI : (i : Int) < (s.size : Int) := by omega
          have hle : q ≤ s.size - i := Nat.le_of_dvd (by omega) (Nat.dvd_of_mod_eq_zero hrd.out)
          have hle2 : i + q ≤ s.size := by omega
          have hle2I : (i : Int) + (q : Int) ≤ (s.size : Int) := by omega
          have hle3I : (i : Int) + (n : Int) ≤ (i : Int) + (q : Int) := by omega
          have hle4I : (i : Int) + (n : Int) ≤ (s.size : Int) := by omega
          have hle3 : i + n ≤ i + q := by omega
          have hle4 : i + n ≤ s.size := by omega
          have hst := Lib.hid (chunks_at hq1 hlt hL.out)
          have hokn := remOk_snoc n m pre (s.extract i (i + q))
          rw [hok.out, Bool.true_and, part_tail] at hokn
          have hrem := Lib.hid (show remL n (pre ++ [s.extract i (i + q)]) = remL n pre ++ (s.extract i (i + n)).data.toList by rw [remL_snoc, part_head hnq])
          have hrd2 := Lib.hid (show (s.size - (i + q)) % q = 0 by
            rw [← Nat.sub_sub]
            exact Nat.sub_mod_eq_zero_of_mod_eq (by rw [hrd.out, Nat.mod_self]))
          have hal : a.size ≤ 100 * 65536 := by
            have h1 := remL_len n (by omega) pre
            have h2 := Hcl.out
            rw [hL.out, List.length_append] at h2
            have e2 : a.size = (remL n pre).length := by rw [ha.out]; rfl
            have h3 : 100 * pre.length ≤ 100 * 65536 := Nat.mul_le_mul_left _ (by omega)
            omega
          have hpn : (s.extract i (i + n)).size = n := part_size hle4
          have hal2 : ¬ 9223372036854775807 < a.size + (s.extract i (i + n)).size := by omega
          have hal3 : ¬ 9223372036854775807 < a.size + n := by omega
          clear hL hrd hok
          cases hc : decide (s.extract (i + n) (i + q) = m)
          · have hcl : ((s.extract (i + n) (i + q)).toList == m.toList) = false := by
              rw [decide_eq_false_iff_not] at hc
              rw [beq_eq_false_iff_ne]
              intro h; apply hc
              rw [ByteArray.toList_eq, ByteArray.toList_eq] at h
              exact ByteArray.ext (Array.ext' h)
            have hall : remOk n m (chunksW q s) = false := by
              rw [hc] at hokn
              rw [hst.out]
              exact remOk_left hokn
            have hre : RE = 11 := by rw [Hie.out, hall]; rfl
            have hro : RO = ⟨#[]⟩ := by rw [Hio.out, hre]; rfl
            have HRE := Lib.hid hre
            have HRO := Lib.hid hro
            clear hc hokn hall hre hro
            go_wp2
            go_ret2
            exact ⟨by rw [HRE.out, HRO.out]; rfl, rfl⟩
          · have hcl : ((s.extract (i + n) (i + q)).toList == m.toList) = true := by
              rw [decide_eq_true_eq] at hc
              rw [beq_iff_eq, hc]
            have Hokn := Lib.hid (show remOk n m (pre ++ [s.extract i (i + q)]) = true by rw [hokn, hc])
            clear hc hokn
            go_wp2
            go_round
            case rel => exact ⟨pre ++ [s.extract i (i + q)], i + q, _, by go_num, rfl, hle2, hrd2, hst, Lib.hid (by rw [hrem.out, bytes_append, ← ha.out]), Hokn⟩
            case measure => simp [intOf]; omega
        · have hltI : ¬ (i : Int) < (s.size : Int) := by omega
          have hfin : pre = chunksW q s := by
            rw [hL.out, chunksW_nil (s := s.extract i s.size) (by rw [rest_size]; omega), List.append_nil]
          subst hfin
          have hre : RE = 0 := by rw [Hie.out, hok.out]; rfl
          have hro : RO = a := by rw [Hio.out, hre, ha.out]; rfl
          subst hre hro
          clear hL hrd
          go_wp2
          go_ret2
          exact ⟨rfl, rfl⟩
    · have hrI : (((s.size : Int) % (q : Int)) != 0) = true := by rw [bne_iff_ne]; omega
      rw [if_pos hr] at hie
      rw [hie, if_neg (by decide)] at hio
      rw [hie, hio]
      clear hz hE hm hs hie hio hr hq
      go_enter Try.func18, Try.ntmps18
      go_wp2_with (go_at_call 44; go_fit (Hc.out _); rintro e w1 ⟨rfl, rfl⟩)
      go_ret2
      exact ⟨rfl, rfl⟩
  · have hz2 : (E != 0) = true := by rw [bne_iff_ne]; exact hz
    have hie : remErr b m s = E := by unfold remErr; rw [hE, if_pos hz]
    have hio : remOut b m s = ⟨#[]⟩ := by unfold remOut; rw [hie, if_neg hz]
    rw [hie, hio]
    clear hz hE hm hs hie hio
    go_enter Try.func18, Try.ntmps18
    go_wp2_with (go_at_call 44; go_fit (Hc.out _); rintro e w1 ⟨rfl, rfl⟩)
    go_ret2
    exact ⟨rfl, rfl⟩
end Go.Proofs.Ytlkajmdcffemeaa
