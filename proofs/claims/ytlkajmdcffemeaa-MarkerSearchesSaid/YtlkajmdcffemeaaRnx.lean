/- The walks of grooveref07.Zeros and Next at words of zeros and ones. -/
import Derived.Test.YtlkajmdcffemeaaNxt
import Derived.Test.YtlkajmdcffemeaaIntA
import Derived.Deep.RegionHeld
namespace Go.Proofs.Ytlkajmdcffemeaa
open Go.RowKit

theorem OwnBytes.nil0 (w : World) : OwnBytes (w.alloc (.cells #[] 5)) w.heap.size (.slice (some ⟨w.heap.size, 0, none⟩) 0 0) [] := World.ownsRow_made w #[] 0 (Nat.le_refl _) (by simp [maxLen]) rfl

set_option maxRecDepth 100000 in
set_option maxHeartbeats 2000000 in
theorem Zeros_any (n : Nat) (hn : n ≤ 100000) (w : World) :
    Calls Try.prog 79 #[.int .i64 (n : Int)] w fun e w' => e = .returned (.string ⟨(List.replicate n 48).toArray⟩) ∧ Below w.heap.size w w' := by
  go_enter Try.func79, Try.ntmps79
  go_wp2
  go_loopw [3, 4] (fun v i wr => ∃ k g cap : Nat, k ≤ n ∧ i = .int .i64 k ∧ v = .slice (some ⟨g, 0, none⟩) k cap ∧ Hid (OwnBytes wr w.heap.size v (List.replicate k 48)) ∧ Hid (Below w.heap.size w wr)) (fun _ i _ => n - (intOf i).toNat)
  case atStart => exact ⟨0, _, _, by omega, rfl, rfl, Lib.hid (OwnBytes.nil0 w), Lib.hid ((Below.refl _ _).alloc (Nat.le_refl _) _)⟩
  case round =>
    obtain ⟨k, g, cap, hk, rfl, rfl, Ho, Hb⟩ := hrel
    by_cases hlt : k < n
    · have hI : (k : Int) < (n : Int) := by omega
      have hsz := Hb.out.size
      go_wp2_with (at_builtin; refine wpList_append_byte rfl _ _ rfl w.heap.size _ _ rfl (World.ownsRow.alloc Ho.out _) wr.heap.size 1 48 rfl ?_ ?_ ?_ ?_)
      any_goals (first | exact cell_new0 _ _ _ | (rw [List.length_replicate]; omega) | (simp; omega))
      intro v' w2 hown' hgrow
      have hb2 := Lib.hid (below_append (Hb.out.alloc hsz _) (World.ownsRow.alloc Ho.out _) hgrow (by simp; omega) (Nat.le_refl _))
      have Hown' : Hid (OwnBytes w2 w.heap.size v' (List.replicate (k + 1) 48)) := Lib.hid (by rw [List.replicate_succ']; exact hown')
      obtain ⟨g', cap', rfl⟩ := ownsRow_succ (show w2.ownsRow w.heap.size 5 1 v' (k + 1) _ by have := Hown'.out; unfold OwnBytes at this; rw [List.length_replicate] at this; exact this)
      clear hown' hgrow
      go_wp2
      go_roundw
      case rel => exact ⟨k + 1, g', cap', by omega, by go_num, rfl, Hown', hb2⟩
      case measure => simp [intOf]; omega
    · have hI : ¬ (k : Int) < (n : Int) := by omega
      have hkn : k = n := by omega
      subst hkn
      have hcv : (convert 40 9 (.slice (some ⟨g, 0, none⟩) (List.replicate k (48 : UInt8)).length cap)).run Try.prog wr = .ok (.string ⟨(List.replicate k (48 : UInt8)).toArray⟩) wr := by
        refine run_convert_bytes_back (P := Try.prog) wr 40 9 5 ⟨g, 0, none⟩ cap (List.replicate k (48 : UInt8)) Try.underlying40 Try.underlying5 Try.underlying9 (fun j hj => ?_)
        have hj2 : j < k := by rw [List.length_replicate] at hj; exact hj
        have := World.ownsRow.cells Ho.out (g := g) rfl j (.int .u8 (48 : Int)) (by rw [List.getElem?_map, List.getElem?_replicate, if_pos hj2]; rfl)
        rw [this]; simp
      rw [List.length_replicate] at hcv
      go_wp2
      go_ret
      exact ⟨rfl, Hb.out⟩

theorem bytes_eq0 {a b : ByteArray} (h : a.data.toList = b.data.toList) : a = b := ByteArray.ext (Array.ext' h)
theorem cut_list0 (s : ByteArray) (i : Nat) : (s.extract 0 i).data.toList = s.data.toList.take i := by rw [ByteArray.data_extract]; simp
theorem digit_bit (n k t : Nat) : digit (UInt8.ofNat (48 + bitN n k t)) = (bitN n k t : Nat) := by
  have hb := bitN_lt n k t
  have h : bitN n k t = 0 ∨ bitN n k t = 1 := by omega
  rcases h with h | h <;> rw [h] <;> decide

set_option maxRecDepth 100000 in
set_option maxHeartbeats 4000000 in
theorem refNext_any (n k : Nat) (hn1 : 1 ≤ n) (hn2 : n ≤ 100) (hk : k < 2 ^ n) (w : World) :
    Calls Try.prog 61 #[.int .i64 2, .string (mkW n k)] w fun e w' => e = .returned (.tuple #[.string (nextW n k), .int .i64 0]) ∧ Below w.heap.size w w' := by
  have Hc := Lib.hid (refCheck7_any 2 (mkW n k) (by rw [mkW_size]; unfold maxLen; omega))
  rw [check_mkW n k (by omega)] at Hc
  have hus := mkW_size n k
  have Hbt : Hid (∀ i (h : i < (mkW n k).size), (mkW n k)[i] = UInt8.ofNat (48 + bitN n k i)) := Lib.hid (fun i h => by
    rw [← ba_getD _ _ h]
    exact mkL_getD (by rw [mkW_size] at h; exact h))
  have HuE : Hid (∀ i, i ≤ n → (mkW n k).extract 0 i = ⟨((mkL n k).take i).toArray⟩) := Lib.hid (fun i hi => by
    apply bytes_eq0
    rw [cut_list0]
    simp
    rfl)
  generalize mkW n k = u at *
  go_enter Try.func61, Try.ntmps61
  go_wp2_with (go_at_call 64; go_fit (Hc.out _); rintro e w1 ⟨rfl, rfl⟩)
  go_loop [7] (fun v => ∃ m : Nat, m ≤ n ∧ v = .int .i64 ((m : Int) - 1) ∧ Hid (1 ≤ m → Tail1 n k (m - 1)) ∧ Hid (m = 0 → k + 1 = 2 ^ n)) (fun v => (intOf v + 1).toNat)
  case atStart => exact ⟨n, by omega, by go_num, Lib.hid (fun _ => tail1_last n k), Lib.hid (fun h => by omega)⟩
  case round =>
    obtain ⟨m, hm, rfl, HT, HA⟩ := hrel
    by_cases hm0 : m = 0
    · subst hm0
      have hneg : ¬ ((0 : Int) ≤ ((0 : Nat) : Int) - 1) := by omega
      have hl0 : ((n : Int) == 65536) = false := by rw [beq_eq_false_iff_ne]; omega
      have HN : Hid (nextW n k = ⟨(List.replicate (n + 1) 48).toArray⟩) := Lib.hid (by
        have : nextW n k = mkW (n + 1) 0 := by unfold nextW; rw [if_neg (by have := HA.out rfl; omega)]
        rw [this]; unfold mkW; rw [mkL_zero])
      obtain ⟨n1, hn1e⟩ : ∃ n1, n + 1 = n1 := ⟨_, rfl⟩
      have HZ := Lib.hid (Zeros_any n1 (by omega))
      have en : IntKind.i64.wrap ((n : Int) + 1) = (n1 : Int) := by rw [IntWalk.i64_in _ (by omega)]; omega
      have en2 : wrap64 ((n : Int) + 1) = (n1 : Int) := by rw [IntWalk.wrap64_in _ (by omega)]; omega
      have en3 : (n : Int) + 1 = (n1 : Int) := by omega
      rw [hn1e] at HN
      clear hn1e
      go_wp2_with (go_at_call 79; go_fit (HZ.out _); rintro e w5 ⟨rfl, hb⟩; have Hb5 := Lib.hid hb; clear hb)
      go_ret2
      exact ⟨by rw [HN.out]; rfl, Hb5.out⟩
    · obtain ⟨i, rfl⟩ : ∃ i, m = i + 1 := ⟨m - 1, by omega⟩
      have hii : ((i + 1 : Nat) : Int) - 1 = (i : Int) := by omega
      rw [hii]
      have hi0 : (0 : Int) ≤ (i : Int) := by omega
      have hiu : i < u.size := by omega
      have hi1 : (i : Int) < (u.size : Int) := by omega
      have hi2 : (i : Int) < (n : Int) := by omega
      have HD := Lib.hid (Digit_any (u[i]))
      have hdg : digit (u[i]) = (bitN n k i : Nat) := by rw [Hbt.out i hiu]; exact digit_bit n k i
      rw [hdg] at HD
      have hbl := bitN_lt n k i
      have HT1 := Lib.hid (HT.out (by omega))
      clear hdg
      by_cases hb0 : bitN n k i = 0
      · rw [hb0] at HD
        have HN := Lib.hid (nextW_at (n := n) (k := k) (i := i) (by omega) HT1.out hb0 hk)
        obtain ⟨e, he⟩ : ∃ e, n - 1 - i = e := ⟨_, rfl⟩
        rw [he] at HN
        have HZ := Lib.hid (Zeros_any e (by omega))
        have en : (n : Int) - 1 - (i : Int) = (e : Int) := by omega
        have en1 : IntKind.i64.wrap ((n : Int) - 1) = (n : Int) - 1 := IntWalk.i64_in _ (by omega)
        have en2 : IntKind.i64.wrap ((n : Int) - 1 - (i : Int)) = (e : Int) := by rw [IntWalk.i64_in _ (by omega)]; exact en
        have wrE : IntKind.i64.wrap (e : Int) = (e : Int) := IntWalk.i64_in _ (by omega)
        have wr1 : IntKind.i64.wrap 1 = 1 := by decide
        have wr2 : IntKind.i64.wrap 2 = 2 := by decide
        have hin : i ≤ n := by omega
        have hinI : (i : Int) ≤ (n : Int) := by omega
        have s1 : ¬ 9223372036854775807 < i + 1 := by omega
        clear hb0 hbl he
        go_wp2_with (go_at_call 78; go_fit (HD.out _); rintro e w5 ⟨rfl, rfl⟩)
        refine wp_region_held_drew (S := fun _ => True) (by kernel_rfl) trivial (fun _ => ?_)
        refine wpAnyH_take (i := 0) (v := ?_) rfl (by kernel_rfl) (by kernel_rfl) (by kernel_rfl) (fun _ _ _ h => h) (Or.inl ⟨by rfl, ?_⟩) trivial ?_
        rotate_left 1
        next => intro w hSw; go_simp; try with_reducible rfl
        refine wpAnyH_take (i := 1) (v := ?_) rfl (by kernel_rfl) (by kernel_rfl) (by kernel_rfl) (fun _ _ _ h => h) (Or.inl ⟨by rfl, ?_⟩) trivial ?_
        rotate_left 1
        next => intro w hSw; go_simp; try with_reducible rfl
        refine wpAnyH_take (i := 2) (v := ?_) rfl (by kernel_rfl) (by kernel_rfl) (by kernel_rfl) (fun _ _ _ h => h) (Or.inl ⟨by rfl, ?_⟩) trivial ?_
        rotate_left 1
        next => intro w hSw; go_simp; try with_reducible rfl
        refine wpAnyH_take (i := 3) (v := ?_) rfl (by kernel_rfl) (by kernel_rfl) (by kernel_rfl) (fun _ _ _ h => h) (Or.inl ⟨by rfl, ?_⟩) trivial ?_
        rotate_left 1
        next => intro w hSw; go_simp; try with_reducible rfl
        refine wpAnyH_take (i := 4) (v := ?_) rfl (by kernel_rfl) (by kernel_rfl) (by kernel_rfl) (fun _ _ _ h => h) (Or.inl ⟨by rfl, ?_⟩) trivial ?_
        rotate_left 1
        next => intro w hSw; go_simp; try with_reducible rfl
        refine wpAnyH_take (i := 5) (v := ?_) rfl (by kernel_rfl) (by kernel_rfl) (by kernel_rfl) (fun _ _ _ h => h) (Or.inl ⟨by rfl, ?_⟩) trivial ?_
        rotate_left 1
        next => intro w hSw; go_simp; try with_reducible rfl
        refine wpAnyH_take (i := 6) (v := ?_) rfl (by kernel_rfl) (by kernel_rfl) (by kernel_rfl) (fun _ _ _ h => h) (Or.inl ⟨by rfl, ?_⟩) trivial ?_
        rotate_left 1
        next => intro w hSw; go_simp; try with_reducible rfl
        refine wpAnyH_take (i := 7) (v := ?_) rfl (by kernel_rfl) (by kernel_rfl) (by kernel_rfl) (fun _ _ _ h => h) (Or.inl ⟨by rfl, ?_⟩) trivial ?_
        rotate_left 1
        next => intro w hSw; go_simp; try with_reducible rfl
        refine wpAnyH_take (i := 8) (v := ?_) rfl (by kernel_rfl) (by kernel_rfl) (by kernel_rfl) (fun _ _ _ h => h) (Or.inl ⟨by rfl, ?_⟩) trivial ?_
        rotate_left 1
        next => intro w hSw; go_simp; try with_reducible rfl
        refine wpAnyH_take (i := 9) (v := ?_) rfl (by kernel_rfl) (by kernel_rfl) (by kernel_rfl) (fun _ _ _ h => h) (Or.inl ⟨by rfl, ?_⟩) trivial ?_
        rotate_left 1
        next => intro w hSw; go_simp; try with_reducible rfl
        refine wpAnyH_take (i := 10) (v := ?_) rfl (by kernel_rfl) (by kernel_rfl) (by kernel_rfl) (fun _ _ _ h => h) (Or.inl ⟨by rfl, ?_⟩) trivial ?_
        rotate_left 1
        next => intro w hSw; go_simp; try with_reducible rfl
        refine wpAnyH_take (i := 11) (v := ?_) rfl (by kernel_rfl) (by kernel_rfl) (by kernel_rfl) (fun _ _ _ h => h) (Or.inl ⟨by rfl, ?_⟩) trivial ?_
        rotate_left 1
        next => intro w hSw; go_simp; try with_reducible rfl
        refine wpAnyH_take (i := 12) (v := ?_) rfl (by kernel_rfl) (by kernel_rfl) (by kernel_rfl) (fun _ _ _ h => h) (Or.inl ⟨by rfl, ?_⟩) trivial ?_
        rotate_left 1
        next => intro w hSw; go_simp; try with_reducible rfl
        refine wpAnyH_take (i := 13) (v := ?_) rfl (by kernel_rfl) (by kernel_rfl) (by kernel_rfl) (fun _ _ _ h => h) (Or.inl ⟨by rfl, ?_⟩) trivial ?_
        rotate_left 1
        next => intro w hSw; go_simp; try with_reducible rfl
        refine wpAnyH_ready (rs := [14]) (by kernel_rfl) (by simp) ?_
        refine AllReadyH.cons rfl (fun K hK => ?_) AllReadyH.nil
        go_simp
        refine (HZ.out _).mono ?_
        rintro e5 w5 ⟨rfl, hb⟩
        have Hb5 := Lib.hid ((Below.refl _ w).drew.trans hb)
        have hzs : (⟨(List.replicate e (48 : UInt8)).toArray⟩ : ByteArray).size = e := by show ((List.replicate e (48 : UInt8)).toArray).size = e; simp
        have HF : Hid (u.extract 0 i ++ ({ data := #[48, 49, 50, 51, 52, 53, 54, 55, 56, 57, 97, 98, 99, 100, 101, 102] } : ByteArray).extract 1 2 ++ ⟨(List.replicate e (48 : UInt8)).toArray⟩ = nextW n k) := Lib.hid (by
          rw [HN.out, HuE.out i hin]
          apply bytes_eq0
          rw [ByteArray.data_append, ByteArray.data_append]
          simp)
        generalize (⟨(List.replicate e (48 : UInt8)).toArray⟩ : ByteArray) = zz at *
        have s2 : ¬ 9223372036854775807 < i + 1 + e := by omega
        clear hb
        dsimp only
        refine hK.out _ _ trivial (fun _ => ?_)
        clear hK K
        refine wpAnyH_take (i := 15) (v := ?_) rfl (by kernel_rfl) (by kernel_rfl) (by kernel_rfl) (fun _ _ _ h => h) (Or.inl ⟨by rfl, ?_⟩) trivial ?_
        rotate_left 1
        next => intro w hSw; go_simp; try with_reducible rfl
        refine wpAnyH_take (i := 16) (v := ?_) rfl (by kernel_rfl) (by kernel_rfl) (by kernel_rfl) (fun _ _ _ h => h) (Or.inl ⟨by rfl, ?_⟩) trivial ?_
        rotate_left 1
        next => intro w hSw; go_simp; try with_reducible rfl
        refine wpAnyH_take (i := 17) (v := ?_) rfl (by kernel_rfl) (by kernel_rfl) (by kernel_rfl) (fun _ _ _ h => h) (Or.inl ⟨by rfl, ?_⟩) trivial ?_
        rotate_left 1
        next => intro w hSw; go_simp; try with_reducible rfl
        refine wpAnyH_done (by kernel_rfl) ?_ _
        go_wp2
        go_ret2
        exact ⟨by rw [← HF.out]; rfl, Hb5.out⟩
      · have HT2 : Hid (1 ≤ i → Tail1 n k (i - 1)) := Lib.hid (fun h => tail1_step (by omega) (by rw [Nat.sub_add_cancel h]; exact HT1.out) (by rw [Nat.sub_add_cancel h]; exact hb0))
        have HA2 : Hid (i = 0 → k + 1 = 2 ^ n) := Lib.hid (fun h => by subst h; exact tail1_all (by omega) hk HT1.out hb0)
        have hb1 : bitN n k i = 1 := by omega
        rw [hb1] at HD
        clear hb0 hb1 hbl
        go_wp2_with (go_at_call 78; go_fit (HD.out _); rintro e w5 ⟨rfl, rfl⟩)
        go_round
        case rel => exact ⟨i, by omega, by go_num, HT2, HA2⟩
        case measure => simp [intOf]
end Go.Proofs.Ytlkajmdcffemeaa
