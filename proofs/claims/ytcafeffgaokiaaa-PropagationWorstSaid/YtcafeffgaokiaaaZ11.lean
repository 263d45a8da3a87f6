/- grooveref28.words: all written words. -/
import Derived.Test.YtcafeffgaokiaaaZ10
namespace Go.Proofs.Ytcafeffgaokiaaa
open Go.RowKit
theorem OwnStrs.made (w : World) {B : Nat} (h : B ≤ w.heap.size) : OwnStrs (w.alloc (.cells #[] 9)) B (.slice (some ⟨w.heap.size, 0, none⟩) 0 0) [] := World.ownsRow_made w #[] 0 h (by simp [maxLen]) rfl
/-- The words of the states ahead of s, and of the first k inputs at s. -/
def wdX (m : EM) (I n s k : Nat) : List ByteArray := wordsS m n s ++ ((inL I n).take k).map fun l => (encW m s l ByteArray.empty).1
theorem wdX_step {m : EM} {I n s k : Nat} (hk : k < (inL I n).length) : wdX m I n s (k + 1) = wdX m I n s k ++ [(encW m s ((inL I n).getD k []) ByteArray.empty).1] := by
  unfold wdX
  rw [List.take_add_one, List.getElem?_eq_getElem hk, List.getD_eq_getElem?_getD, List.getElem?_eq_getElem hk, Option.toList_some, List.map_append, ← List.append_assoc]
  rfl
theorem wdX_end {m : EM} {I B n s : Nat} (hm : m.Ok I B) (hs : s < m.r) : wdX m I n s (inL I n).length = wordsS m n (s + 1) := by
  unfold wdX
  rw [List.take_length, wordsS_succ, wordsL_enc hm n s _ hs, inL_eq]
theorem wdX_len {m : EM} {I B n s k : Nat} (hm : m.Ok I B) (hs : s ≤ m.r) (hk : k ≤ (inL I n).length) : (wdX m I n s k).length ≤ s * I ^ n + k := by
  unfold wdX
  rw [List.length_append, wordsS_len hm n s hs, List.length_map, List.length_take]
  omega
set_option maxRecDepth 100000 in
set_option maxHeartbeats 8000000 in
theorem words_any (l b i : Int) (m : EM) (p : Option Addr) (c : Nat) (I B n : Nat) (w : World) (hA : m.At w p) (hf : m.Fit) (he : encCheck l b i m = 0) (hI : i = (I : Int)) (hok : m.Ok I B) (hn : n ≤ 16) (hz : m.r * I ^ n ≤ 4096) :
    Calls Try.prog 73 #[.agg #[.int .i64 l, .int .i64 b, .int .i64 i, .slice p m.r c], .int .i64 (n : Int)] w fun e w' => ∃ v, e = .returned v ∧ OwnStrs w' w.heap.size v (wordsE m n) ∧ Below w.heap.size w w' := by
  obtain ⟨_, _, ⟨i1, i2⟩, ⟨r1, r2⟩, _, _⟩ := encCheck_ok he
  subst hI
  have hpw : I ^ n ≤ 4096 := Nat.le_trans (Nat.le_mul_of_pos_left _ r1) hz
  have HIn := Lib.hid (fun (W : World) => inputs_any I n (by omega) hn hpw W)
  have HEn := Lib.hid (fun (W : World) (hW : Below w.heap.size w W) (s : Nat) (hs : s < m.r) (q : Nat) (cq : Nat) (ls : List Nat) (hls : ls ∈ inL I n) (hR : RowN W q (intsN ls)) => refEncode_any l b (I : Int) m p c s (some ⟨q, 0, none⟩) cq ls W (hA.below (Nat.le_refl _) hW) hf he hs hR.ints (fun x hx => by have := (inL_mem n ls hls).2 x hx; omega) (by rw [(inL_mem n ls hls).1]; exact hn))
  have HOk := Lib.hid hok
  have HZ := Lib.hid hz
  have hNL := inL_len I n
  obtain ⟨N, hN⟩ : ∃ N, I ^ n = N := ⟨_, rfl⟩
  rw [hN] at hNL hpw
  have HNL := Lib.hid hNL
  have HN := Lib.hid hN
  clear hA hf he hok hz hN hNL
  obtain ⟨⟨x0, x1, x2, x3⟩, _, hb0⟩ := box4 (Below.refl (w.heap.size + 1) (w.alloc (.cells #[.int .i64 l, .int .i64 b, .int .i64 (I : Int), .slice p m.r c] 24)))
  have Hb0 := Lib.hid hb0
  clear hb0
  go_enter Try.func73, Try.ntmps73
  go_wp2_with fail
  refine (HIn.out _).mono ?_; rintro e V1 ⟨v1, rfl, ho1, hb⟩
  have HB1 : Hid (Below (w.heap.size + 1) (w.alloc (.cells #[.int .i64 l, .int .i64 b, .int .i64 (I : Int), .slice p m.r c] 24)) V1) := Lib.hid (hb.mono (by simp))
  obtain ⟨pl, cl, rfl, hLs, _⟩ := ho1.form
  have hzl : (inZ I n).length = N := by rw [inZ, List.length_map, HNL.out]
  rw [hzl]
  have HLs := Lib.hid hLs
  clear hb ho1 hLs hzl x0 x1 x2 x3
  obtain ⟨⟨x0, x1, x2, x3⟩, hsz1, hbw1⟩ := box4 HB1.out
  have Hbw1 := Lib.hid hbw1
  have HO1 := Lib.hid (OwnStrs.made V1 (Nat.le_of_lt hsz1))
  clear hbw1
  go_wp2
  go_loopw [6, 7] (fun ov sv wr => ∃ s : Nat, s ≤ m.r ∧ sv = .int .i64 (s : Nat) ∧ Hid (OwnStrs wr V1.heap.size ov (wordsS m n s)) ∧ Hid (Below V1.heap.size V1 wr)) (fun _ sv _ => m.r - (intOf sv).toNat)
  case atStart => exact ⟨0, by omega, by go_num, Lib.hid (by simpa [wordsS] using OwnStrs.made V1 (Nat.le_refl _)), Lib.hid ((Below.refl _ _).alloc (Nat.le_refl _) _)⟩
  case round =>
    clear HO1 x0 x1 x2 x3
    obtain ⟨s, hs, rfl, HO, Hb⟩ := hrel
    have HB2 : Hid (Below (w.heap.size + 1) (w.alloc (.cells #[.int .i64 l, .int .i64 b, .int .i64 (I : Int), .slice p m.r c] 24)) wr) := Lib.hid (HB1.out.trans (Hb.out.mono (by omega)))
    obtain ⟨⟨x0, x1, x2, x3⟩, hsz2, hbw2⟩ := box4 HB2.out
    clear hbw2
    by_cases hlt : s < m.r
    · have s0 : (s : Int) < (m.r : Int) := by omega
      go_wp2
      go_loopw [6, 8] (fun ov kv wr => ∃ k : Nat, k ≤ N ∧ kv = .int .i64 (k : Nat) ∧ Hid (OwnStrs wr V1.heap.size ov (wdX m I n s k)) ∧ Hid (Below V1.heap.size V1 wr)) (fun _ kv _ => N - (intOf kv).toNat)
      case atStart => exact ⟨0, by omega, by go_num, Lib.hid (by simpa [wdX] using HO.out), Hb⟩
      case round =>
        clear HO Hb HB2 x0 x1 x2 x3
        obtain ⟨k, hk, rfl, HO, Hb⟩ := hrel
        have HB2 : Hid (Below (w.heap.size + 1) (w.alloc (.cells #[.int .i64 l, .int .i64 b, .int .i64 (I : Int), .slice p m.r c] 24)) wr) := Lib.hid (HB1.out.trans (Hb.out.mono (by omega)))
        obtain ⟨⟨x0, x1, x2, x3⟩, hsz2, hbw2⟩ := box4 HB2.out
        have Hbw2 := Lib.hid hbw2
        clear hbw2
        by_cases hltk : k < N
        · have k0 : (0 : Int) ≤ (k : Int) := by omega
          have k1 : (k : Int) < (N : Int) := by omega
          obtain ⟨b9, o9, q9, c9, hpo, hb9, hrow, hR⟩ := (HLs.out.below Hb.out).row (j := k) (by rw [inZ, List.length_map, HNL.out]; exact hltk)
          rw [inZ, getD_map_ints _ (by rw [HNL.out]; exact hltk)] at hrow hR
          have hSt := wdX_step (m := m) (s := s) (show k < (inL I n).length by rw [HNL.out]; exact hltk)
          have hme : (inL I n).getD k [] ∈ inL I n := by rw [List.getD_eq_getElem?_getD, List.getElem?_eq_getElem (by rw [HNL.out]; exact hltk)]; exact List.getElem_mem _
          obtain ⟨ls, hl⟩ : ∃ l, (inL I n).getD k [] = l := ⟨_, rfl⟩
          have hXl := wdX_len (k := k) HOk.out hs (by rw [HNL.out]; exact hk)
          have hXl2 : s * I ^ n ≤ m.r * I ^ n := Nat.mul_le_mul_right _ hs
          have hzz := HZ.out
          rw [hl] at hrow hR hSt hme
          rw [intsN_len] at hrow
          have HXl : Hid ((wdX m I n s k).length ≤ 10000) := Lib.hid (by omega)
          have HSt := Lib.hid hSt
          have HR := Lib.hid hR
          have HC := Lib.hid (fun (W : World) (hW : Below wr.heap.size wr W) => HEn.out W (Hbw2.out.trans (hW.mono (by omega))) s hlt q9 c9 ls hme (HR.out.kept (hW.block _ HR.out.lt)))
          subst hpo
          clear hl hSt hR hXl hXl2 hzz hme
          go_upto_region 9 with (fail)
          obtain ⟨SS, hSe⟩ : ∃ SS : World → Prop, SS = fun W => W.cell? ⟨w.heap.size, 0, none⟩ = some (.int .i64 l) ∧ W.cell? ⟨w.heap.size, 1, none⟩ = some (.int .i64 b) ∧ W.cell? ⟨w.heap.size, 2, none⟩ = some (.int .i64 (I : Int)) ∧ W.cell? ⟨w.heap.size, 3, none⟩ = some (.slice p m.r c) ∧ W.cell? ⟨b9, o9 + k, none⟩ = some (.slice (some ⟨q9, 0, none⟩) ls.length c9) := ⟨_, rfl⟩
          have HS : Hid (∀ W, Below wr.heap.size wr W → SS W) := Lib.hid (fun W hW => by
            rw [hSe]
            exact ⟨(hW.cell (p := ⟨w.heap.size, 0, none⟩) hsz2).trans x0, (hW.cell (p := ⟨w.heap.size, 1, none⟩) hsz2).trans x1, (hW.cell (p := ⟨w.heap.size, 2, none⟩) hsz2).trans x2, (hW.cell (p := ⟨w.heap.size, 3, none⟩) hsz2).trans x3, (hW.cell (p := ⟨b9, _, none⟩) hb9).trans hrow⟩)
          have hd : Below wr.heap.size wr wr.drew := (Below.refl _ _).drew
          clear x0 x1 x2 x3 hrow
          refine wp_region_held_drew (S := SS) (by kernel_rfl) (HS.out _ hd) (fun hSS => ?_)
          refine wpAnyH_take (i := 0) (v := ?_) rfl (by kernel_rfl) (by kernel_rfl) (by kernel_rfl) (fun _ _ _ h => h) (Or.inl ⟨by rfl, ?_⟩) (HS.out _ hd) ?_
          rotate_left 1
          next => intro w hSw; rw [hSe] at hSw; obtain ⟨s1, s2, s3, s4, s5⟩ := hSw; go_simp; try with_reducible rfl
          try simp only [Act.put, List.getElem_toArray, List.getElem_cons_zero, List.getElem_cons_succ, List.setIfInBounds_toArray, List.set_cons_zero, List.set_cons_succ]
          refine wpAnyH_take (i := 1) (v := ?_) rfl (by kernel_rfl) (by kernel_rfl) (by kernel_rfl) (fun _ _ _ h => h) (Or.inl ⟨by rfl, ?_⟩) (HS.out _ hd) ?_
          rotate_left 1
          next => intro w hSw; rw [hSe] at hSw; obtain ⟨s1, s2, s3, s4, s5⟩ := hSw; go_simp; try with_reducible rfl
          try simp only [Act.put, List.getElem_toArray, List.getElem_cons_zero, List.getElem_cons_succ, List.setIfInBounds_toArray, List.set_cons_zero, List.set_cons_succ]
          refine wpAnyH_take (i := 2) (v := ?_) rfl (by kernel_rfl) (by kernel_rfl) (by kernel_rfl) (fun _ _ _ h => h) (Or.inl ⟨by rfl, ?_⟩) (HS.out _ hd) ?_
          rotate_left 1
          next => intro w hSw; rw [hSe] at hSw; obtain ⟨s1, s2, s3, s4, s5⟩ := hSw; go_simp; try with_reducible rfl
          try simp only [Act.put, List.getElem_toArray, List.getElem_cons_zero, List.getElem_cons_succ, List.setIfInBounds_toArray, List.set_cons_zero, List.set_cons_succ]
          refine wpAnyH_take (i := 3) (v := ?_) rfl (by kernel_rfl) (by kernel_rfl) (by kernel_rfl) (fun _ _ _ h => h) (Or.inl ⟨by rfl, ?_⟩) (HS.out _ hd) ?_
          rotate_left 1
          next => intro w hSw; rw [hSe] at hSw; obtain ⟨s1, s2, s3, s4, s5⟩ := hSw; go_simp; try with_reducible rfl
          try simp only [Act.put, List.getElem_toArray, List.getElem_cons_zero, List.getElem_cons_succ, List.setIfInBounds_toArray, List.set_cons_zero, List.set_cons_succ]
          refine wpAnyH_take (i := 4) (v := ?_) rfl (by kernel_rfl) (by kernel_rfl) (by kernel_rfl) (fun _ _ _ h => h) (Or.inl ⟨by rfl, ?_⟩) (HS.out _ hd) ?_
          rotate_left 1
          next => intro w hSw; rw [hSe] at hSw; obtain ⟨s1, s2, s3, s4, s5⟩ := hSw; go_simp; try with_reducible rfl
          try simp only [Act.put, List.getElem_toArray, List.getElem_cons_zero, List.getElem_cons_succ, List.setIfInBounds_toArray, List.set_cons_zero, List.set_cons_succ]
          refine wpAnyH_take (i := 5) (v := ?_) rfl (by kernel_rfl) (by kernel_rfl) (by kernel_rfl) (fun _ _ _ h => h) (Or.inl ⟨by rfl, ?_⟩) (HS.out _ hd) ?_
          rotate_left 1
          next => intro w hSw; rw [hSe] at hSw; obtain ⟨s1, s2, s3, s4, s5⟩ := hSw; go_simp; try with_reducible rfl
          try simp only [Act.put, List.getElem_toArray, List.getElem_cons_zero, List.getElem_cons_succ, List.setIfInBounds_toArray, List.set_cons_zero, List.set_cons_succ]
          try simp only [Act.put, List.getElem_toArray, List.getElem_cons_zero, List.getElem_cons_succ, List.setIfInBounds_toArray, List.set_cons_zero, List.set_cons_succ]
          refine wpAnyH_ready (rs := [6]) (by kernel_rfl) (by simp) ?_
          refine AllReadyH.cons rfl (fun K hK => ?_) AllReadyH.nil
          go_simp
          refine (HC.out _ hd).mono ?_
          rintro e w1 ⟨rfl, hbc⟩
          have hb1 : Below wr.heap.size wr w1 := hd.trans (hbc.mono hd.size)
          dsimp only
          refine hK.out _ _ (HS.out _ hb1) (fun _ => ?_)
          clear hK K hbc
          refine wpAnyH_take (i := 7) (v := ?_) rfl (by kernel_rfl) (by kernel_rfl) (by kernel_rfl) (fun _ _ _ h => h) (Or.inl ⟨by rfl, ?_⟩) (HS.out _ hb1) ?_
          rotate_left 1
          next => intro w hSw; rw [hSe] at hSw; obtain ⟨s1, s2, s3, s4, s5⟩ := hSw; go_simp; try with_reducible rfl
          try simp only [Act.put, List.getElem_toArray, List.getElem_cons_zero, List.getElem_cons_succ, List.setIfInBounds_toArray, List.set_cons_zero, List.set_cons_succ]
          refine wpAnyH_take (i := 8) (v := ?_) rfl (by kernel_rfl) (by kernel_rfl) (by kernel_rfl) (fun _ _ _ h => h) (Or.inl ⟨by rfl, ?_⟩) (HS.out _ hb1) ?_
          rotate_left 1
          next => intro w hSw; rw [hSe] at hSw; obtain ⟨s1, s2, s3, s4, s5⟩ := hSw; go_simp; try with_reducible rfl
          try simp only [Act.put, List.getElem_toArray, List.getElem_cons_zero, List.getElem_cons_succ, List.setIfInBounds_toArray, List.set_cons_zero, List.set_cons_succ]
          refine wpAnyH_take (i := 9) (v := ?_) rfl (by kernel_rfl) (by kernel_rfl) (by kernel_rfl) (fun _ _ _ h => h) (Or.inl ⟨by rfl, ?_⟩) (HS.out _ hb1) ?_
          rotate_left 1
          next => intro w hSw; rw [hSe] at hSw; obtain ⟨s1, s2, s3, s4, s5⟩ := hSw; go_simp; try with_reducible rfl
          try simp only [Act.put, List.getElem_toArray, List.getElem_cons_zero, List.getElem_cons_succ, List.setIfInBounds_toArray, List.set_cons_zero, List.set_cons_succ]
          refine wpAnyH_take (i := 10) (v := ?_) rfl (by kernel_rfl) (by kernel_rfl) (by kernel_rfl) (fun _ _ _ h => h) (Or.inl ⟨by rfl, ?_⟩) (HS.out _ hb1) ?_
          rotate_left 1
          next => intro w hSw; rw [hSe] at hSw; obtain ⟨s1, s2, s3, s4, s5⟩ := hSw; go_simp; try with_reducible rfl
          try simp only [Act.put, List.getElem_toArray, List.getElem_cons_zero, List.getElem_cons_succ, List.setIfInBounds_toArray, List.set_cons_zero, List.set_cons_succ]
          refine wpAnyH_take (i := 11) (v := ?_) rfl (by kernel_rfl) (by kernel_rfl) (by kernel_rfl) (fun _ _ _ h => h) (Or.inl ⟨by rfl, ?_⟩) (HS.out _ hb1) ?_
          rotate_left 1
          next => intro w hSw; rw [hSe] at hSw; obtain ⟨s1, s2, s3, s4, s5⟩ := hSw; go_simp; try with_reducible rfl
          try simp only [Act.put, List.getElem_toArray, List.getElem_cons_zero, List.getElem_cons_succ, List.setIfInBounds_toArray, List.set_cons_zero, List.set_cons_succ]
          refine wpAnyH_take (i := 12) (v := ?_) rfl (by kernel_rfl) (by kernel_rfl) (by kernel_rfl) (fun _ _ _ h => h) (Or.inl ⟨by rfl, ?_⟩) (HS.out _ hb1) ?_
          rotate_left 1
          next => intro w hSw; rw [hSe] at hSw; obtain ⟨s1, s2, s3, s4, s5⟩ := hSw; go_simp; try with_reducible rfl
          try simp only [Act.put, List.getElem_toArray, List.getElem_cons_zero, List.getElem_cons_succ, List.setIfInBounds_toArray, List.set_cons_zero, List.set_cons_succ]
          refine wpAnyH_take (i := 13) (v := ?_) rfl (by kernel_rfl) (by kernel_rfl) (by kernel_rfl) (fun _ _ _ h => h) (Or.inl ⟨by rfl, ?_⟩) (HS.out _ hb1) ?_
          rotate_left 1
          next => intro w hSw; rw [hSe] at hSw; obtain ⟨s1, s2, s3, s4, s5⟩ := hSw; go_simp; try with_reducible rfl
          try simp only [Act.put, List.getElem_toArray, List.getElem_cons_zero, List.getElem_cons_succ, List.setIfInBounds_toArray, List.set_cons_zero, List.set_cons_succ]
          refine wpAnyH_done (by kernel_rfl) ?_ _
          have HH9 := Lib.hid hb1
          generalize w1 = W9 at *
          clear hb1 HS hd
          obtain ⟨d, hd9⟩ : ∃ d, (encW m s ls ByteArray.empty).1 = d := ⟨_, rfl⟩
          have HSt2 : Hid (wdX m I n s (k + 1) = wdX m I n s k ++ [d]) := Lib.hid (by rw [← hd9]; exact HSt.out)
          rw [hd9]
          have HO9 := Lib.hid ((HO.out.below (Nat.le_refl _) HH9.out).alloc (.cells #[.string d] 9))
          have HB9 : Hid (Below V1.heap.size V1 (W9.alloc (.cells #[.string d] 9))) := Lib.hid ((Hb.out.trans (HH9.out.mono Hb.out.size)).alloc (Nat.le_trans Hb.out.size HH9.out.size) _)
          clear hd9 HH9
          go_wp2_with (at_builtin; refine wpList_append_str rfl _ _ rfl V1.heap.size _ _ rfl HO9.out W9.heap.size 1 d rfl (cell_new0 _ _ _) ?_ ?_ ?_)
          · have := HXl.out; omega
          · have := HB9.out.size; omega
          intro v7 w7 hown7 hg7
          have HB7 := Lib.hid (below_append HB9.out HO9.out hg7 HB9.out.size (Nat.le_refl _))
          have HO7 : Hid (OwnStrs w7 V1.heap.size v7 (wdX m I n s (k + 1))) := Lib.hid (by rw [HSt2.out]; exact hown7)
          clear hown7 hg7 HO9 HB9
          go_wp2
          go_roundw
          case rel => exact ⟨k + 1, by omega, by go_num, HO7, HB7⟩
          case measure => simp [intOf]; omega
        · have k1 : ¬ (k : Int) < (N : Int) := by omega
          have hke : k = N := by omega
          have HO9 : Hid (OwnStrs wr V1.heap.size u6 (wordsS m n (s + 1))) := Lib.hid (by
            have h := HO.out
            rw [hke, ← HNL.out, wdX_end HOk.out hlt] at h
            exact h)
          clear hke
          go_wp2
          go_roundw
          case rel => exact ⟨s + 1, by omega, by go_num, HO9, Hb⟩
          case measure => simp [intOf]; omega
    · have s0 : ¬ (s : Int) < (m.r : Int) := by omega
      have hse : s = m.r := by omega
      have HO9 : Hid (OwnStrs wr w.heap.size u6 (wordsE m n)) := Lib.hid (by
        have h := HO.out
        rw [hse] at h
        exact OwnStrs.base h (by omega))
      clear hse
      go_wp2
      go_ret
      exact ⟨_, rfl, HO9.out, Hbw1.out.trans (Hb.out.mono (by omega))⟩
end Go.Proofs.Ytcafeffgaokiaaa
