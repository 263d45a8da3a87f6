/- encoder.Encode at a valid encoder. -/
import Derived.Test.YtcafeffgaokiaaaZ36
import Derived.Test.YtcafeffgaokiaaaZ41
namespace Go.Proofs.Ytcafeffgaokiaaa
open Go.RowKit
set_option maxRecDepth 100000 in
theorem encOut_any (x I : Nat) (hx : x < I) (hI : I ≤ 256) (g : Nat) (W : World) (hc : W.cell? ⟨g, 2, none⟩ = some (.int .i64 (I : Int))) :
    Calls Try.prog 33 #[.int .i64 (x : Int), .pointer (some ⟨g, 0, none⟩)] W (RetB false W) := by
  have x0 : ¬ (x : Int) < 0 := by omega
  have x1 : ¬ (I : Int) ≤ (x : Int) := by omega
  go_enter Try.func33, Try.ntmps33
  go_wp2
  go_ret
  exact ⟨by first | rfl | (have y0 : decide ((x : Int) < 0) = false := decide_eq_false x0; have y1 : decide (I ≤ x) = false := decide_eq_false (by omega); simp [y0, y1]), Below.refl _ _⟩
set_option maxRecDepth 100000 in
set_option maxHeartbeats 8000000 in
theorem encode_any (l b i : Int) (m : EM) (p : Option Addr) (c : Nat) (s : Nat) (q : Option Addr) (cq : Nat) (ls : List Nat) (w : World) (hA : m.At w p) (hf : m.Fit) (he : encCheck l b i m = 0) (hs : s < m.r) (hq : IntsAt w q (intsN ls)) (hl : ∀ x ∈ ls, (x : Int) < i) (hn : ls.length ≤ 16) :
    Calls Try.prog 10 #[.agg #[.int .i64 l, .int .i64 b, .int .i64 i, .slice p m.r c], .int .i64 (s : Int), .slice q ls.length cq] w fun e w' =>
      e = .returned (.tuple #[.string (encW m s ls ByteArray.empty).1, .int .i64 ((encW m s ls ByteArray.empty).2 : Int), .int .i64 0]) ∧ Below w.heap.size w w' := by
  obtain ⟨⟨l1, l2⟩, ⟨b1, b2⟩, ⟨i1, i2⟩, ⟨r1, r2⟩, hok, _⟩ := encCheck_ok he
  obtain ⟨B, rfl⟩ : ∃ B : Nat, b = B := ⟨b.toNat, by omega⟩
  obtain ⟨I, rfl⟩ : ∃ I : Nat, i = I := ⟨i.toNat, by omega⟩
  rw [Int.toNat_natCast, Int.toNat_natCast] at hok
  have HOk := Lib.hid hok
  have HE := Lib.hid hA
  have HQ := Lib.hid hq
  have HL : Hid (∀ x ∈ ls, x < I) := Lib.hid (fun x hx => by have := hl x hx; omega)
  have hC := Lib.hid (fun (W : World) (h : Below w.heap.size w W) => encCheck_any l (B : Int) (I : Int) m p c W (hA.below (Nat.le_refl _) h) hf)
  rw [he] at hC
  clear hA hq hl he hok hf
  have s0 : (0 : Int) ≤ (s : Int) := by omega
  have s1 : (s : Int) < (m.r : Int) := by omega
  have s2 : ¬ (s : Int) < 0 := by omega
  have s3 : ¬ (m.r : Int) ≤ (s : Int) := by omega
  have s4 : decide (m.r ≤ s) = false := decide_eq_false (by omega)
  have s5 : decide ((s : Int) < 0) = false := decide_eq_false (by omega)
  obtain ⟨NB, hNB⟩ : ∃ NB, ls.length * B = NB := ⟨_, rfl⟩
  have hNB2 : NB ≤ 256 := by rw [← hNB]; exact Nat.le_trans (Nat.mul_le_mul hn (show B ≤ 16 by omega)) (by decide)
  have hw1 : wrap64 ((ls.length : Int) * (B : Int)) = (NB : Int) := by rw [← Int.natCast_mul, hNB]; exact IntWalk.wrap64_in _ (by omega)
  have hw2 : IntKind.i64.wrap ((ls.length : Int) * (B : Int)) = (NB : Int) := (IntWalk.i64_left _).trans hw1
  have hw3 : ¬ (65536 : Int) < (NB : Int) := by omega
  obtain ⟨⟨x0, x1, x2, x3⟩, _, hb0⟩ := box4 (Below.refl (w.heap.size + 1) (w.alloc (.cells #[.int .i64 l, .int .i64 (B : Int), .int .i64 (I : Int), .slice p m.r c] 24)))
  have Hb0 := Lib.hid hb0
  clear hNB hb0
  go_enter Try.func10, Try.ntmps10
  go_wp2_with fail
  refine (hC.out _ Hb0.out).mono ?_; rintro e V1 ⟨rfl, hb⟩
  have HB1 : Hid (Below (w.heap.size + 1) (w.alloc (.cells #[.int .i64 l, .int .i64 (B : Int), .int .i64 (I : Int), .slice p m.r c] 24)) V1) := Lib.hid (hb.mono (by simp))
  clear hb x0 x1 x2 x3
  obtain ⟨⟨x0, x1, x2, x3⟩, hsz1, hbw1⟩ := box4 HB1.out
  have Hbw1 := Lib.hid hbw1
  have hbv : ∀ W, Below V1.heap.size V1 W → W.cell? ⟨w.heap.size, 2, none⟩ = some (.int .i64 (I : Int)) := fun W hW => (hW.cell (p := ⟨w.heap.size, 2, none⟩) hsz1).trans x2
  have hcf := containsFn_i ls.length q cq (fun k => (intsN ls).getD k 0) 33 #[.pointer (some ⟨w.heap.size, 0, none⟩)] (fun _ => false) V1 (enters_of Try.func33 (by kernel_rfl) rfl) (by omega)
    (by have h := HQ.out.below (Nat.le_refl _) hbw1; unfold IntsAt at h; rw [intsN_len] at h; exact h)
    (fun k W hk hW => by
      show Calls _ _ #[.int .i64 ((intsN ls).getD k 0), .pointer (some ⟨w.heap.size, 0, none⟩)] W _
      rw [intsN_get hk]
      exact encOut_any _ I (HL.out _ (by rw [List.getD_eq_getElem?_getD, List.getElem?_eq_getElem hk]; exact List.getElem_mem hk)) (by omega) _ W (hbv W hW))
  have hany : anyN (fun _ => false) ls.length = false := anyN_false.2 (fun _ _ => rfl)
  rw [hany] at hcf
  have HCf := Lib.hid hcf
  clear hbw1 hC hcf hany hbv
  go_wp2_with fail
  refine HCf.out.mono ?_; rintro e V2 ⟨rfl, hb⟩
  have HB2 : Hid (Below (w.heap.size + 1) (w.alloc (.cells #[.int .i64 l, .int .i64 (B : Int), .int .i64 (I : Int), .slice p m.r c] 24)) V2) := Lib.hid (HB1.out.trans (hb.mono (by omega)))
  clear hb x0 x1 x2 x3 HCf
  obtain ⟨⟨x0, x1, x2, x3⟩, hsz2, hbw2⟩ := box4 HB2.out
  have Hbw2 := Lib.hid hbw2
  clear hbw2
  have hsb : w.heap.size + 1 ≤ V2.heap.size := hsz2
  have hwr : IsWr (w.heap.size + 1) V2.heap.size l (B : Int) (I : Int) (.slice p m.r c) (s : Int) [] (V2.alloc (.cells #[.int .i64 l, .int .i64 (B : Int), .int .i64 (I : Int), .slice p m.r c, .int .i64 (s : Int), .pointer none, .slice none 0 0] 73)) :=
    .inl ⟨hsb, .slice none 0 0, World.alloc_heap_new V2 _, World.ownsRow_nil _ _ _ _, by simp [Value.ownBlock], fun _ => rfl⟩
  have HB3 : Hid (Below (w.heap.size + 1) (w.alloc (.cells #[.int .i64 l, .int .i64 (B : Int), .int .i64 (I : Int), .slice p m.r c] 24)) (V2.alloc (.cells #[.int .i64 l, .int .i64 (B : Int), .int .i64 (I : Int), .slice p m.r c, .int .i64 (s : Int), .pointer none, .slice none 0 0] 73))) := Lib.hid (HB2.out.alloc hsb _)
  have HWr := Lib.hid hwr
  clear hwr HB1 Hbw1 Hbw2 HB2
  obtain ⟨g, hg⟩ : ∃ g, V2.heap.size = g := ⟨_, rfl⟩
  go_upto_region 11 with (fail)
  rw [hg] at HWr hsb
  clear hg x0 x1 x2 x3
  generalize V2.alloc (.cells #[.int .i64 l, .int .i64 (B : Int), .int .i64 (I : Int), .slice p m.r c, .int .i64 (s : Int), .pointer none, .slice none 0 0] 73) = V3 at *
  go_wp2
  go_loopw [46] (fun jv wr => ∃ j : Nat, ∃ t : Nat, ∃ d : ByteArray, j ≤ ls.length ∧ jv = .int .i64 (j : Nat) ∧ Hid (encW m s (ls.take j) ByteArray.empty = (d, t)) ∧ Hid (IsWr (w.heap.size + 1) g l (B : Int) (I : Int) (.slice p m.r c) (t : Int) d.data.toList wr) ∧ Hid (Below (w.heap.size + 1) (w.alloc (.cells #[.int .i64 l, .int .i64 (B : Int), .int .i64 (I : Int), .slice p m.r c] 24)) wr)) (fun jv _ => ls.length - (intOf jv).toNat)
  case atStart => exact ⟨0, s, ByteArray.empty, by omega, by go_num, Lib.hid rfl, HWr, HB3⟩
  case round =>
    clear HWr HB3
    obtain ⟨j, t, d, hj, rfl, Hd, HWr, HB3⟩ := hrel
    obtain ⟨_, hsz3, hbw3⟩ := box4 HB3.out
    have Hbw3 := Lib.hid hbw3
    clear hbw3
    have hlw := encW_lt HOk.out (ls.take j) s ByteArray.empty (by omega) (fun y hy => HL.out y (List.mem_of_mem_take hy))
    rw [Hd.out] at hlw
    have htr : t < m.r := hlw.1
    have hds : d.size = 0 + (ls.take j).length * B := hlw.2
    have hds2 : d.data.toList.length ≤ 256 := by
      have : d.data.toList.length = d.size := by simp
      rw [this, hds, List.length_take, Nat.zero_add]
      exact Nat.le_trans (Nat.mul_le_mul (show min j ls.length ≤ 16 by omega) (show B ≤ 16 by omega)) (by decide)
    clear hlw hds
    by_cases hltj : j < ls.length
    · obtain ⟨ab, ao, rfl, hab, hca⟩ := IntsAt.cells (HQ.out.below (Nat.le_refl _) Hbw3.out) (k := j) (by rw [intsN_len]; exact hltj)
      have hxa := hca j (by rw [intsN_len]; exact hltj)
      rw [intsN_get hltj] at hxa
      have hxI := HL.out _ (show ls.getD j 0 ∈ ls from by rw [List.getD_eq_getElem?_getD, List.getElem?_eq_getElem hltj]; exact List.getElem_mem hltj)
      have hNx := encW_snoc m ls s ByteArray.empty hltj
      rw [Hd.out] at hNx
      obtain ⟨x, hx⟩ : ∃ x, ls.getD j 0 = x := ⟨_, rfl⟩
      rw [hx] at hxa hxI hNx
      have HNx := Lib.hid hNx
      have HPut := Lib.hid (put_any (w.heap.size + 1) g l (B : Int) (I : Int) m (some ⟨ab, ao, none⟩) c I B t x d.data.toList wr)
      clear HPut
      have HPut := Lib.hid (put_any (w.heap.size + 1) g l (B : Int) (I : Int) m p c I B t x d.data.toList wr HWr.out (HE.out.below (Nat.le_refl _) Hbw3.out) HOk.out htr hxI (by omega) (by omega) r2 (by omega) (by omega))
      have j0 : (0 : Int) ≤ (j : Int) := by omega
      have j1 : (j : Int) < (ls.length : Int) := by omega
      clear hca hx hNx htr hxI hds2 HWr
      go_wp2_with fail
      refine HPut.out.mono ?_
      rintro e W9 ⟨rfl, hw9, hb9⟩
      have HW9 : Hid (IsWr (w.heap.size + 1) g l (B : Int) (I : Int) (.slice p m.r c) (((m.T t x).toNat : Nat) : Int) (d ++ m.D t x).data.toList W9) := Lib.hid (by rw [ByteArray.data_append, Array.toList_append]; exact hw9)
      have HB9 := Lib.hid (HB3.out.trans hb9)
      clear hw9 hb9 HPut
      go_wp2
      go_roundw
      case rel => exact ⟨j + 1, (m.T t x).toNat, d ++ m.D t x, by omega, by go_num, HNx, HW9, HB9⟩
      case measure => simp [intOf]; omega
    · have j1 : ¬ (j : Int) < (ls.length : Int) := by omega
      have Hje := Lib.hid (show encW m s ls ByteArray.empty = (d, t) by rw [← Hd.out, List.take_of_length_le (by omega)])
      have hgl := HWr.out.lt
      obtain ⟨_, c4, _⟩ := HWr.out.cells
      have HSt := Lib.hid (stringW (w.heap.size + 1) g l (B : Int) (I : Int) (.slice p m.r c) (t : Int) d.data.toList wr.drew HWr.out.drew)
      clear hds2 htr
      go_upto_region 16 with (fail)
      refine wp_region_held_drew (S := fun W => W.cell? ⟨g, 4, none⟩ = some (.int .i64 (t : Int))) (by kernel_rfl) c4 (fun hSS => ?_)
      refine wpAnyH_take (i := 0) (v := ?_) rfl (by kernel_rfl) (by kernel_rfl) (by kernel_rfl) (fun _ _ _ h => h) (Or.inl ⟨by rfl, ?_⟩) hSS ?_
      rotate_left 1
      next => intro w hSw; have s1 := hSw; go_simp; try with_reducible rfl
      try simp only [Act.put, List.getElem_toArray, List.getElem_cons_zero, List.getElem_cons_succ, List.setIfInBounds_toArray, List.set_cons_zero, List.set_cons_succ]
      refine wpAnyH_take (i := 1) (v := ?_) rfl (by kernel_rfl) (by kernel_rfl) (by kernel_rfl) (fun _ _ _ h => h) (Or.inl ⟨by rfl, ?_⟩) hSS ?_
      rotate_left 1
      next => intro w hSw; have s1 := hSw; go_simp; try with_reducible rfl
      try simp only [Act.put, List.getElem_toArray, List.getElem_cons_zero, List.getElem_cons_succ, List.setIfInBounds_toArray, List.set_cons_zero, List.set_cons_succ]
      refine wpAnyH_take (i := 2) (v := ?_) rfl (by kernel_rfl) (by kernel_rfl) (by kernel_rfl) (fun _ _ _ h => h) (Or.inl ⟨by rfl, ?_⟩) hSS ?_
      rotate_left 1
      next => intro w hSw; have s1 := hSw; go_simp; try with_reducible rfl
      try simp only [Act.put, List.getElem_toArray, List.getElem_cons_zero, List.getElem_cons_succ, List.setIfInBounds_toArray, List.set_cons_zero, List.set_cons_succ]
      refine wpAnyH_take (i := 4) (v := ?_) rfl (by kernel_rfl) (by kernel_rfl) (by kernel_rfl) (fun _ _ _ h => h) (Or.inl ⟨by rfl, ?_⟩) hSS ?_
      rotate_left 1
      next => intro w hSw; have s1 := hSw; go_simp; try with_reducible rfl
      try simp only [Act.put, List.getElem_toArray, List.getElem_cons_zero, List.getElem_cons_succ, List.setIfInBounds_toArray, List.set_cons_zero, List.set_cons_succ]
      refine wpAnyH_take (i := 5) (v := ?_) rfl (by kernel_rfl) (by kernel_rfl) (by kernel_rfl) (fun _ _ _ h => h) (Or.inl ⟨by rfl, ?_⟩) hSS ?_
      rotate_left 1
      next => intro w hSw; have s1 := hSw; go_simp; try with_reducible rfl
      try simp only [Act.put, List.getElem_toArray, List.getElem_cons_zero, List.getElem_cons_succ, List.setIfInBounds_toArray, List.set_cons_zero, List.set_cons_succ]
      refine wpAnyH_take (i := 6) (v := ?_) rfl (by kernel_rfl) (by kernel_rfl) (by kernel_rfl) (fun _ _ _ h => h) (Or.inl ⟨by rfl, ?_⟩) hSS ?_
      rotate_left 1
      next => intro w hSw; have s1 := hSw; go_simp; try with_reducible rfl
      try simp only [Act.put, List.getElem_toArray, List.getElem_cons_zero, List.getElem_cons_succ, List.setIfInBounds_toArray, List.set_cons_zero, List.set_cons_succ]
      refine wpAnyH_take (i := 7) (v := ?_) rfl (by kernel_rfl) (by kernel_rfl) (by kernel_rfl) (fun _ _ _ h => h) (Or.inl ⟨by rfl, ?_⟩) hSS ?_
      rotate_left 1
      next => intro w hSw; have s1 := hSw; go_simp; try with_reducible rfl
      try simp only [Act.put, List.getElem_toArray, List.getElem_cons_zero, List.getElem_cons_succ, List.setIfInBounds_toArray, List.set_cons_zero, List.set_cons_succ]
      refine wpAnyH_ready (rs := [3]) (by kernel_rfl) (by simp) ?_
      refine AllReadyH.cons rfl (fun K hK => ?_) AllReadyH.nil
      go_simp
      refine HSt.out.mono ?_
      rintro e W9 ⟨rfl, hb9, hc9⟩
      dsimp only
      have Hb9 : Hid (Below w.heap.size w W9) := Lib.hid ((box4 (HB3.out.trans ((Below.drew (Below.refl _ wr)).trans hb9))).2.2)
      refine hK.out _ _ hc9 (fun _ => ?_)
      clear hK K hb9
      refine wpAnyH_take (i := 8) (v := ?_) rfl (by kernel_rfl) (by kernel_rfl) (by kernel_rfl) (fun _ _ _ h => h) (Or.inl ⟨by rfl, ?_⟩) hc9 ?_
      rotate_left 1
      next => intro w hSw; have s1 := hSw; go_simp; try with_reducible rfl
      try simp only [Act.put, List.getElem_toArray, List.getElem_cons_zero, List.getElem_cons_succ, List.setIfInBounds_toArray, List.set_cons_zero, List.set_cons_succ]
      refine wpAnyH_take (i := 9) (v := ?_) rfl (by kernel_rfl) (by kernel_rfl) (by kernel_rfl) (fun _ _ _ h => h) (Or.inl ⟨by rfl, ?_⟩) hc9 ?_
      rotate_left 1
      next => intro w hSw; have s1 := hSw; go_simp; try with_reducible rfl
      try simp only [Act.put, List.getElem_toArray, List.getElem_cons_zero, List.getElem_cons_succ, List.setIfInBounds_toArray, List.set_cons_zero, List.set_cons_succ]
      refine wpAnyH_take (i := 10) (v := ?_) rfl (by kernel_rfl) (by kernel_rfl) (by kernel_rfl) (fun _ _ _ h => h) (Or.inl ⟨by rfl, ?_⟩) hc9 ?_
      rotate_left 1
      next => intro w hSw; have s1 := hSw; go_simp; try with_reducible rfl
      try simp only [Act.put, List.getElem_toArray, List.getElem_cons_zero, List.getElem_cons_succ, List.setIfInBounds_toArray, List.set_cons_zero, List.set_cons_succ]
      refine wpAnyH_done (by kernel_rfl) ?_ _
      go_wp2
      go_ret3
      exact ⟨by rw [Hje.out]; rfl, Hb9.out⟩
end Go.Proofs.Ytcafeffgaokiaaa
