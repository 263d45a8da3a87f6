/- MatrixProduct: the walk. -/
import Derived.Test.YtlkoiekdafaapaaSqp
import Derived.Test.YtlkoiekdafaapaaLRing
namespace Go.Proofs.Ytlkoiekdafaapaa
open Go.RowKit Go.Shelf

theorem detL_size {n : Nat} (h1 : 0 < n) (h4 : n ≤ 4) {F : Nat → Nat → Int} {e : Nat} (hb : BnM n n F e) (he : e ≤ 1000) : (canon (detL n F)).mag.size ≤ 100000000 := by
  have h := (chr_sq h4 hb he).c (n - 1) (by omega)
  rw [chr_det n h1 h4] at h
  unfold sgF at h
  split at h
  · rwa [size_neg] at h
  · exact h
set_option maxRecDepth 100000 in
set_option maxHeartbeats 8000000 in
theorem lawPrd (a : GM) (pa : Option Addr) (ca : Nat) (b : GM) (pb : Option Addr) (cb : Nat) (w : World) (ha : a.In w pa) (hb : b.In w pb) :
    Calls Try.prog 6 #[.slice pa a.r ca, .slice pb b.r cb] w (RetB true w) := by
  have HFa := Lib.hid (fun (W : World) (hW : Below w.heap.size w W) => fine_any a pa ca a.r W (ha.below (Nat.le_refl _) hW))
  have HFb := Lib.hid (fun (W : World) (hW : Below w.heap.size w W) => fine_any b pb cb a.r W (hb.below (Nat.le_refl _) hW))
  have hm6 := @max6 Try.prog
  by_cases fa : fineB a a.r = true
  rotate_left 1
  · rw [Bool.not_eq_true] at fa
    rw [fa] at HFa
    clear ha hb fa
    generalize a.r = n at *
    generalize b.r = nb at *
    have Hbb : Hid (Below w.heap.size w w) := Lib.hid (Below.refl _ _)
    go_enter Try.func6, Try.ntmps6
    go_wp2_with fail
    refine (HFa.out _ Hbb.out).mono ?_
    rintro e y1 ⟨rfl, hbc⟩
    dsimp only
    have Hbb := Lib.hid (Hbb.out.trans (hbc.mono Hbb.out.size))
    clear hbc
    go_wp2_with fail
    refine (awake_any _).mono ?_
    rintro e y2 ⟨rfl, hbc⟩
    dsimp only
    have Hbb := Lib.hid (Hbb.out.trans (hbc.mono Hbb.out.size))
    clear hbc
    go_wp2
    go_ret
    exact ⟨rfl, Hbb.out⟩
  rw [fa] at HFa
  by_cases fb : fineB b a.r = true
  rotate_left 1
  · rw [Bool.not_eq_true] at fb
    rw [fb] at HFb
    clear ha hb fb fa
    generalize a.r = n at *
    generalize b.r = nb at *
    have Hbb : Hid (Below w.heap.size w w) := Lib.hid (Below.refl _ _)
    go_enter Try.func6, Try.ntmps6
    go_wp2_with fail
    refine (HFa.out _ Hbb.out).mono ?_
    rintro e y1 ⟨rfl, hbc⟩
    dsimp only
    have Hbb := Lib.hid (Hbb.out.trans (hbc.mono Hbb.out.size))
    clear hbc
    go_wp2_with fail
    refine (HFb.out _ Hbb.out).mono ?_
    rintro e y2 ⟨rfl, hbc⟩
    dsimp only
    have Hbb := Lib.hid (Hbb.out.trans (hbc.mono Hbb.out.size))
    clear hbc
    go_wp2_with fail
    refine (awake_any _).mono ?_
    rintro e y3 ⟨rfl, hbc⟩
    dsimp only
    have Hbb := Lib.hid (Hbb.out.trans (hbc.mono Hbb.out.size))
    clear hbc
    go_wp2
    go_ret
    exact ⟨rfl, Hbb.out⟩
  rw [fb] at HFb
  have SA := Lib.hid (fine_sq ca fa ha.at')
  have SB := Lib.hid (fine_sq cb fb hb.at')
  obtain ⟨_, h1, h4, _⟩ := fine_says fa
  clear ha hb fa fb
  generalize a.F = A at *
  generalize b.F = B at *
  generalize a.r = n at *
  generalize b.r = nb at *
  have Hbb : Hid (Below w.heap.size w w) := Lib.hid (Below.refl _ _)
  go_enter Try.func6, Try.ntmps6
  go_wp2_with fail
  refine (HFa.out _ Hbb.out).mono ?_
  rintro e y1 ⟨rfl, hbc⟩
  dsimp only
  have SA := Lib.hid (SA.out.below hbc)
  have SB := Lib.hid (SB.out.below hbc)
  have Hbb := Lib.hid (Hbb.out.trans (hbc.mono Hbb.out.size))
  clear hbc
  go_wp2_with fail
  refine (HFb.out _ Hbb.out).mono ?_
  rintro e y2 ⟨rfl, hbc⟩
  dsimp only
  have SA := Lib.hid (SA.out.below hbc)
  have SB := Lib.hid (SB.out.below hbc)
  have Hbb := Lib.hid (Hbb.out.trans (hbc.mono Hbb.out.size))
  clear hbc
  clear HFa HFb
  go_wp2_with fail
  refine (sq_mul h1 h4 SA.out SB.out (by decide)).mono ?_
  rintro e y3 ⟨v1, rfl, hsc, hbc⟩
  dsimp only
  have SA := Lib.hid (SA.out.below hbc)
  have SB := Lib.hid (SB.out.below hbc)
  have Hbb := Lib.hid (Hbb.out.trans (hbc.mono Hbb.out.size))
  have SAB := Lib.hid hsc
  clear hbc hsc
  go_wp2_with fail
  refine (sq_tr h1 h4 SA.out (by decide)).mono ?_
  rintro e y4 ⟨v2, rfl, hsc, hbc⟩
  dsimp only
  have SA := Lib.hid (SA.out.below hbc)
  have SB := Lib.hid (SB.out.below hbc)
  have SAB := Lib.hid (SAB.out.below hbc)
  have Hbb := Lib.hid (Hbb.out.trans (hbc.mono Hbb.out.size))
  have ST := Lib.hid hsc
  clear hbc hsc
  have hbA := SA.out.bn
  have hbB := SB.out.bn
  have HbA := Lib.hid hbA
  have HbB := Lib.hid hbB
  clear hbA hbB
  have HTr := Lib.hid (detL_tr n h1 h4 A)
  have HMl := Lib.hid (detL_mul n h1 h4 A B)
  go_wp2_with fail
  refine (sq_det h1 h4 SA.out (by decide)).mono ?_
  rintro e y5 hok
  obtain ⟨rfl, hbc⟩ := hok.ok
  dsimp only
  clear hok
  have SA := Lib.hid (SA.out.below hbc)
  have SB := Lib.hid (SB.out.below hbc)
  have SAB := Lib.hid (SAB.out.below hbc)
  have ST := Lib.hid (ST.out.below hbc)
  have Hbb := Lib.hid (Hbb.out.trans (hbc.mono Hbb.out.size))
  clear hbc SA
  have hbc := (Below.refl y5.heap.size y5).alloc (Nat.le_refl _) (.cells #[.bool (canon (detL n A)).neg, .string (canon (detL n A)).mag] 27)
  have BA := Lib.hid (BoxAt.new y5 (.bool (canon (detL n A)).neg) (.string (canon (detL n A)).mag) 27)
  have SB := Lib.hid (SB.out.below hbc)
  have SAB := Lib.hid (SAB.out.below hbc)
  have ST := Lib.hid (ST.out.below hbc)
  have Hbb := Lib.hid (Hbb.out.trans (hbc.mono Hbb.out.size))
  clear hbc
  go_wp2_with fail
  obtain ⟨gA, hgg⟩ : ∃ g, y5.heap.size = g := ⟨_, rfl⟩
  rw [hgg] at BA ⊢
  clear hgg
  generalize y5.alloc (.cells #[.bool (canon (detL n A)).neg, .string (canon (detL n A)).mag] 27) = y6 at *
  refine (sq_det h1 h4 SB.out (by decide)).mono ?_
  rintro e y7 hok
  obtain ⟨rfl, hbc⟩ := hok.ok
  dsimp only
  clear hok
  have SB := Lib.hid (SB.out.below hbc)
  have SAB := Lib.hid (SAB.out.below hbc)
  have ST := Lib.hid (ST.out.below hbc)
  have BA := Lib.hid (BA.out.below hbc BA.out.2.2.2.2)
  have Hbb := Lib.hid (Hbb.out.trans (hbc.mono Hbb.out.size))
  clear hbc SB
  have hbc := (Below.refl y7.heap.size y7).alloc (Nat.le_refl _) (.cells #[.bool (canon (detL n B)).neg, .string (canon (detL n B)).mag] 27)
  have BB := Lib.hid (BoxAt.new y7 (.bool (canon (detL n B)).neg) (.string (canon (detL n B)).mag) 27)
  have SAB := Lib.hid (SAB.out.below hbc)
  have ST := Lib.hid (ST.out.below hbc)
  have BA := Lib.hid (BA.out.below hbc BA.out.2.2.2.2)
  have Hbb := Lib.hid (Hbb.out.trans (hbc.mono Hbb.out.size))
  clear hbc
  go_wp2_with fail
  obtain ⟨gB, hgg⟩ : ∃ g, y7.heap.size = g := ⟨_, rfl⟩
  rw [hgg] at BB ⊢
  clear hgg
  generalize y7.alloc (.cells #[.bool (canon (detL n B)).neg, .string (canon (detL n B)).mag] 27) = y8 at *
  refine (sq_det h1 h4 SAB.out (by decide)).mono ?_
  rintro e y9 hok
  obtain ⟨rfl, hbc⟩ := hok.ok
  dsimp only
  clear hok
  have SAB := Lib.hid (SAB.out.below hbc)
  have ST := Lib.hid (ST.out.below hbc)
  have BA := Lib.hid (BA.out.below hbc BA.out.2.2.2.2)
  have BB := Lib.hid (BB.out.below hbc BB.out.2.2.2.2)
  have Hbb := Lib.hid (Hbb.out.trans (hbc.mono Hbb.out.size))
  clear hbc SAB
  have hbc := (Below.refl y9.heap.size y9).alloc (Nat.le_refl _) (.cells #[.bool (canon (detL n (mulF n A B))).neg, .string (canon (detL n (mulF n A B))).mag] 27)
  have BAB := Lib.hid (BoxAt.new y9 (.bool (canon (detL n (mulF n A B))).neg) (.string (canon (detL n (mulF n A B))).mag) 27)
  have ST := Lib.hid (ST.out.below hbc)
  have BA := Lib.hid (BA.out.below hbc BA.out.2.2.2.2)
  have BB := Lib.hid (BB.out.below hbc BB.out.2.2.2.2)
  have Hbb := Lib.hid (Hbb.out.trans (hbc.mono Hbb.out.size))
  clear hbc
  go_wp2_with fail
  obtain ⟨gC, hgg⟩ : ∃ g, y9.heap.size = g := ⟨_, rfl⟩
  rw [hgg] at BAB ⊢
  clear hgg
  generalize y9.alloc (.cells #[.bool (canon (detL n (mulF n A B))).neg, .string (canon (detL n (mulF n A B))).mag] 27) = y10 at *
  refine (sq_det h1 h4 ST.out (by decide)).mono ?_
  rintro e y11 hok
  obtain ⟨rfl, hbc⟩ := hok.ok
  dsimp only
  clear hok
  have ST := Lib.hid (ST.out.below hbc)
  have BA := Lib.hid (BA.out.below hbc BA.out.2.2.2.2)
  have BB := Lib.hid (BB.out.below hbc BB.out.2.2.2.2)
  have BAB := Lib.hid (BAB.out.below hbc BAB.out.2.2.2.2)
  have Hbb := Lib.hid (Hbb.out.trans (hbc.mono Hbb.out.size))
  clear hbc ST
  have hbc := (Below.refl y11.heap.size y11).alloc (Nat.le_refl _) (.cells #[.bool (canon (detL n (fun i k => A k i))).neg, .string (canon (detL n (fun i k => A k i))).mag] 27)
  have BT := Lib.hid (BoxAt.new y11 (.bool (canon (detL n (fun i k => A k i))).neg) (.string (canon (detL n (fun i k => A k i))).mag) 27)
  have BA := Lib.hid (BA.out.below hbc BA.out.2.2.2.2)
  have BB := Lib.hid (BB.out.below hbc BB.out.2.2.2.2)
  have BAB := Lib.hid (BAB.out.below hbc BAB.out.2.2.2.2)
  have Hbb := Lib.hid (Hbb.out.trans (hbc.mono Hbb.out.size))
  clear hbc
  go_wp2_with fail
  obtain ⟨gT, hgg⟩ : ∃ g, y11.heap.size = g := ⟨_, rfl⟩
  rw [hgg] at BT ⊢
  clear hgg
  generalize y11.alloc (.cells #[.bool (canon (detL n (fun i k => A k i))).neg, .string (canon (detL n (fun i k => A k i))).mag] 27) = y12 at *
  rw [HTr.out] at BT
  rw [HMl.out] at BAB
  have HM := Lib.hid (fun W => mulc_any (detL n A) (detL n B) (detL_size h1 h4 HbA.out (by decide)) (detL_size h1 h4 HbB.out (by decide)) W)
  obtain ⟨XA, hXA⟩ : ∃ Z, canon (detL n A) = Z := ⟨_, rfl⟩
  obtain ⟨XB, hXB⟩ : ∃ Z, canon (detL n B) = Z := ⟨_, rfl⟩
  obtain ⟨XM, hXM⟩ : ∃ Z, canon (detL n A * detL n B) = Z := ⟨_, rfl⟩
  rw [hXA, hXB, hXM] at HM
  rw [hXA] at BA BT
  rw [hXB] at BB
  rw [hXM] at BAB
  clear hXA hXB hXM HTr HMl HbA HbB
  obtain ⟨a1, a2, _, _, _⟩ := BA.out
  obtain ⟨b1, b2, _, _, _⟩ := BB.out
  obtain ⟨c1, c2, _, _, _⟩ := BAB.out
  obtain ⟨d1, d2, _, _, _⟩ := BT.out
  obtain ⟨SS, hSe⟩ : ∃ SS : World → Prop, SS = fun W => W.cell? ⟨gA, 0, none⟩ = some (.bool XA.neg) ∧ W.cell? ⟨gA, 1, none⟩ = some (.string XA.mag) ∧ W.cell? ⟨gB, 0, none⟩ = some (.bool XB.neg) ∧ W.cell? ⟨gB, 1, none⟩ = some (.string XB.mag) ∧ W.cell? ⟨gC, 0, none⟩ = some (.bool XM.neg) ∧ W.cell? ⟨gC, 1, none⟩ = some (.string XM.mag) ∧ W.cell? ⟨gT, 0, none⟩ = some (.bool XA.neg) ∧ W.cell? ⟨gT, 1, none⟩ = some (.string XA.mag) := ⟨_, rfl⟩
  have HS : Hid (∀ W, Below y12.heap.size y12 W → SS W) := Lib.hid (fun W hW => by rw [hSe]; exact ⟨cell_below hW a1, cell_below hW a2, cell_below hW b1, cell_below hW b2, cell_below hW c1, cell_below hW c2, cell_below hW d1, cell_below hW d2⟩)
  clear a1 a2 b1 b2 c1 c2 d1 d2 BA BB BAB BT
  have hd : Below y12.heap.size y12 y12.drew := (Below.refl y12.heap.size y12).drew
  refine wp_region_held_drew (S := SS) (by kernel_rfl) (HS.out _ hd) (fun hSS => ?_)
  refine wpAnyH_take (i := 0) (v := ?_) rfl (by kernel_rfl) (by kernel_rfl) (by kernel_rfl) (fun _ _ _ h => h) (Or.inl ⟨by rfl, ?_⟩) hSS ?_
  rotate_left 1
  next => intro w hSw; rw [hSe] at hSw; obtain ⟨s1, s2, s3, s4, s5, s6, s7, s8⟩ := hSw; go_simp; try with_reducible rfl
  refine wpAnyH_take (i := 1) (v := ?_) rfl (by kernel_rfl) (by kernel_rfl) (by kernel_rfl) (fun _ _ _ h => h) (Or.inl ⟨by rfl, ?_⟩) hSS ?_
  rotate_left 1
  next => intro w hSw; rw [hSe] at hSw; obtain ⟨s1, s2, s3, s4, s5, s6, s7, s8⟩ := hSw; go_simp; try with_reducible rfl
  refine wpAnyH_take (i := 2) (v := ?_) rfl (by kernel_rfl) (by kernel_rfl) (by kernel_rfl) (fun _ _ _ h => h) (Or.inl ⟨by rfl, ?_⟩) hSS ?_
  rotate_left 1
  next => intro w hSw; rw [hSe] at hSw; obtain ⟨s1, s2, s3, s4, s5, s6, s7, s8⟩ := hSw; go_simp; try with_reducible rfl
  refine wpAnyH_take (i := 3) (v := ?_) rfl (by kernel_rfl) (by kernel_rfl) (by kernel_rfl) (fun _ _ _ h => h) (Or.inl ⟨by rfl, ?_⟩) hSS ?_
  rotate_left 1
  next => intro w hSw; rw [hSe] at hSw; obtain ⟨s1, s2, s3, s4, s5, s6, s7, s8⟩ := hSw; go_simp; try with_reducible rfl
  refine wpAnyH_take (i := 4) (v := ?_) rfl (by kernel_rfl) (by kernel_rfl) (by kernel_rfl) (fun _ _ _ h => h) (Or.inl ⟨by rfl, ?_⟩) hSS ?_
  rotate_left 1
  next => intro w hSw; rw [hSe] at hSw; obtain ⟨s1, s2, s3, s4, s5, s6, s7, s8⟩ := hSw; go_simp; try with_reducible rfl
  refine wpAnyH_take (i := 5) (v := ?_) rfl (by kernel_rfl) (by kernel_rfl) (by kernel_rfl) (fun _ _ _ h => h) (Or.inl ⟨by rfl, ?_⟩) hSS ?_
  rotate_left 1
  next => intro w hSw; rw [hSe] at hSw; obtain ⟨s1, s2, s3, s4, s5, s6, s7, s8⟩ := hSw; go_simp; try with_reducible rfl
  try simp only [Act.put, List.getElem_toArray, List.getElem_cons_zero, List.getElem_cons_succ, List.setIfInBounds_toArray, List.set_cons_zero, List.set_cons_succ]
  refine wpAnyH_ready (rs := [6]) (by kernel_rfl) (by simp) ?_
  refine AllReadyH.cons rfl (fun K hK => ?_) AllReadyH.nil
  go_simp
  refine hK.out _ _ hSS (fun _ => ?_)
  clear hK K
  refine wpAnyH_take (i := 7) (v := ?_) rfl (by kernel_rfl) (by kernel_rfl) (by kernel_rfl) (fun _ _ _ h => h) (Or.inl ⟨by rfl, ?_⟩) hSS ?_
  rotate_left 1
  next => intro w hSw; rw [hSe] at hSw; obtain ⟨s1, s2, s3, s4, s5, s6, s7, s8⟩ := hSw; go_simp; try with_reducible rfl
  refine wpAnyH_take (i := 8) (v := ?_) rfl (by kernel_rfl) (by kernel_rfl) (by kernel_rfl) (fun _ _ _ h => h) (Or.inl ⟨by rfl, ?_⟩) hSS ?_
  rotate_left 1
  next => intro w hSw; rw [hSe] at hSw; obtain ⟨s1, s2, s3, s4, s5, s6, s7, s8⟩ := hSw; go_simp; try with_reducible rfl
  refine wpAnyH_take (i := 9) (v := ?_) rfl (by kernel_rfl) (by kernel_rfl) (by kernel_rfl) (fun _ _ _ h => h) (Or.inl ⟨by rfl, ?_⟩) hSS ?_
  rotate_left 1
  next => intro w hSw; rw [hSe] at hSw; obtain ⟨s1, s2, s3, s4, s5, s6, s7, s8⟩ := hSw; go_simp; try with_reducible rfl
  refine wpAnyH_take (i := 10) (v := ?_) rfl (by kernel_rfl) (by kernel_rfl) (by kernel_rfl) (fun _ _ _ h => h) (Or.inl ⟨by rfl, ?_⟩) hSS ?_
  rotate_left 1
  next => intro w hSw; rw [hSe] at hSw; obtain ⟨s1, s2, s3, s4, s5, s6, s7, s8⟩ := hSw; go_simp; try with_reducible rfl
  refine wpAnyH_take (i := 11) (v := ?_) rfl (by kernel_rfl) (by kernel_rfl) (by kernel_rfl) (fun _ _ _ h => h) (Or.inl ⟨by rfl, ?_⟩) hSS ?_
  rotate_left 1
  next => intro w hSw; rw [hSe] at hSw; obtain ⟨s1, s2, s3, s4, s5, s6, s7, s8⟩ := hSw; go_simp; try with_reducible rfl
  try simp only [Act.put, List.getElem_toArray, List.getElem_cons_zero, List.getElem_cons_succ, List.setIfInBounds_toArray, List.set_cons_zero, List.set_cons_succ]
  refine wpAnyH_ready (rs := [12]) (by kernel_rfl) (by simp) ?_
  refine AllReadyH.cons rfl (fun K hK => ?_) AllReadyH.nil
  go_simp
  refine (HM.out _).mono ?_
  rintro e z1 ⟨rfl, hbc⟩
  have hz1 : Below y12.heap.size y12 z1 := hd.trans (hbc.mono hd.size)
  dsimp only
  refine hK.out _ _ (HS.out _ hz1) (fun _ => ?_)
  clear hK K
  refine wpAnyH_take (i := 13) (v := ?_) rfl (by kernel_rfl) (by kernel_rfl) (by kernel_rfl) (fun _ _ _ h => h) (Or.inl ⟨by rfl, ?_⟩) (HS.out _ hz1) ?_
  rotate_left 1
  next => intro w hSw; rw [hSe] at hSw; obtain ⟨s1, s2, s3, s4, s5, s6, s7, s8⟩ := hSw; go_simp; try with_reducible rfl
  refine wpAnyH_take (i := 14) (v := ?_) rfl (by kernel_rfl) (by kernel_rfl) (by kernel_rfl) (fun _ _ _ h => h) (Or.inl ⟨by rfl, ?_⟩) (HS.out _ hz1) ?_
  rotate_left 1
  next => intro w hSw; rw [hSe] at hSw; obtain ⟨s1, s2, s3, s4, s5, s6, s7, s8⟩ := hSw; go_simp; try with_reducible rfl
  refine wpAnyH_take (i := 15) (v := ?_) rfl (by kernel_rfl) (by kernel_rfl) (by kernel_rfl) (fun _ _ _ h => h) (Or.inl ⟨by rfl, ?_⟩) (HS.out _ hz1) ?_
  rotate_left 1
  next => intro w hSw; rw [hSe] at hSw; obtain ⟨s1, s2, s3, s4, s5, s6, s7, s8⟩ := hSw; go_simp; try with_reducible rfl
  refine wpAnyH_take (i := 16) (v := ?_) rfl (by kernel_rfl) (by kernel_rfl) (by kernel_rfl) (fun _ _ _ h => h) (Or.inl ⟨by rfl, ?_⟩) (HS.out _ hz1) ?_
  rotate_left 1
  next => intro w hSw; rw [hSe] at hSw; obtain ⟨s1, s2, s3, s4, s5, s6, s7, s8⟩ := hSw; go_simp; try with_reducible rfl
  refine wpAnyH_take (i := 17) (v := ?_) rfl (by kernel_rfl) (by kernel_rfl) (by kernel_rfl) (fun _ _ _ h => h) (Or.inl ⟨by rfl, ?_⟩) (HS.out _ hz1) ?_
  rotate_left 1
  next => intro w hSw; rw [hSe] at hSw; obtain ⟨s1, s2, s3, s4, s5, s6, s7, s8⟩ := hSw; go_simp; try with_reducible rfl
  refine wpAnyH_take (i := 18) (v := ?_) rfl (by kernel_rfl) (by kernel_rfl) (by kernel_rfl) (fun _ _ _ h => h) (Or.inl ⟨by rfl, ?_⟩) (HS.out _ hz1) ?_
  rotate_left 1
  next => intro w hSw; rw [hSe] at hSw; obtain ⟨s1, s2, s3, s4, s5, s6, s7, s8⟩ := hSw; go_simp; try with_reducible rfl
  refine wpAnyH_take (i := 19) (v := ?_) rfl (by kernel_rfl) (by kernel_rfl) (by kernel_rfl) (fun _ _ _ h => h) (Or.inl ⟨by rfl, ?_⟩) (HS.out _ hz1) ?_
  rotate_left 1
  next => intro w hSw; rw [hSe] at hSw; obtain ⟨s1, s2, s3, s4, s5, s6, s7, s8⟩ := hSw; go_simp; try with_reducible rfl
  refine wpAnyH_take (i := 20) (v := ?_) rfl (by kernel_rfl) (by kernel_rfl) (by kernel_rfl) (fun _ _ _ h => h) (Or.inl ⟨by rfl, ?_⟩) (HS.out _ hz1) ?_
  rotate_left 1
  next => intro w hSw; rw [hSe] at hSw; obtain ⟨s1, s2, s3, s4, s5, s6, s7, s8⟩ := hSw; go_simp; try with_reducible rfl
  try simp only [Act.put, List.getElem_toArray, List.getElem_cons_zero, List.getElem_cons_succ, List.setIfInBounds_toArray, List.set_cons_zero, List.set_cons_succ]
  refine wpAnyH_ready (rs := [21]) (by kernel_rfl) (by simp) ?_
  refine AllReadyH.cons rfl (fun K hK => ?_) AllReadyH.nil
  go_simp
  refine (awake_any _).mono ?_
  rintro e z2 ⟨rfl, hbc⟩
  have hz2 : Below y12.heap.size y12 z2 := hz1.trans (hbc.mono hz1.size)
  dsimp only
  refine hK.out _ _ (HS.out _ hz2) (fun _ => ?_)
  clear hK K
  refine wpAnyH_take (i := 22) (v := ?_) rfl (by kernel_rfl) (by kernel_rfl) (by kernel_rfl) (fun _ _ _ h => h) (Or.inl ⟨by rfl, ?_⟩) (HS.out _ hz2) ?_
  rotate_left 1
  next => intro w hSw; rw [hSe] at hSw; obtain ⟨s1, s2, s3, s4, s5, s6, s7, s8⟩ := hSw; go_simp; try with_reducible rfl
  refine wpAnyH_take (i := 23) (v := ?_) rfl (by kernel_rfl) (by kernel_rfl) (by kernel_rfl) (fun _ _ _ h => h) (Or.inl ⟨by rfl, ?_⟩) (HS.out _ hz2) ?_
  rotate_left 1
  next => intro w hSw; rw [hSe] at hSw; obtain ⟨s1, s2, s3, s4, s5, s6, s7, s8⟩ := hSw; go_simp; try with_reducible rfl
  refine wpAnyH_done (by kernel_rfl) ?_ _
  go_wp2
  go_ret
  exact ⟨rfl, Hbb.out.trans (hz2.mono Hbb.out.size)⟩
end Go.Proofs.Ytlkoiekdafaapaa
