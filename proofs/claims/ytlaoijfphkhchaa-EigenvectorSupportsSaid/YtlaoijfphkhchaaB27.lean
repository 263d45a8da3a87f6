/- counting.Paths, From: the numbers of paths. -/
import Derived.Test.YtlaoijfphkhchaaB26
namespace Go.Proofs.Ytlaoijfphkhchaa
open Go.RowKit Go.Shelf
def frE (E : Nat → Nat → Int) (i : Nat) : Nat := (E i 0).toNat
def toE (E : Nat → Nat → Int) (i : Nat) : Nat := (E i 2).toNat
def cntChk (L S : Int) (n : Nat) (E : Nat → Nat → Int) (least k : Int) : Int := if gChk L S n E ≠ 0 then 1 else if k < least ∨ 4096 < k then 2 else 0
set_option maxRecDepth 100000 in
set_option maxHeartbeats 4000000 in
theorem cntChk_any (L S : Int) (n : Nat) (E : Nat → Nat → Int) (least k : Int) (p : Option Addr) (c : Nat) (w : World) (hE : EdgAt w p n E) :
    Calls Try.prog 43 #[.agg #[.int .i64 L, .int .i64 S, .slice p n c], .int .i64 least, .int .i64 k] w fun e w' => e = .returned (.int .i64 (cntChk L S n E least k)) ∧ Below w.heap.size w w' := by
  have hE1 : EdgAt (w.alloc (.cells #[.int .i64 L, .int .i64 S, .slice p n c] 24)) p n E := hE.mono (Nat.le_refl _) ((Below.refl _ _).alloc (Nat.le_refl _) _)
  have HD := Lib.hid (gcheck_any L S n E p c _ hE1)
  have HB : Hid (∀ W, Below (w.alloc (.cells #[.int .i64 L, .int .i64 S, .slice p n c] 24)).heap.size (w.alloc (.cells #[.int .i64 L, .int .i64 S, .slice p n c] 24)) W → Below w.heap.size w W) := Lib.hid (fun W hW => ((Below.refl _ _).alloc (Nat.le_refl _) _).trans (hW.mono (by simp)))
  have HR : Hid (cntChk L S n E least k = if gChk L S n E ≠ 0 then 1 else if k < least ∨ 4096 < k then 2 else 0) := Lib.hid rfl
  clear hE hE1
  generalize cntChk L S n E least k = R at *
  generalize gChk L S n E = v at *
  have fin : ∀ (b : Int), R = b → Hid (R = b) := fun _ h => Lib.hid h
  by_cases h0 : v = 0
  · subst h0
    have HR1 : Hid (R = if k < least ∨ 4096 < k then 2 else 0) := Lib.hid (by rw [HR.out, if_neg (by simp)])
    by_cases h1 : k < least
    · have HR2 := fin 2 (by rw [HR1.out, if_pos (.inl h1)])
      clear HR HR1 fin
      go_enter Try.func43, Try.ntmps43
      go_wp2_with fail
      refine HD.out.mono ?_
      rintro e W1 ⟨rfl, hb⟩
      dsimp only
      have Hb := Lib.hid (HB.out _ hb)
      clear hb HD HB
      go_wp2
      go_ret
      exact ⟨by rw [HR2.out]; rfl, Hb.out⟩
    · by_cases h2 : k > 4096
      · have HR2 := fin 2 (by rw [HR1.out, if_pos (.inr h2)])
        clear HR HR1 fin
        go_enter Try.func43, Try.ntmps43
        go_wp2_with fail
        refine HD.out.mono ?_
        rintro e W1 ⟨rfl, hb⟩
        dsimp only
        have Hb := Lib.hid (HB.out _ hb)
        clear hb HD HB
        go_wp2
        go_ret
        exact ⟨by rw [HR2.out]; rfl, Hb.out⟩
      · have HR2 := fin 0 (by rw [HR1.out, if_neg (by omega)])
        clear HR HR1 fin
        go_enter Try.func43, Try.ntmps43
        go_wp2_with fail
        refine HD.out.mono ?_
        rintro e W1 ⟨rfl, hb⟩
        dsimp only
        have Hb := Lib.hid (HB.out _ hb)
        clear hb HD HB
        go_wp2
        go_ret
        exact ⟨by rw [HR2.out]; rfl, Hb.out⟩
  · have HR2 := fin 1 (by rw [HR.out, if_pos h0])
    have b0 : (v != 0) = true := by rw [bne_iff_ne]; exact h0
    clear HR fin h0
    go_enter Try.func43, Try.ntmps43
    go_wp2_with fail
    refine HD.out.mono ?_
    rintro e W1 ⟨rfl, hb⟩
    dsimp only
    have Hb := Lib.hid (HB.out _ hb)
    clear hb HD HB
    go_wp2
    go_ret
    exact ⟨by rw [HR2.out]; rfl, Hb.out⟩
set_option maxRecDepth 100000 in
theorem alongF_any (a b c : Int) (w : World) : Calls Try.prog 112 #[.agg #[.int .i64 a, .int .i64 b, .int .i64 c]] w fun e w' => e = .returned (.tuple #[.int .i64 c, .int .i64 a]) ∧ Below w.heap.size w w' := by
  have hb := ((Below.refl w.heap.size w).alloc (Nat.le_refl _) (.cells #[.int .i64 a, .int .i64 b, .int .i64 c] 97)).drew
  have Hb := Lib.hid hb
  clear hb
  go_enter Try.func112, Try.ntmps112
  go_upto_region 1 with (fail)
  go_region
  all_goals (go_wp2; go_ret2; exact ⟨rfl, Hb.out⟩)
set_option maxRecDepth 100000 in
set_option maxHeartbeats 4000000 in
theorem ones_any (L : Int) (N n : Nat) (p : Option Addr) (c : Nat) (hN : N ≤ 1000000) (w : World) :
    Calls Try.prog 111 #[.agg #[.int .i64 L, .int .i64 (N : Int), .slice p n c]] w (RetRowB w.heap.size N (fun _ => 1) w) := by
  obtain ⟨W1, hW1⟩ : ∃ W, w.alloc (.cells #[.int .i64 L, .int .i64 (N : Int), .slice p n c] 24) = W := ⟨_, rfl⟩
  have hb0 : Below w.heap.size w W1 := by rw [← hW1]; exact (Below.refl _ _).alloc (Nat.le_refl _) _
  have hbx : BoxAt3 W1 w.heap.size (.int .i64 L) (.int .i64 (N : Int)) (.slice p n c) := by rw [← hW1]; exact BoxAt3.new w _ _ _ _
  have hmk := make_zs N hN W1
  have hal := (Below.refl W1.heap.size W1).alloc (Nat.le_refl _) (.cells (madeCells #[.bool false, .string ⟨#[]⟩] (N * 2)) 28)
  have Hrow : Hid (RowT (W1.alloc (.cells (madeCells #[.bool false, .string ⟨#[]⟩] (N * 2)) 28)) W1.heap.size N (fun k => if k < 0 then 1 else 0)) := Lib.hid (RowT.of_made.congr fun k hk => (if_neg (by omega)).symm)
  have Hb : Hid (Below w.heap.size w (W1.alloc (.cells (madeCells #[.bool false, .string ⟨#[]⟩] (N * 2)) 28))) := Lib.hid (hb0.trans (hal.mono hb0.size))
  have z1 := hbx.2.2.1
  have hgl : w.heap.size ≤ W1.heap.size := hb0.size
  clear hal hb0 hbx
  go_enter Try.func111, Try.ntmps111
  go_wp2_with fail
  clear hmk
  obtain ⟨gr, hgr⟩ : ∃ g, W1.heap.size = g := ⟨_, rfl⟩
  rw [hgr] at Hrow hgl ⊢
  generalize W1.alloc (.cells (madeCells #[.bool false, .string ⟨#[]⟩] (N * 2)) 28) = V at *
  clear hgr z1 hW1
  go_loopw [10] (fun tv wr => ∃ t : Nat, t ≤ N ∧ tv = .int .i64 (t : Nat) ∧ Hid (RowT wr gr N (fun k => if k < t then 1 else 0)) ∧ Hid (Below w.heap.size w wr)) (fun tv _ => N - (intOf tv).toNat)
  case atStart => exact ⟨0, by omega, by go_num, Hrow, Hb⟩
  case round =>
    clear Hrow Hb
    obtain ⟨t, ht, rfl, Hrow, Hb⟩ := hrel
    by_cases htl : t < N
    · have i3 : (t : Int) < (N : Int) := by omega
      have i4 : (0 : Int) ≤ (t : Int) := by omega
      have Hst : Hid (∀ k, (if k = t then (1 : Int) else if k < t then 1 else 0) = if k < t + 1 then 1 else 0) := Lib.hid (fun k => by
        by_cases e : k = t
        · rw [if_pos e, if_pos (by omega)]
        · rw [if_neg e]
          by_cases e2 : k < t
          · rw [if_pos e2, if_pos (by omega)]
          · rw [if_neg e2, if_neg (by omega)])
      have HOf := Lib.hid (fun W => of_any 1 (by omega) (by omega) W)
      go_wp2_with fail
      refine (HOf.out _).mono ?_
      rintro e w5 ⟨rfl, hb5⟩
      dsimp only
      have Hrow5 := Lib.hid (Hrow.out.kept (hb5.block _ Hrow.out.z.1))
      have Hb5 := Lib.hid (Hb.out.trans (hb5.mono Hb.out.size))
      clear hb5 HOf Hrow Hb
      obtain ⟨⟨z1, z2⟩, z3, z4⟩ := Hrow5.out.z.2 t htl
      go_wp2_with fail
      go_roundw
      case rel => exact ⟨t + 1, by omega, by go_num, Lib.hid ((Hrow5.out.set t 1).congr fun k _ => Hst.out k), Lib.hid ((Hb5.out.setCell hgl _).setCell hgl _)⟩
      case measure => simp [intOf]; omega
    · have i3 : ¬ (t : Int) < (N : Int) := by omega
      have hte : t = N := by omega
      rw [hte] at Hrow
      have Hrow6 := Lib.hid (Hrow.out.congr (h := fun _ => 1) fun k hk => if_pos hk)
      clear hte Hrow
      go_wp2
      go_ret
      exact ⟨_, _, rfl, Hrow6.out.z.row, Hb.out, fun b hb => by cases hb; exact hgl⟩
theorem edOk_nat {N n : Nat} {E : Nat → Nat → Int} (h : EdOk N n E) (i : Nat) (hi : i < n) : E i 0 = (frE E i : Int) ∧ E i 2 = (toE E i : Int) ∧ frE E i < N ∧ toE E i < N := by
  obtain ⟨s, t, h1, h2, h3, h4⟩ := h i hi
  unfold frE toE
  omega
set_option maxRecDepth 100000 in
set_option maxHeartbeats 4000000 in
theorem from_any (L : Int) (N n K : Nat) (E : Nat → Nat → Int) (p : Option Addr) (c : Nat) (hN : N ≤ 1000000) (hn : n ≤ 1000000) (hK : K ≤ 1000000) (hok : EdOk N n E)
    (hc : CntOk (toE E) (frE E) n N K (fun _ => 1)) (w : World) (hE : EdgAt w p n E) :
    Calls Try.prog 88 #[.agg #[.int .i64 L, .int .i64 (N : Int), .slice p n c], .int .i64 (K : Int)] w (RetRowB w.heap.size N (cntI (toE E) (frE E) n (fun _ => 1) K) w) := by
  obtain ⟨W0, hW0⟩ : ∃ W, w.alloc (.cells #[.int .i64 L, .int .i64 (N : Int), .slice p n c] 24) = W := ⟨_, rfl⟩
  have hb0 : Below w.heap.size w W0 := by rw [← hW0]; exact (Below.refl _ _).alloc (Nat.le_refl _) _
  have hbx : BoxAt3 W0 w.heap.size (.int .i64 L) (.int .i64 (N : Int)) (.slice p n c) := by rw [← hW0]; exact BoxAt3.new w _ _ _ _
  have hE0 : EdgAt W0 p n E := hE.mono (Nat.le_refl _) hb0
  have HO := Lib.hid (fun W => ones_any L N n p c hN W)
  have HC : Hid (∀ (W : World) (q : Option Addr) (cq : Nat), Below W0.heap.size W0 W → RowF W q N (fun _ => 1) → (∀ b, q = some b → w.heap.size ≤ b.block) → Calls Try.prog 110 #[.agg #[.int .i64 L, .int .i64 (N : Int), .slice p n c], .slice q N cq, .int .i64 (K : Int), .func (.func 112) #[] #[]] W (RetRowB w.heap.size N (cntI (toE E) (frE E) n (fun _ => 1) K) W)) := Lib.hid (fun W q cq hW hq hqB =>
    count_any L N N n K E (toE E) (frE E) (fun _ => 1) p q c cq 112 (fun args w => by rfl) hN hn hK (fun i hi W => by
      obtain ⟨h1, h2, _⟩ := edOk_nat hok i hi
      have := alongF_any (E i 0) (E i 1) (E i 2) W
      rw [h1, h2] at this ⊢
      exact this) (fun i hi => ⟨(edOk_nat hok i hi).2.2.2, (edOk_nat hok i hi).2.2.1⟩) hc W (hE0.mono (Nat.le_refl _) hW) hq w.heap.size (Nat.le_trans hb0.size hW.size) hqB)
  obtain ⟨_, c0, c1, c2⟩ := hbx
  have Hb0 := Lib.hid hb0
  clear hE hE0 hok hc hb0
  obtain ⟨g0, hg0⟩ : ∃ g, w.heap.size = g := ⟨_, rfl⟩
  rw [hg0] at c0 c1 c2
  go_enter Try.func88, Try.ntmps88
  go_upto_region 1 with (fail)
  try rw [hg0]
  try rw [hW0]
  have Hg0 := Lib.hid hg0
  clear hg0 hW0
  obtain ⟨SS, hSe⟩ : ∃ SS : World → Prop, SS = fun W => W.cell? ⟨g0, 0, none⟩ = some (.int .i64 L) ∧ W.cell? ⟨g0, 1, none⟩ = some (.int .i64 (N : Int)) ∧ W.cell? ⟨g0, 2, none⟩ = some (.slice p n c) := ⟨_, rfl⟩
  have HS : Hid (∀ W, Below W0.heap.size W0 W → SS W) := Lib.hid (fun W hW => by rw [hSe]; exact ⟨cell_below hW c0, cell_below hW c1, cell_below hW c2⟩)
  clear c0 c1 c2
  have hd : Below W0.heap.size W0 W0.drew := (Below.refl W0.heap.size W0).drew
  refine wp_region_held_drew (S := SS) (by kernel_rfl) (HS.out _ hd) (fun hSS => ?_)
  refine wpAnyH_take (i := 0) (v := ?_) rfl (by kernel_rfl) (by kernel_rfl) (by kernel_rfl) (fun _ _ _ h => h) (Or.inl ⟨by rfl, ?_⟩) hSS ?_
  rotate_left 1
  next => intro w hSw; rw [hSe] at hSw; obtain ⟨s1, s2, s3⟩ := hSw; go_simp; try with_reducible rfl
  refine wpAnyH_take (i := 1) (v := ?_) rfl (by kernel_rfl) (by kernel_rfl) (by kernel_rfl) (fun _ _ _ h => h) (Or.inl ⟨by rfl, ?_⟩) hSS ?_
  rotate_left 1
  next => intro w hSw; rw [hSe] at hSw; obtain ⟨s1, s2, s3⟩ := hSw; go_simp; try with_reducible rfl
  refine wpAnyH_take (i := 3) (v := ?_) rfl (by kernel_rfl) (by kernel_rfl) (by kernel_rfl) (fun _ _ _ h => h) (Or.inl ⟨by rfl, ?_⟩) hSS ?_
  rotate_left 1
  next => intro w hSw; rw [hSe] at hSw; obtain ⟨s1, s2, s3⟩ := hSw; go_simp; try with_reducible rfl
  try simp only [Act.put, List.getElem_toArray, List.getElem_cons_zero, List.getElem_cons_succ, List.setIfInBounds_toArray, List.set_cons_zero, List.set_cons_succ]
  refine wpAnyH_ready (rs := [2]) (by kernel_rfl) (by simp) ?_
  refine AllReadyH.cons rfl (fun K hK => ?_) AllReadyH.nil
  go_simp
  refine (HO.out _).mono ?_
  rintro e V1 ⟨q1, c1, rfl, hq1, hbc, hqB1⟩
  have hqB1 := fun b hb => Nat.le_trans Hb0.out.size (Nat.le_trans hd.size (hqB1 b hb))
  have hV1 : Below W0.heap.size W0 V1 := hd.trans (hbc.mono hd.size)
  dsimp only
  refine hK.out _ _ (HS.out _ hV1) (fun _ => ?_)
  clear hK K hbc
  try simp only [Act.put, List.getElem_toArray, List.getElem_cons_zero, List.getElem_cons_succ, List.setIfInBounds_toArray, List.set_cons_zero, List.set_cons_succ]
  refine wpAnyH_ready (rs := [4]) (by kernel_rfl) (by simp) ?_
  refine AllReadyH.cons rfl (fun K hK => ?_) AllReadyH.nil
  go_simp
  refine (HC.out _ q1 c1 hV1 hq1 hqB1).mono ?_
  rintro e V2 ⟨q2, c2, rfl, hq2, hbc, hqB2⟩
  have hV2 : Below W0.heap.size W0 V2 := hV1.trans (hbc.mono hV1.size)
  dsimp only
  refine hK.out _ _ (HS.out _ hV2) (fun _ => ?_)
  clear hK K hbc
  refine wpAnyH_take (i := 5) (v := ?_) rfl (by kernel_rfl) (by kernel_rfl) (by kernel_rfl) (fun _ _ _ h => h) (Or.inl ⟨by rfl, ?_⟩) (HS.out _ hV2) ?_
  rotate_left 1
  next => intro w hSw; rw [hSe] at hSw; obtain ⟨s1, s2, s3⟩ := hSw; go_simp; try with_reducible rfl
  refine wpAnyH_done (by kernel_rfl) ?_ _
  have HQ2 := Lib.hid hq2
  have HQB := Lib.hid hqB2
  have Hb9 := Lib.hid (Hb0.out.trans (hV2.mono Hb0.out.size))
  clear hq2 hq1 hqB1 hqB2 hV1 hV2 HS hSe hSS hd HC HO
  go_wp2
  go_ret
  exact ⟨_, _, rfl, HQ2.out, (by first | exact Hb9.out | (rw [← Hg0.out]; exact Hb9.out)), HQB.out⟩
/-- .. with no error. -/
def RetRowN (c : Nat) (f : Nat → Int) (w : World) (e : Ending) (w' : World) : Prop := ∃ p cap, e = .returned (.tuple #[.slice p c cap, .int .i64 0]) ∧ RowF w' p c f ∧ Below w.heap.size w w' ∧ ∀ b, p = some b → w.heap.size ≤ b.block
set_option maxRecDepth 100000 in
set_option maxHeartbeats 4000000 in
theorem From_any (L : Int) (N n K : Nat) (E : Nat → Nat → Int) (p : Option Addr) (c : Nat) (hN : N ≤ 1000000) (hn : n ≤ 1000000) (hK : K ≤ 4096) (hg : gChk L N n E = 0)
    (hc : CntOk (toE E) (frE E) n N K (fun _ => 1)) (w : World) (hE : EdgAt w p n E) :
    Calls Try.prog 54 #[.agg #[.int .i64 L, .int .i64 (N : Int), .slice p n c], .int .i64 (K : Int)] w (RetRowN N (cntI (toE E) (frE E) n (fun _ => 1) K) w) := by
  obtain ⟨W0, hW0⟩ : ∃ W, w.alloc (.cells #[.int .i64 L, .int .i64 (N : Int), .slice p n c] 24) = W := ⟨_, rfl⟩
  have hb0 : Below w.heap.size w W0 := by rw [← hW0]; exact (Below.refl _ _).alloc (Nat.le_refl _) _
  have hbx : BoxAt3 W0 w.heap.size (.int .i64 L) (.int .i64 (N : Int)) (.slice p n c) := by rw [← hW0]; exact BoxAt3.new w _ _ _ _
  have hE0 : EdgAt W0 p n E := hE.mono (Nat.le_refl _) hb0
  have hck : cntChk L N n E 0 (K : Int) = 0 := by unfold cntChk; rw [if_neg (by simp [hg]), if_neg (by omega)]
  have h1 := cntChk_any L N n E 0 (K : Int) p c W0 hE0
  rw [hck] at h1
  have HK := Lib.hid h1
  have hok : EdOk N n E := by have := gChk_ok hg; simpa using this
  have HB : Hid (∀ W, Below W0.heap.size W0 W → BoxAt3 W w.heap.size (.int .i64 L) (.int .i64 (N : Int)) (.slice p n c) ∧ Below w.heap.size w W ∧ Calls Try.prog 88 #[.agg #[.int .i64 L, .int .i64 (N : Int), .slice p n c], .int .i64 (K : Int)] W (RetRowB W.heap.size N (cntI (toE E) (frE E) n (fun _ => 1) K) W)) := Lib.hid (fun W hW => ⟨hbx.below hW, hb0.trans (hW.mono hb0.size), from_any L N n K E p c hN hn (by omega) hok hc W (hE0.mono (Nat.le_refl _) hW)⟩)
  obtain ⟨_, c0, c1, c2⟩ := hbx
  clear hE hE0 hok hc hb0 hck h1 hg
  go_enter Try.func54, Try.ntmps54
  go_wp2_with fail
  refine HK.out.mono ?_
  rintro e W1 ⟨rfl, hb⟩
  dsimp only
  obtain ⟨⟨_, z0, z1, z2⟩, hbw, hca⟩ := HB.out _ hb
  have Hb := Lib.hid hbw
  have HCa := Lib.hid hca
  clear hb HK HB hbw hca c0 c1 c2 hW0
  go_wp2_with fail
  refine HCa.out.mono ?_
  rintro e W2 ⟨q, k, rfl, hM, hb2, hqB⟩
  dsimp only
  have HM := Lib.hid hM
  have HQB : Hid (∀ b, q = some b → w.heap.size ≤ b.block) := Lib.hid (fun b h => Nat.le_trans Hb.out.size (hqB b h))
  have Hb2 := Lib.hid (Hb.out.trans (hb2.mono Hb.out.size))
  clear hM hb2 hqB HCa Hb z0 z1 z2
  go_wp2
  go_ret2
  exact ⟨q, k, rfl, HM.out, Hb2.out, HQB.out⟩
def dltF (s j : Nat) : Int := if j = s then 1 else 0
end Go.Proofs.Ytlaoijfphkhchaa
