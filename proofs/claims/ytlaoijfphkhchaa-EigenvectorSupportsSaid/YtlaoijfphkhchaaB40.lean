/- counting.adjacency. -/
import Derived.Test.YtlaoijfphkhchaaB27
import Derived.Test.YtlaoijfphkhchaaB34
namespace Go.Proofs.Ytlaoijfphkhchaa
open Go.RowKit Go.Shelf
/-- A list of rows of zeros, i of them made. -/
structure GridP (w : World) (B g r c i : Nat) (A : Nat → Nat) : Prop where
  low : B ≤ g
  hdr : HAt w g r (fun j => if j < i then .slice (some ⟨A j, 0, none⟩) c c else .slice none 0 0)
  row : ∀ j, j < i → RowT w (A j) c (fun _ => 0) ∧ B ≤ A j ∧ A j ≠ g
  inj : ∀ j k, j < k → k < i → A j ≠ A k
theorem GridP.start (w : World) (B r c : Nat) (t : TypeId) (h : B ≤ w.heap.size) : GridP (w.alloc (.cells (madeCells #[.slice none 0 0] r) t)) B w.heap.size r c 0 (fun _ => 0) :=
  ⟨h, (made_hdr w r t).congr fun k _ => by rw [if_neg (by omega)], fun j hj => by omega, fun j k _ hk => by omega⟩
theorem GridP.enter {w : World} {B g r c i : Nat} {A : Nat → Nat} (h : GridP w B g r c i A) (hi : i < r) :
    GridP ((w.alloc (.cells (madeCells #[.bool false, .string ⟨#[]⟩] (c * 2)) 28)).setCell ⟨g, i, none⟩ (.slice (some ⟨w.heap.size, 0, none⟩) c c)) B g r c (i + 1) (fun j => if j = i then w.heap.size else A j) := by
  have hg := h.hdr.1
  have hal := (Below.refl w.heap.size w).alloc (Nat.le_refl _) (.cells (madeCells #[.bool false, .string ⟨#[]⟩] (c * 2)) 28)
  refine ⟨h.low, ?_, fun j hj => ?_, fun j k hjk hk => ?_⟩
  · refine ((h.hdr.below hal hg).set (k := i) _).congr fun j hj => ?_
    by_cases e : j = i
    · subst e; simp
    · simp only [if_neg e]
      by_cases h1 : j < i
      · rw [if_pos h1, if_pos (by omega)]
      · rw [if_neg h1, if_neg (by omega)]
  · by_cases e : j = i
    · rw [if_pos e]
      refine ⟨(RowT.of_made (w := w) (n := c)).kept (heap_setCell_other _ _ _ _ (by show w.heap.size ≠ g; omega)), Nat.le_trans h.low (by omega), by omega⟩
    · rw [if_neg e]
      obtain ⟨h1, h2, h3⟩ := h.row j (by omega)
      exact ⟨(h1.kept (hal.block _ h1.z.1)).kept (heap_setCell_other _ _ _ _ h3), h2, h3⟩
  · rw [if_neg (show ¬ j = i by omega)]
    have h4 := (h.row j (by omega)).1.z.1
    by_cases e : k = i
    · rw [if_pos e]; omega
    · rw [if_neg e]; exact h.inj j k hjk (by omega)
theorem GridP.grid {w : World} {B g r c : Nat} {A : Nat → Nat} (h : GridP w B g r c r A) : Grid w B g r c A (fun _ _ => 0) :=
  ⟨h.low, h.hdr.1, fun i hi => by have := (h.hdr.2 i hi).1; simpa [hi] using this, fun i hi => ⟨(h.row i hi).1, (h.row i hi).2.1⟩, fun i hi => (h.row i hi).2.2, h.inj⟩
theorem adjE_step {E : Nat → Nat → Int} {k s t : Nat} (h0 : E k 0 = s) (h2 : E k 2 = t) (a b : Nat) : (if a = s ∧ b = t then adjE E k s t + 1 else adjE E k a b) = adjE E (k + 1) a b := by
  unfold adjE
  rw [← cntE_step h0 h2 a b]
  split
  · push_cast; rfl
  · rfl
set_option maxRecDepth 100000 in
set_option maxHeartbeats 4000000 in
theorem cntAdj_any (L : Int) (N n : Nat) (E : Nat → Nat → Int) (p : Option Addr) (c : Nat) (hN : N ≤ 32) (hn : n ≤ 1000000) (hok : EdOk N n E) (w : World) (hE : EdgAt w p n E) :
    Calls Try.prog 82 #[.agg #[.int .i64 L, .int .i64 (N : Int), .slice p n c]] w (RetMat N N (adjE E n) w) := by
  obtain ⟨W1, hW1⟩ : ∃ W, w.alloc (.cells #[.int .i64 L, .int .i64 (N : Int), .slice p n c] 24) = W := ⟨_, rfl⟩
  have hb0 : Below w.heap.size w W1 := by rw [← hW1]; exact (Below.refl _ _).alloc (Nat.le_refl _) _
  have hbx : BoxAt3 W1 w.heap.size (.int .i64 L) (.int .i64 (N : Int)) (.slice p n c) := by rw [← hW1]; exact BoxAt3.new w _ _ _ _
  have HE1 := Lib.hid (show EdgAt W1 p n E from hE.mono (Nat.le_refl _) hb0)
  have hmk := make_rows N (by omega) W1
  have Hgr := Lib.hid (GridP.start W1 W1.heap.size N N 53 (Nat.le_refl _))
  have Hb : Hid (Below W1.heap.size W1 (W1.alloc (.cells (madeCells #[.slice none 0 0] N) 53))) := Lib.hid ((Below.refl _ _).alloc (Nat.le_refl _) _)
  have HB : Hid (∀ W, Below W1.heap.size W1 W → BoxAt3 W w.heap.size (.int .i64 L) (.int .i64 (N : Int)) (.slice p n c) ∧ Below w.heap.size w W ∧ EdgAt W p n E) := Lib.hid (fun W hW => ⟨hbx.below hW, hb0.trans (hW.mono hb0.size), HE1.out.mono (Nat.le_refl _) hW⟩)
  have z1 := hbx.2.2.1
  have HOk := Lib.hid hok
  clear hE hb0 hbx hok HE1
  obtain ⟨g0, hg0⟩ : ∃ g, w.heap.size = g := ⟨_, rfl⟩
  rw [hg0] at z1 HB
  go_enter Try.func82, Try.ntmps82
  go_wp2_with fail
  try rw [hg0]
  clear hmk z1
  have Hg0 := Lib.hid hg0
  obtain ⟨gm, hgm⟩ : ∃ g, W1.heap.size = g := ⟨_, rfl⟩
  have hgl : W1.heap.size ≤ gm := by omega
  rw [hgm] at Hgr
  try rw [hgm]
  generalize W1.alloc (.cells (madeCells #[.slice none 0 0] N) 53) = V at *
  clear hg0 hW1 hgm
  go_loopw [12] (fun iv wr => ∃ (i : Nat) (A : Nat → Nat), i ≤ N ∧ iv = .int .i64 (i : Nat) ∧ Hid (GridP wr gm gm N N i A) ∧ Hid (Below W1.heap.size W1 wr)) (fun iv _ => N - (intOf iv).toNat)
  case atStart => exact ⟨0, _, by omega, by go_num, Hgr, Hb⟩
  case round =>
    clear Hgr Hb
    obtain ⟨i, A, hi, rfl, HG, Hb⟩ := hrel
    by_cases hil : i < N
    · have i1 : (i : Int) < (N : Int) := by omega
      have i0 : (0 : Int) ≤ (i : Int) := by omega
      obtain ⟨⟨_, _, z1, _⟩, _, _⟩ := HB.out _ Hb.out
      have hmk := make_zs N (by omega) wr
      have HG2 := Lib.hid (HG.out.enter hil)
      have hgw : gm < wr.heap.size := HG.out.hdr.1
      have Hb2 : Hid (Below W1.heap.size W1 ((wr.alloc (.cells (madeCells #[.bool false, .string ⟨#[]⟩] (N * 2)) 28)).setCell ⟨gm, i, none⟩ (.slice (some ⟨wr.heap.size, 0, none⟩) N N))) := Lib.hid ((Hb.out.alloc Hb.out.size _).setCell hgl _)
      have y0 := (HG.out.hdr.below ((Below.refl wr.heap.size wr).alloc (Nat.le_refl _) (.cells (madeCells #[.bool false, .string ⟨#[]⟩] (N * 2)) 28)) hgw).2 i hil
      obtain ⟨y1, y2⟩ := y0
      dsimp only at y1
      rw [if_neg (Nat.lt_irrefl i)] at y1
      have hz1 := cell_below ((Below.refl wr.heap.size wr).alloc (Nat.le_refl _) (.cells (madeCells #[.bool false, .string ⟨#[]⟩] (N * 2)) 28)) z1
      generalize wr.alloc (.cells (madeCells #[.bool false, .string ⟨#[]⟩] (N * 2)) 28) = w2 at *
      obtain ⟨gi, hgi⟩ : ∃ gi, wr.heap.size = gi := ⟨_, rfl⟩
      rw [hgi] at hmk HG2 Hb2
      clear HG Hb hgi hgw
      go_wp2_with fail
      go_roundw
      case rel => exact ⟨i + 1, _, by omega, by go_num, HG2, Hb2⟩
      case measure => simp [intOf]; omega
    · have i1 : ¬ (i : Int) < (N : Int) := by omega
      have hie : i = N := by omega
      rw [hie] at HG
      obtain ⟨⟨_, _, z1, z2⟩, _, _⟩ := HB.out _ Hb.out
      have HG0 : Hid (Grid wr gm gm N N A (fun s t => adjE E 0 s t)) := Lib.hid HG.out.grid
      clear hie HG
      go_wp2_with fail
      clear z1 z2
      obtain ⟨V2, hV2⟩ : ∃ V, wr = V := ⟨_, rfl⟩
      rw [hV2] at HG0 Hb ⊢
      clear hV2
      go_loopw [25] (fun iv wr => ∃ k : Nat, k ≤ n ∧ iv = .int .i64 (k : Nat) ∧ Hid (Grid wr gm gm N N A (adjE E k)) ∧ Hid (Below W1.heap.size W1 wr)) (fun iv _ => n - (intOf iv).toNat)
      case atStart => exact ⟨0, by omega, by go_num, HG0, Hb⟩
      case round =>
        clear HG0 Hb
        obtain ⟨k, hk, rfl, HG, Hb⟩ := hrel
        by_cases hlt : k < n
        · have k1 : (k : Int) < (n : Int) := by omega
          have k0 : (0 : Int) ≤ (k : Int) := by omega
          obtain ⟨b, off, rfl, hbl, hcE⟩ : ∃ b off, p = some ⟨b, off, none⟩ ∧ b < wr.heap.size ∧ ∀ i, i < n → ∀ j, j < 3 → wr.cell? ⟨b, off + i * 3 + j, none⟩ = some (edC E i j) := by
            rcases (HB.out _ Hb.out).2.2 with h | h
            · omega
            · exact h
          have x0 := hcE k hlt 0 (by omega)
          have x1 := hcE k hlt 1 (by omega)
          have x2 := hcE k hlt 2 (by omega)
          simp only [edC, Nat.add_zero] at x0 x1 x2
          obtain ⟨s, t, hs, ht, hsN, htN⟩ := HOk.out k hlt
          have Hst : Hid (∀ a b, (if a = s ∧ b = t then adjE E k s t + 1 else adjE E k a b) = adjE E (k + 1) a b) := Lib.hid (adjE_step hs ht)
          rw [hs] at x0
          rw [ht] at x2
          obtain ⟨e1, he1⟩ : ∃ e, E k 1 = e := ⟨_, rfl⟩
          rw [he1] at x1
          clear hs ht he1 hcE
          have hsz : (canon (adjE E k s t)).mag.size ≤ 1000 := (show Bn (adjE E k s t) 20 from by
            unfold Bn adjE
            have := cntE_le E k s t
            omega).size 1000 (by decide)
          have s0 : (0 : Int) ≤ (s : Int) := by omega
          have s1 : (s : Int) < (N : Int) := by omega
          have t0 : (0 : Int) ≤ (t : Int) := by omega
          have t1 : (t : Int) < (N : Int) := by omega
          go_upto_region 10 with (fail)
          obtain ⟨W0, hW0⟩ : ∃ W, wr.alloc (.cells #[.int .i64 (s : Int), .int .i64 e1, .int .i64 (t : Int)] 97) = W := ⟨_, rfl⟩
          have hbv : Below wr.heap.size wr W0 := by rw [← hW0]; exact (Below.refl _ _).alloc (Nat.le_refl _) _
          have hxx := BoxAt3.new wr (.int .i64 (s : Int)) (.int .i64 e1) (.int .i64 (t : Int)) 97
          obtain ⟨hx, hhx⟩ : ∃ h, wr.heap.size = h := ⟨_, rfl⟩
          rw [hW0, hhx] at hxx
          try rw [hW0]
          try rw [hhx]
          have hg1 := HG.out.call hbv
          have hb1 := Hb.out.trans (hbv.mono Hb.out.size)
          have hxr : ∀ i, i < N → A i < hx ∧ gm < hx := fun i hi => by rw [← hhx]; exact ⟨(HG.out.row i hi).1.z.1, HG.out.lt⟩
          clear hW0 hhx hbv x0 x1 x2 HG Hb hbl
          obtain ⟨_, d0, _, d2⟩ := hxx
          have c0 := hg1.hdr s hsN
          have hAs := hxr s hsN
          have hAg := hg1.ne s hsN
          obtain ⟨SS, hSe⟩ : ∃ SS : World → Prop, SS = fun W => W.cell? ⟨gm, s, none⟩ = some (.slice (some ⟨A s, 0, none⟩) N N) ∧ W.cell? ⟨hx, 0, none⟩ = some (.int .i64 (s : Int)) ∧ W.cell? ⟨hx, 2, none⟩ = some (.int .i64 (t : Int)) := ⟨_, rfl⟩
          have HS : Hid (∀ W, Below W0.heap.size W0 W → SS W) := Lib.hid (fun W hW => by rw [hSe]; exact ⟨cell_below hW c0, cell_below hW d0, cell_below hW d2⟩)
          clear c0 d0 d2 hxr
          have HG := Lib.hid hg1
          have Hb := Lib.hid hb1
          clear hg1 hb1
          have HX : Hid (∀ W, Below W0.heap.size W0 W → (W.cell? ⟨A s, t * 2, none⟩ = some (.bool (canon (adjE E k s t)).neg) ∧ W.cell? ⟨A s, t * 2 + 1, none⟩ = some (.string (canon (adjE E k s t)).mag)) ∧ W.frozen? ⟨A s, t * 2, none⟩ = false ∧ W.frozen? ⟨A s, t * 2 + 1, none⟩ = false) := Lib.hid (fun W hW => ((HG.out.call hW).row s hsN).1.z.2 t htN)
          have HOf := Lib.hid (fun W => of_any 1 (by omega) (by omega) W)
          have HA := Lib.hid (fun W => addc_any (adjE E k s t) 1 (by omega) (by decide) W)
          obtain ⟨x, hxe⟩ : ∃ x, adjE E k s t = x := ⟨_, rfl⟩
          rw [hxe] at HX HA Hst hsz
          obtain ⟨u, hue⟩ : ∃ u, x + 1 = u := ⟨_, rfl⟩
          rw [hue] at HA Hst
          have Hst2 : Hid (∀ a b, (if a = s ∧ b = t then u else adjE E k a b) = adjE E (k + 1) a b) := Lib.hid Hst.out
          clear hxe hue Hst hsz
          have hd : Below W0.heap.size W0 W0.drew := (Below.refl W0.heap.size W0).drew
          refine wp_region_held_drew (S := SS) (by kernel_rfl) (HS.out _ hd) (fun hSS => ?_)
          refine wpAnyH_take (i := 0) (v := ?_) rfl (by kernel_rfl) (by kernel_rfl) (by kernel_rfl) (fun _ _ _ h => h) (Or.inl ⟨by rfl, ?_⟩) hSS ?_
          rotate_left 1
          next => intro w hSw; rw [hSe] at hSw; obtain ⟨s1, s2, s3⟩ := hSw; go_simp; try with_reducible rfl
          refine wpAnyH_take (i := 1) (v := ?_) rfl (by kernel_rfl) (by kernel_rfl) (by kernel_rfl) (fun _ _ _ h => h) (Or.inl ⟨by rfl, ?_⟩) hSS ?_
          rotate_left 1
          next => intro w hSw; rw [hSe] at hSw; obtain ⟨s1, s2, s3⟩ := hSw; go_simp; try with_reducible rfl
          refine wpAnyH_take (i := 2) (v := ?_) rfl (by kernel_rfl) (by kernel_rfl) (by kernel_rfl) (fun _ _ _ h => h) (Or.inl ⟨by rfl, ?_⟩) hSS ?_
          rotate_left 1
          next => intro w hSw; rw [hSe] at hSw; obtain ⟨s1, s2, s3⟩ := hSw; go_simp; try with_reducible rfl
          refine wpAnyH_take (i := 3) (v := ?_) rfl (by kernel_rfl) (by kernel_rfl) (by kernel_rfl) (fun _ _ _ h => h) (Or.inl ⟨by rfl, ?_⟩) hSS ?_
          rotate_left 1
          next => intro w hSw; rw [hSe] at hSw; obtain ⟨s1, s2, s3⟩ := hSw; go_simp; try with_reducible rfl
          refine wpAnyH_take (i := 4) (v := ?_) rfl (by kernel_rfl) (by kernel_rfl) (by kernel_rfl) (fun _ _ _ h => h) (Or.inl ⟨by rfl, ?_⟩) hSS ?_
          rotate_left 1
          next => intro w hSw; rw [hSe] at hSw; obtain ⟨s1, s2, s3⟩ := hSw; go_simp; try with_reducible rfl
          refine wpAnyH_take (i := 5) (v := ?_) rfl (by kernel_rfl) (by kernel_rfl) (by kernel_rfl) (fun _ _ _ h => h) (Or.inl ⟨by rfl, ?_⟩) hSS ?_
          rotate_left 1
          next => intro w hSw; rw [hSe] at hSw; obtain ⟨s1, s2, s3⟩ := hSw; go_simp; try with_reducible rfl
          refine wpAnyH_take (i := 6) (v := ?_) rfl (by kernel_rfl) (by kernel_rfl) (by kernel_rfl) (fun _ _ _ h => h) (Or.inl ⟨by rfl, ?_⟩) hSS ?_
          rotate_left 1
          next => intro w hSw; rw [hSe] at hSw; obtain ⟨s1, s2, s3⟩ := hSw; go_simp; try with_reducible rfl
          refine wpAnyH_take (i := 7) (v := ?_) rfl (by kernel_rfl) (by kernel_rfl) (by kernel_rfl) (fun _ _ _ h => h) (Or.inl ⟨by rfl, ?_⟩) hSS ?_
          rotate_left 1
          next => intro w hSw; rw [hSe] at hSw; obtain ⟨s1, s2, s3⟩ := hSw; go_simp; try with_reducible rfl
          refine wpAnyH_take (i := 8) (v := ?_) rfl (by kernel_rfl) (by kernel_rfl) (by kernel_rfl) (fun _ _ _ h => h) (Or.inl ⟨by rfl, ?_⟩) hSS ?_
          rotate_left 1
          next => intro w hSw; rw [hSe] at hSw; obtain ⟨s1, s2, s3⟩ := hSw; go_simp; try with_reducible rfl
          refine wpAnyH_take (i := 9) (v := ?_) rfl (by kernel_rfl) (by kernel_rfl) (by kernel_rfl) (fun _ _ _ h => h) (Or.inl ⟨by rfl, ?_⟩) hSS ?_
          rotate_left 1
          next => intro w hSw; rw [hSe] at hSw; obtain ⟨s1, s2, s3⟩ := hSw; go_simp; try with_reducible rfl
          refine wpAnyH_take (i := 10) (v := ?_) rfl (by kernel_rfl) (by kernel_rfl) (by kernel_rfl) (fun _ _ _ h => h) (Or.inl ⟨by rfl, ?_⟩) hSS ?_
          rotate_left 1
          next => intro w hSw; rw [hSe] at hSw; obtain ⟨s1, s2, s3⟩ := hSw; go_simp; try with_reducible rfl
          refine wpAnyH_take (i := 11) (v := ?_) rfl (by kernel_rfl) (by kernel_rfl) (by kernel_rfl) (fun _ _ _ h => h) (Or.inl ⟨by rfl, ?_⟩) hSS ?_
          rotate_left 1
          next => intro w hSw; rw [hSe] at hSw; obtain ⟨s1, s2, s3⟩ := hSw; go_simp; try with_reducible rfl
          refine wpAnyH_take (i := 12) (v := ?_) rfl (by kernel_rfl) (by kernel_rfl) (by kernel_rfl) (fun _ _ _ h => h) (Or.inl ⟨by rfl, ?_⟩) hSS ?_
          rotate_left 1
          next => intro w hSw; rw [hSe] at hSw; obtain ⟨s1, s2, s3⟩ := hSw; go_simp; try with_reducible rfl
          refine wpAnyH_take (i := 13) (v := ?_) rfl (by kernel_rfl) (by kernel_rfl) (by kernel_rfl) (fun _ _ _ h => h) (Or.inl ⟨by rfl, ?_⟩) hSS ?_
          rotate_left 1
          next => intro w hSw; rw [hSe] at hSw; obtain ⟨s1, s2, s3⟩ := hSw; go_simp; try with_reducible rfl
          refine wpAnyH_take (i := 14) (v := ?_) rfl (by kernel_rfl) (by kernel_rfl) (by kernel_rfl) (fun _ _ _ h => h) (Or.inl ⟨by rfl, ?_⟩) hSS ?_
          rotate_left 1
          next => intro w hSw; rw [hSe] at hSw; obtain ⟨s1, s2, s3⟩ := hSw; go_simp; try with_reducible rfl
          try simp only [Act.put, List.getElem_toArray, List.getElem_cons_zero, List.getElem_cons_succ, List.setIfInBounds_toArray, List.set_cons_zero, List.set_cons_succ]
          refine wpAnyH_ready (rs := [15, 16]) (by kernel_rfl) (by simp) ?_
          refine AllReadyH.cons rfl (fun K hK => ?_) (AllReadyH.cons rfl (fun K hK => ?_) AllReadyH.nil)
          · obtain ⟨⟨z1, z2⟩, z3, z4⟩ := HX.out _ hd
            go_simp
            refine hK.out _ _ (HS.out _ hd) (fun _ => ?_)
            clear hK K z1 z2 z3 z4
            try simp only [Act.put, List.getElem_toArray, List.getElem_cons_zero, List.getElem_cons_succ, List.setIfInBounds_toArray, List.set_cons_zero, List.set_cons_succ]
            refine wpAnyH_ready (rs := [16]) (by kernel_rfl) (by simp) ?_
            refine AllReadyH.cons rfl (fun K hK => ?_) AllReadyH.nil
            go_simp
            refine (HOf.out _).mono ?_
            rintro e V1 ⟨rfl, hbc⟩
            have hV1 : Below W0.heap.size W0 V1 := hd.trans (hbc.mono hd.size)
            dsimp only
            refine hK.out _ _ (HS.out _ hV1) (fun _ => ?_)
            clear hK K hbc
            try simp only [Act.put, List.getElem_toArray, List.getElem_cons_zero, List.getElem_cons_succ, List.setIfInBounds_toArray, List.set_cons_zero, List.set_cons_succ]
            refine wpAnyH_ready (rs := [17]) (by kernel_rfl) (by simp) ?_
            refine AllReadyH.cons rfl (fun K hK => ?_) AllReadyH.nil
            go_simp
            refine (HA.out _).mono ?_
            rintro e V3 ⟨rfl, hbc⟩
            have hV3 : Below W0.heap.size W0 V3 := hV1.trans (hbc.mono hV1.size)
            dsimp only
            refine hK.out _ _ (HS.out _ hV3) (fun _ => ?_)
            clear hK K hbc
            refine wpAnyH_take (i := 18) (v := ?_) rfl (by kernel_rfl) (by kernel_rfl) (by kernel_rfl) (fun _ _ _ h => h) (Or.inl ⟨by rfl, ?_⟩) (HS.out _ hV3) ?_
            rotate_left 1
            next => intro w hSw; rw [hSe] at hSw; obtain ⟨s1, s2, s3⟩ := hSw; go_simp; try with_reducible rfl
            have hg3 := HG.out.call hV3
            obtain ⟨⟨z1, z2⟩, z3, z4⟩ := HX.out _ hV3
            have hb3 := Hb.out.trans (hV3.mono Hb.out.size)
            have hg4 := (hg3.set hsN t u).congr fun a b _ _ => Hst2.out a b
            have hlow : W1.heap.size ≤ A s := Nat.le_trans hgl (hg3.row s hsN).2
            have hb4 : Below W1.heap.size W1 ((V3.setCell ⟨A s, t * 2, none⟩ (.bool (canon u).neg)).setCell ⟨A s, t * 2 + 1, none⟩ (.string (canon u).mag)) := (hb3.setCell hlow _).setCell hlow _
            have hSS3 := HS.out _ hV3
            have HS4 : SS ((V3.setCell ⟨A s, t * 2, none⟩ (.bool (canon u).neg)).setCell ⟨A s, t * 2 + 1, none⟩ (.string (canon u).mag)) := by
              rw [hSe] at hSS3 ⊢
              obtain ⟨s1, s2, s3⟩ := hSS3
              refine ⟨?_, ?_, ?_⟩ <;> rw [World.cell?_setCell_other _ _ _ _ (by intro hh; simp only [Addr.mk.injEq] at hh; omega), World.cell?_setCell_other _ _ _ _ (by intro hh; simp only [Addr.mk.injEq] at hh; omega)]
              · exact s1
              · exact s2
              · exact s3
            try simp only [Act.put, List.getElem_toArray, List.getElem_cons_zero, List.getElem_cons_succ, List.setIfInBounds_toArray, List.set_cons_zero, List.set_cons_succ]
            refine wpAnyH_ready (rs := [19]) (by kernel_rfl) (by simp) ?_
            refine AllReadyH.cons rfl (fun K hK => ?_) AllReadyH.nil
            go_simp
            refine hK.out _ _ (HS4) (fun _ => ?_)
            clear hK K
            refine wpAnyH_done (by kernel_rfl) ?_ _
            have HG4 := Lib.hid hg4
            have HB4 := Lib.hid hb4
            clear hg4 hb4 hg3 hb3 z1 z2 z3 z4 HS4 hSS3 HS hSe hSS hd hV3 hV1 HX HA HOf
            go_wp2
            go_roundw
            case rel => exact ⟨k + 1, by omega, by go_num, HG4, HB4⟩
            case measure => simp [intOf]; omega
          · go_simp
            refine (HOf.out _).mono ?_
            rintro e V1 ⟨rfl, hbc⟩
            have hV1 : Below W0.heap.size W0 V1 := hd.trans (hbc.mono hd.size)
            dsimp only
            refine hK.out _ _ (HS.out _ hV1) (fun _ => ?_)
            clear hK K hbc
            try simp only [Act.put, List.getElem_toArray, List.getElem_cons_zero, List.getElem_cons_succ, List.setIfInBounds_toArray, List.set_cons_zero, List.set_cons_succ]
            refine wpAnyH_ready (rs := [15]) (by kernel_rfl) (by simp) ?_
            refine AllReadyH.cons rfl (fun K hK => ?_) AllReadyH.nil
            obtain ⟨⟨z1, z2⟩, z3, z4⟩ := HX.out _ hV1
            go_simp
            refine hK.out _ _ (HS.out _ hV1) (fun _ => ?_)
            clear hK K z1 z2 z3 z4
            try simp only [Act.put, List.getElem_toArray, List.getElem_cons_zero, List.getElem_cons_succ, List.setIfInBounds_toArray, List.set_cons_zero, List.set_cons_succ]
            refine wpAnyH_ready (rs := [17]) (by kernel_rfl) (by simp) ?_
            refine AllReadyH.cons rfl (fun K hK => ?_) AllReadyH.nil
            go_simp
            refine (HA.out _).mono ?_
            rintro e V3 ⟨rfl, hbc⟩
            have hV3 : Below W0.heap.size W0 V3 := hV1.trans (hbc.mono hV1.size)
            dsimp only
            refine hK.out _ _ (HS.out _ hV3) (fun _ => ?_)
            clear hK K hbc
            refine wpAnyH_take (i := 18) (v := ?_) rfl (by kernel_rfl) (by kernel_rfl) (by kernel_rfl) (fun _ _ _ h => h) (Or.inl ⟨by rfl, ?_⟩) (HS.out _ hV3) ?_
            rotate_left 1
            next => intro w hSw; rw [hSe] at hSw; obtain ⟨s1, s2, s3⟩ := hSw; go_simp; try with_reducible rfl
            have hg3 := HG.out.call hV3
            obtain ⟨⟨z1, z2⟩, z3, z4⟩ := HX.out _ hV3
            have hb3 := Hb.out.trans (hV3.mono Hb.out.size)
            have hg4 := (hg3.set hsN t u).congr fun a b _ _ => Hst2.out a b
            have hlow : W1.heap.size ≤ A s := Nat.le_trans hgl (hg3.row s hsN).2
            have hb4 : Below W1.heap.size W1 ((V3.setCell ⟨A s, t * 2, none⟩ (.bool (canon u).neg)).setCell ⟨A s, t * 2 + 1, none⟩ (.string (canon u).mag)) := (hb3.setCell hlow _).setCell hlow _
            have hSS3 := HS.out _ hV3
            have HS4 : SS ((V3.setCell ⟨A s, t * 2, none⟩ (.bool (canon u).neg)).setCell ⟨A s, t * 2 + 1, none⟩ (.string (canon u).mag)) := by
              rw [hSe] at hSS3 ⊢
              obtain ⟨s1, s2, s3⟩ := hSS3
              refine ⟨?_, ?_, ?_⟩ <;> rw [World.cell?_setCell_other _ _ _ _ (by intro hh; simp only [Addr.mk.injEq] at hh; omega), World.cell?_setCell_other _ _ _ _ (by intro hh; simp only [Addr.mk.injEq] at hh; omega)]
              · exact s1
              · exact s2
              · exact s3
            try simp only [Act.put, List.getElem_toArray, List.getElem_cons_zero, List.getElem_cons_succ, List.setIfInBounds_toArray, List.set_cons_zero, List.set_cons_succ]
            refine wpAnyH_ready (rs := [19]) (by kernel_rfl) (by simp) ?_
            refine AllReadyH.cons rfl (fun K hK => ?_) AllReadyH.nil
            go_simp
            refine hK.out _ _ (HS4) (fun _ => ?_)
            clear hK K
            refine wpAnyH_done (by kernel_rfl) ?_ _
            have HG4 := Lib.hid hg4
            have HB4 := Lib.hid hb4
            clear hg4 hb4 hg3 hb3 z1 z2 z3 z4 HS4 hSS3 HS hSe hSS hd hV3 hV1 HX HA HOf
            go_wp2
            go_roundw
            case rel => exact ⟨k + 1, by omega, by go_num, HG4, HB4⟩
            case measure => simp [intOf]; omega
        · have k1 : ¬ (k : Int) < (n : Int) := by omega
          have hke : k = n := by omega
          rw [hke] at HG
          have HM := Lib.hid HG.out.mat
          have Hb9 := Lib.hid (HB.out _ Hb.out).2.1
          clear hke HG Hb
          go_wp2
          go_ret
          exact ⟨_, _, rfl, HM.out, by first | exact Hb9.out | (rw [← Hg0.out]; exact Hb9.out) | (rw [Hg0.out]; exact Hb9.out)⟩
end Go.Proofs.Ytlaoijfphkhchaa
