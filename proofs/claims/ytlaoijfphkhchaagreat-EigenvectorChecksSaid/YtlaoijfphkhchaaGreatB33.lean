/- grooveref09.Compare. -/
import Derived.Test.YtlaoijfphkhchaaGreatB16
import Derived.Test.YtlaoijfphkhchaaGreatB15
import Derived.Test.YtlaoijfphkhchaaGreatB7
import Derived.Test.YtlaoijfphkhchaaGreatB18
namespace Go.Proofs.YtlaoijfphkhchaaGreat
open Go.RowKit Go.Shelf
def row3 (a b c : Int) (s : Nat) : Int := if s = 0 then a else if s = 1 then b else c
theorem three_ints (V : World) (a b c : Int) : VAt (V.alloc (.cells #[.int .i64 a, .int .i64 b, .int .i64 c] 3)) V.heap.size 3 (row3 a b c) := by
  have hblk : (V.alloc (.cells #[.int .i64 a, .int .i64 b, .int .i64 c] 3)).heap[V.heap.size]? = some (.cells #[.int .i64 a, .int .i64 b, .int .i64 c] 3 (0, 0)) := heap_alloc_new V _
  refine ⟨by simp, fun k hk => ⟨?_, ?_⟩⟩
  · rw [World.cell?_alloc_new]
    match k, hk with
    | 0, _ => rfl
    | 1, _ => rfl
    | 2, _ => rfl
  · unfold World.frozen?; simp only [hblk]; simp
/-- What a place of two edges tells. -/
def cpF (a b : Nat → Int) (k : Nat) : Option Int := if a k < b k then some (-1) else if b k < a k then some 1 else none
def cmpF (a b : Nat → Int) : Int := firstFrom (cpF a b) 0 3 0
theorem cmpF_eq (a0 a1 a2 b0 b1 b2 : Int) : cmpF (row3 a0 a1 a2) (row3 b0 b1 b2) = cpL (edL a0 a1 a2) (edL b0 b1 b2) := by
  unfold cmpF cpL
  rfl
set_option maxRecDepth 100000 in
set_option maxHeartbeats 4000000 in
theorem rcmp_any (a0 a1 a2 b0 b1 b2 : Int) (w : World) :
    Calls Tryz.prog 58 #[.agg #[.int .i64 a0, .int .i64 a1, .int .i64 a2], .agg #[.int .i64 b0, .int .i64 b1, .int .i64 b2]] w (RetInt (cpL (edL a0 a1 a2) (edL b0 b1 b2)) w) := by
  rw [← cmpF_eq]
  obtain ⟨fa, hfa⟩ : ∃ f, row3 a0 a1 a2 = f := ⟨_, rfl⟩
  obtain ⟨fb, hfb⟩ : ∃ f, row3 b0 b1 b2 = f := ⟨_, rfl⟩
  rw [hfa, hfb]
  have Hfa := Lib.hid hfa
  have Hfb := Lib.hid hfb
  obtain ⟨B0, hB0⟩ : ∃ B0, w.heap.size = B0 := ⟨_, rfl⟩
  have HB0 := Lib.hid hB0
  obtain ⟨W0, hW0⟩ : ∃ W, (w.alloc (.cells #[.int .i64 a0, .int .i64 a1, .int .i64 a2] 60)).alloc (.cells #[.int .i64 b0, .int .i64 b1, .int .i64 b2] 60) = W := ⟨_, rfl⟩
  have h1 : Below w.heap.size w W0 := by rw [← hW0]; exact ((Below.refl _ _).alloc (Nat.le_refl _) _).alloc (by simp) _
  have c1 := (box3 (w := w) (wr := W0) (v0 := .int .i64 a0) (v1 := .int .i64 a1) (v2 := .int .i64 a2) (t := 60) (by rw [← hW0]; exact (Below.refl _ _).alloc (by simp) _)).1
  have c2 : W0.cell? ⟨w.heap.size + 1, 0, none⟩ = some (.int .i64 b0) ∧ W0.cell? ⟨w.heap.size + 1, 1, none⟩ = some (.int .i64 b1) ∧ W0.cell? ⟨w.heap.size + 1, 2, none⟩ = some (.int .i64 b2) := by
    rw [← hW0]
    rw [show w.heap.size + 1 = (w.alloc (.cells #[.int .i64 a0, .int .i64 a1, .int .i64 a2] 60)).heap.size from by simp]
    refine ⟨?_, ?_, ?_⟩ <;> rw [World.cell?_alloc_new] <;> simp
  obtain ⟨c10, c11, c12⟩ := c1
  obtain ⟨c20, c21, c22⟩ := c2
  have Hb := Lib.hid h1
  clear hfa hfb hB0
  go_enter Tryz.func58, Tryz.ntmps58
  go_upto_region 1 with (fail)
  try rw [hW0]
  clear hW0
  obtain ⟨SS, hSe⟩ : ∃ SS : World → Prop, SS = fun W => W.cell? ⟨w.heap.size, 0, none⟩ = some (.int .i64 a0) ∧ W.cell? ⟨w.heap.size, 1, none⟩ = some (.int .i64 a1) ∧ W.cell? ⟨w.heap.size, 2, none⟩ = some (.int .i64 a2) ∧ W.cell? ⟨w.heap.size + 1, 0, none⟩ = some (.int .i64 b0) ∧ W.cell? ⟨w.heap.size + 1, 1, none⟩ = some (.int .i64 b1) ∧ W.cell? ⟨w.heap.size + 1, 2, none⟩ = some (.int .i64 b2) := ⟨_, rfl⟩
  have HS : Hid (∀ W, Below W0.heap.size W0 W → SS W) := Lib.hid (fun W hW => by rw [hSe]; exact ⟨cell_below hW c10, cell_below hW c11, cell_below hW c12, cell_below hW c20, cell_below hW c21, cell_below hW c22⟩)
  clear c10 c11 c12 c20 c21 c22 h1
  have hd : Below W0.heap.size W0 W0.drew := (Below.refl W0.heap.size W0).drew
  refine wp_region_held_drew (S := SS) (by kernel_rfl) (HS.out _ hd) (fun hSS => ?_)
  generalize W0.drew = V0 at *
  refine wpAnyH_take (i := 0) (v := ?_) rfl (by kernel_rfl) (by kernel_rfl) (by kernel_rfl) (fun _ _ _ h => h) (Or.inl ⟨by rfl, ?_⟩) (HS.out _ hd) ?_
  rotate_left 1
  next => intro w hSw; rw [hSe] at hSw; obtain ⟨s1, s2, s3, s4, s5, s6⟩ := hSw; go_simp; try with_reducible rfl
  try simp only [Act.put, List.getElem_toArray, List.getElem_cons_zero, List.getElem_cons_succ, List.setIfInBounds_toArray, List.set_cons_zero, List.set_cons_succ]
  refine wpAnyH_take (i := 1) (v := ?_) rfl (by kernel_rfl) (by kernel_rfl) (by kernel_rfl) (fun _ _ _ h => h) (Or.inl ⟨by rfl, ?_⟩) (HS.out _ hd) ?_
  rotate_left 1
  next => intro w hSw; rw [hSe] at hSw; obtain ⟨s1, s2, s3, s4, s5, s6⟩ := hSw; go_simp; try with_reducible rfl
  try simp only [Act.put, List.getElem_toArray, List.getElem_cons_zero, List.getElem_cons_succ, List.setIfInBounds_toArray, List.set_cons_zero, List.set_cons_succ]
  refine wpAnyH_take (i := 2) (v := ?_) rfl (by kernel_rfl) (by kernel_rfl) (by kernel_rfl) (fun _ _ _ h => h) (Or.inl ⟨by rfl, ?_⟩) (HS.out _ hd) ?_
  rotate_left 1
  next => intro w hSw; rw [hSe] at hSw; obtain ⟨s1, s2, s3, s4, s5, s6⟩ := hSw; go_simp; try with_reducible rfl
  try simp only [Act.put, List.getElem_toArray, List.getElem_cons_zero, List.getElem_cons_succ, List.setIfInBounds_toArray, List.set_cons_zero, List.set_cons_succ]
  refine wpAnyH_take (i := 3) (v := ?_) rfl (by kernel_rfl) (by kernel_rfl) (by kernel_rfl) (fun _ _ _ h => h) (Or.inl ⟨by rfl, ?_⟩) (HS.out _ hd) ?_
  rotate_left 1
  next => intro w hSw; rw [hSe] at hSw; obtain ⟨s1, s2, s3, s4, s5, s6⟩ := hSw; go_simp; try with_reducible rfl
  try simp only [Act.put, List.getElem_toArray, List.getElem_cons_zero, List.getElem_cons_succ, List.setIfInBounds_toArray, List.set_cons_zero, List.set_cons_succ]
  refine wpAnyH_take (i := 4) (v := ?_) rfl (by kernel_rfl) (by kernel_rfl) (by kernel_rfl) (fun _ _ _ h => h) (Or.inl ⟨by rfl, ?_⟩) (HS.out _ hd) ?_
  rotate_left 1
  next => intro w hSw; rw [hSe] at hSw; obtain ⟨s1, s2, s3, s4, s5, s6⟩ := hSw; go_simp; try with_reducible rfl
  try simp only [Act.put, List.getElem_toArray, List.getElem_cons_zero, List.getElem_cons_succ, List.setIfInBounds_toArray, List.set_cons_zero, List.set_cons_succ]
  refine wpAnyH_take (i := 5) (v := ?_) rfl (by kernel_rfl) (by kernel_rfl) (by kernel_rfl) (fun _ _ _ h => h) (Or.inl ⟨by rfl, ?_⟩) (HS.out _ hd) ?_
  rotate_left 1
  next => intro w hSw; rw [hSe] at hSw; obtain ⟨s1, s2, s3, s4, s5, s6⟩ := hSw; go_simp; try with_reducible rfl
  try simp only [Act.put, List.getElem_toArray, List.getElem_cons_zero, List.getElem_cons_succ, List.setIfInBounds_toArray, List.set_cons_zero, List.set_cons_succ]
  refine wpAnyH_take (i := 7) (v := ?_) rfl (by kernel_rfl) (by kernel_rfl) (by kernel_rfl) (fun _ _ _ h => h) (Or.inl ⟨by rfl, ?_⟩) (HS.out _ hd) ?_
  rotate_left 1
  next => intro w hSw; rw [hSe] at hSw; obtain ⟨s1, s2, s3, s4, s5, s6⟩ := hSw; go_simp; try with_reducible rfl
  try simp only [Act.put, List.getElem_toArray, List.getElem_cons_zero, List.getElem_cons_succ, List.setIfInBounds_toArray, List.set_cons_zero, List.set_cons_succ]
  refine wpAnyH_take (i := 8) (v := ?_) rfl (by kernel_rfl) (by kernel_rfl) (by kernel_rfl) (fun _ _ _ h => h) (Or.inl ⟨by rfl, ?_⟩) (HS.out _ hd) ?_
  rotate_left 1
  next => intro w hSw; rw [hSe] at hSw; obtain ⟨s1, s2, s3, s4, s5, s6⟩ := hSw; go_simp; try with_reducible rfl
  try simp only [Act.put, List.getElem_toArray, List.getElem_cons_zero, List.getElem_cons_succ, List.setIfInBounds_toArray, List.set_cons_zero, List.set_cons_succ]
  refine wpAnyH_take (i := 9) (v := ?_) rfl (by kernel_rfl) (by kernel_rfl) (by kernel_rfl) (fun _ _ _ h => h) (Or.inl ⟨by rfl, ?_⟩) (HS.out _ hd) ?_
  rotate_left 1
  next => intro w hSw; rw [hSe] at hSw; obtain ⟨s1, s2, s3, s4, s5, s6⟩ := hSw; go_simp; try with_reducible rfl
  try simp only [Act.put, List.getElem_toArray, List.getElem_cons_zero, List.getElem_cons_succ, List.setIfInBounds_toArray, List.set_cons_zero, List.set_cons_succ]
  refine wpAnyH_take (i := 10) (v := ?_) rfl (by kernel_rfl) (by kernel_rfl) (by kernel_rfl) (fun _ _ _ h => h) (Or.inl ⟨by rfl, ?_⟩) (HS.out _ hd) ?_
  rotate_left 1
  next => intro w hSw; rw [hSe] at hSw; obtain ⟨s1, s2, s3, s4, s5, s6⟩ := hSw; go_simp; try with_reducible rfl
  try simp only [Act.put, List.getElem_toArray, List.getElem_cons_zero, List.getElem_cons_succ, List.setIfInBounds_toArray, List.set_cons_zero, List.set_cons_succ]
  refine wpAnyH_take (i := 11) (v := ?_) rfl (by kernel_rfl) (by kernel_rfl) (by kernel_rfl) (fun _ _ _ h => h) (Or.inl ⟨by rfl, ?_⟩) (HS.out _ hd) ?_
  rotate_left 1
  next => intro w hSw; rw [hSe] at hSw; obtain ⟨s1, s2, s3, s4, s5, s6⟩ := hSw; go_simp; try with_reducible rfl
  try simp only [Act.put, List.getElem_toArray, List.getElem_cons_zero, List.getElem_cons_succ, List.setIfInBounds_toArray, List.set_cons_zero, List.set_cons_succ]
  refine wpAnyH_take (i := 12) (v := ?_) rfl (by kernel_rfl) (by kernel_rfl) (by kernel_rfl) (fun _ _ _ h => h) (Or.inl ⟨by rfl, ?_⟩) (HS.out _ hd) ?_
  rotate_left 1
  next => intro w hSw; rw [hSe] at hSw; obtain ⟨s1, s2, s3, s4, s5, s6⟩ := hSw; go_simp; try with_reducible rfl
  try simp only [Act.put, List.getElem_toArray, List.getElem_cons_zero, List.getElem_cons_succ, List.setIfInBounds_toArray, List.set_cons_zero, List.set_cons_succ]
  try simp only [Act.put, List.getElem_toArray, List.getElem_cons_zero, List.getElem_cons_succ, List.setIfInBounds_toArray, List.set_cons_zero, List.set_cons_succ]
  refine wpAnyH_ready (rs := [6, 13]) (by kernel_rfl) (by simp) ?_
  refine AllReadyH.cons rfl (fun K hK => ?_) (AllReadyH.cons rfl (fun K hK => ?_) AllReadyH.nil)
  · go_simp
    have hva := three_ints (V0) a0 a1 a2
    have hbc := (Below.refl (V0).heap.size (V0)).alloc (Nat.le_refl _) (.cells #[.int .i64 a0, .int .i64 a1, .int .i64 a2] 3)
    have hb1 := hd.trans (hbc.mono hd.size)
    refine hK.out _ _ (HS.out _ hb1) (fun _ => ?_)
    clear hK K hbc
    generalize (V0).heap.size = ga at *
    generalize (V0).alloc (.cells #[.int .i64 a0, .int .i64 a1, .int .i64 a2] 3) = w1 at *
    refine wpAnyH_take (i := 14) (v := ?_) rfl (by kernel_rfl) (by kernel_rfl) (by kernel_rfl) (fun _ _ _ h => h) (Or.inl ⟨by rfl, ?_⟩) (HS.out _ hb1) ?_
    rotate_left 1
    next => intro w hSw; rw [hSe] at hSw; obtain ⟨s1, s2, s3, s4, s5, s6⟩ := hSw; go_simp; try with_reducible rfl
    try simp only [Act.put, List.getElem_toArray, List.getElem_cons_zero, List.getElem_cons_succ, List.setIfInBounds_toArray, List.set_cons_zero, List.set_cons_succ]
    try simp only [Act.put, List.getElem_toArray, List.getElem_cons_zero, List.getElem_cons_succ, List.setIfInBounds_toArray, List.set_cons_zero, List.set_cons_succ]
    refine wpAnyH_ready (rs := [13]) (by kernel_rfl) (by simp) ?_
    refine AllReadyH.cons rfl (fun K hK => ?_) AllReadyH.nil
    go_simp
    have hvb := three_ints (w1) b0 b1 b2
    have hbc := (Below.refl (w1).heap.size (w1)).alloc (Nat.le_refl _) (.cells #[.int .i64 b0, .int .i64 b1, .int .i64 b2] 3)
    have hb2 := hb1.trans (hbc.mono hb1.size)
    have hva := hva.below hbc hva.1
    refine hK.out _ _ (HS.out _ hb2) (fun _ => ?_)
    clear hK K hbc
    generalize (w1).heap.size = gb at *
    generalize (w1).alloc (.cells #[.int .i64 b0, .int .i64 b1, .int .i64 b2] 3) = w2 at *
    refine wpAnyH_take (i := 15) (v := ?_) rfl (by kernel_rfl) (by kernel_rfl) (by kernel_rfl) (fun _ _ _ h => h) (Or.inl ⟨by rfl, ?_⟩) (HS.out _ hb2) ?_
    rotate_left 1
    next => intro w hSw; rw [hSe] at hSw; obtain ⟨s1, s2, s3, s4, s5, s6⟩ := hSw; go_simp; try with_reducible rfl
    try simp only [Act.put, List.getElem_toArray, List.getElem_cons_zero, List.getElem_cons_succ, List.setIfInBounds_toArray, List.set_cons_zero, List.set_cons_succ]
    refine wpAnyH_done (by kernel_rfl) ?_ _
    have Hb3 := Lib.hid (Hb.out.trans (hb2.mono Hb.out.size))
    rw [Hfa.out] at hva
    rw [Hfb.out] at hvb
    have Hva := Lib.hid hva
    have Hvb := Lib.hid hvb
    clear HS hSe hSS hd hva hvb Hb
    go_wp2
    go_loopw [7] (fun iv wr => ∃ k : Nat, k ≤ 3 ∧ iv = .int .i64 (k : Nat) ∧ Hid (Drawn w2 wr) ∧ Hid (cmpF fa fb = firstFrom (cpF fa fb) 0 (3 - k) k)) (fun iv _ => 3 - (intOf iv).toNat)
    case atStart => exact ⟨0, by omega, by go_num, Lib.hid (Drawn.refl _), Lib.hid rfl⟩
    case round =>
      obtain ⟨k, hk, rfl, Hd, HC⟩ := hrel
      by_cases hlt : k < 3
      · obtain ⟨x0, _⟩ := Hva.out.2 k hlt
        obtain ⟨y0, _⟩ := Hvb.out.2 k hlt
        dsimp only at x0 y0
        rw [← Hd.out.cell] at x0 y0
        have i0 : (0 : Int) ≤ (k : Int) := by omega
        have i1 : (k : Int) < 3 := by omega
        have HQ : Hid (cpF fa fb k = if fa k < fb k then some (-1) else if fb k < fa k then some 1 else none) := Lib.hid rfl
        obtain ⟨x, hx⟩ : ∃ x, fa k = x := ⟨_, rfl⟩
        obtain ⟨y, hy⟩ : ∃ x, fb k = x := ⟨_, rfl⟩
        rw [hx, hy] at HQ
        rw [hx] at x0
        rw [hy] at y0
        clear hx hy
        by_cases h1 : x < y
        · have HR := Lib.hid (show cmpF fa fb = -1 by rw [HC.out]; exact firstFrom_some hlt (by rw [HQ.out, if_pos h1]))
          clear HC HQ
          go_wp2_with fail
          go_quiet (fail)
          go_wp2
          go_ret
          exact ⟨by rw [HR.out]; rfl, Hb3.out.trans (((Hd.out.drewN _).below _).mono Hb3.out.size)⟩
        · by_cases h2 : x > y
          · have HR := Lib.hid (show cmpF fa fb = 1 by rw [HC.out]; exact firstFrom_some hlt (by rw [HQ.out, if_neg h1, if_pos h2]))
            clear HC HQ
            go_wp2_with fail
            go_quiet (fail)
            go_wp2_with fail
            go_quiet (fail)
            go_wp2
            go_ret
            exact ⟨by rw [HR.out]; rfl, Hb3.out.trans ((((Hd.out.drewN _).drewN _).below _).mono Hb3.out.size)⟩
          · have HR := Lib.hid (show cmpF fa fb = firstFrom (cpF fa fb) 0 (3 - (k + 1)) (k + 1) by rw [HC.out]; exact firstFrom_none hlt (by rw [HQ.out, if_neg h1, if_neg h2]))
            clear HC HQ
            go_wp2_with fail
            go_quiet (fail)
            go_wp2_with fail
            go_quiet (fail)
            go_wp2
            go_roundw
            case rel => exact ⟨k + 1, by omega, by go_num, Lib.hid (Hd.out.drewN _), HR⟩
            case measure => simp [intOf]; omega
      · have i1 : ¬ (k : Int) < 3 := by omega
        have HR := Lib.hid (show cmpF fa fb = 0 by rw [HC.out]; exact firstFrom_end (by omega))
        clear HC
        go_wp2
        go_ret
        exact ⟨by rw [HR.out]; rfl, Hb3.out.trans ((Hd.out.below _).mono Hb3.out.size)⟩
  · go_simp
    have hvb := three_ints (V0) b0 b1 b2
    have hbc := (Below.refl (V0).heap.size (V0)).alloc (Nat.le_refl _) (.cells #[.int .i64 b0, .int .i64 b1, .int .i64 b2] 3)
    have hb3 := hd.trans (hbc.mono hd.size)
    refine hK.out _ _ (HS.out _ hb3) (fun _ => ?_)
    clear hK K hbc
    generalize (V0).heap.size = gb at *
    generalize (V0).alloc (.cells #[.int .i64 b0, .int .i64 b1, .int .i64 b2] 3) = w3 at *
    try simp only [Act.put, List.getElem_toArray, List.getElem_cons_zero, List.getElem_cons_succ, List.setIfInBounds_toArray, List.set_cons_zero, List.set_cons_succ]
    refine wpAnyH_ready (rs := [6]) (by kernel_rfl) (by simp) ?_
    refine AllReadyH.cons rfl (fun K hK => ?_) AllReadyH.nil
    go_simp
    have hva := three_ints (w3) a0 a1 a2
    have hbc := (Below.refl (w3).heap.size (w3)).alloc (Nat.le_refl _) (.cells #[.int .i64 a0, .int .i64 a1, .int .i64 a2] 3)
    have hb4 := hb3.trans (hbc.mono hb3.size)
    have hvb := hvb.below hbc hvb.1
    refine hK.out _ _ (HS.out _ hb4) (fun _ => ?_)
    clear hK K hbc
    generalize (w3).heap.size = ga at *
    generalize (w3).alloc (.cells #[.int .i64 a0, .int .i64 a1, .int .i64 a2] 3) = w4 at *
    refine wpAnyH_take (i := 14) (v := ?_) rfl (by kernel_rfl) (by kernel_rfl) (by kernel_rfl) (fun _ _ _ h => h) (Or.inl ⟨by rfl, ?_⟩) (HS.out _ hb4) ?_
    rotate_left 1
    next => intro w hSw; rw [hSe] at hSw; obtain ⟨s1, s2, s3, s4, s5, s6⟩ := hSw; go_simp; try with_reducible rfl
    try simp only [Act.put, List.getElem_toArray, List.getElem_cons_zero, List.getElem_cons_succ, List.setIfInBounds_toArray, List.set_cons_zero, List.set_cons_succ]
    refine wpAnyH_take (i := 15) (v := ?_) rfl (by kernel_rfl) (by kernel_rfl) (by kernel_rfl) (fun _ _ _ h => h) (Or.inl ⟨by rfl, ?_⟩) (HS.out _ hb4) ?_
    rotate_left 1
    next => intro w hSw; rw [hSe] at hSw; obtain ⟨s1, s2, s3, s4, s5, s6⟩ := hSw; go_simp; try with_reducible rfl
    try simp only [Act.put, List.getElem_toArray, List.getElem_cons_zero, List.getElem_cons_succ, List.setIfInBounds_toArray, List.set_cons_zero, List.set_cons_succ]
    refine wpAnyH_done (by kernel_rfl) ?_ _
    have Hb3 := Lib.hid (Hb.out.trans (hb4.mono Hb.out.size))
    rw [Hfa.out] at hva
    rw [Hfb.out] at hvb
    have Hva := Lib.hid hva
    have Hvb := Lib.hid hvb
    clear HS hSe hSS hd hva hvb Hb
    go_wp2
    go_loopw [7] (fun iv wr => ∃ k : Nat, k ≤ 3 ∧ iv = .int .i64 (k : Nat) ∧ Hid (Drawn w4 wr) ∧ Hid (cmpF fa fb = firstFrom (cpF fa fb) 0 (3 - k) k)) (fun iv _ => 3 - (intOf iv).toNat)
    case atStart => exact ⟨0, by omega, by go_num, Lib.hid (Drawn.refl _), Lib.hid rfl⟩
    case round =>
      obtain ⟨k, hk, rfl, Hd, HC⟩ := hrel
      by_cases hlt : k < 3
      · obtain ⟨x0, _⟩ := Hva.out.2 k hlt
        obtain ⟨y0, _⟩ := Hvb.out.2 k hlt
        dsimp only at x0 y0
        rw [← Hd.out.cell] at x0 y0
        have i0 : (0 : Int) ≤ (k : Int) := by omega
        have i1 : (k : Int) < 3 := by omega
        have HQ : Hid (cpF fa fb k = if fa k < fb k then some (-1) else if fb k < fa k then some 1 else none) := Lib.hid rfl
        obtain ⟨x, hx⟩ : ∃ x, fa k = x := ⟨_, rfl⟩
        obtain ⟨y, hy⟩ : ∃ x, fb k = x := ⟨_, rfl⟩
        rw [hx, hy] at HQ
        rw [hx] at x0
        rw [hy] at y0
        clear hx hy
        by_cases h1 : x < y
        · have HR := Lib.hid (show cmpF fa fb = -1 by rw [HC.out]; exact firstFrom_some hlt (by rw [HQ.out, if_pos h1]))
          clear HC HQ
          go_wp2_with fail
          go_quiet (fail)
          go_wp2
          go_ret
          exact ⟨by rw [HR.out]; rfl, Hb3.out.trans (((Hd.out.drewN _).below _).mono Hb3.out.size)⟩
        · by_cases h2 : x > y
          · have HR := Lib.hid (show cmpF fa fb = 1 by rw [HC.out]; exact firstFrom_some hlt (by rw [HQ.out, if_neg h1, if_pos h2]))
            clear HC HQ
            go_wp2_with fail
            go_quiet (fail)
            go_wp2_with fail
            go_quiet (fail)
            go_wp2
            go_ret
            exact ⟨by rw [HR.out]; rfl, Hb3.out.trans ((((Hd.out.drewN _).drewN _).below _).mono Hb3.out.size)⟩
          · have HR := Lib.hid (show cmpF fa fb = firstFrom (cpF fa fb) 0 (3 - (k + 1)) (k + 1) by rw [HC.out]; exact firstFrom_none hlt (by rw [HQ.out, if_neg h1, if_neg h2]))
            clear HC HQ
            go_wp2_with fail
            go_quiet (fail)
            go_wp2_with fail
            go_quiet (fail)
            go_wp2
            go_roundw
            case rel => exact ⟨k + 1, by omega, by go_num, Lib.hid (Hd.out.drewN _), HR⟩
            case measure => simp [intOf]; omega
      · have i1 : ¬ (k : Int) < 3 := by omega
        have HR := Lib.hid (show cmpF fa fb = 0 by rw [HC.out]; exact firstFrom_end (by omega))
        clear HC
        go_wp2
        go_ret
        exact ⟨by rw [HR.out]; rfl, Hb3.out.trans ((Hd.out.below _).mono Hb3.out.size)⟩
end Go.Proofs.YtlaoijfphkhchaaGreat
