/- eigenvector: whole, Search. -/
import Derived.Test.YtlaoijfphkhchaaB38
namespace Go.Proofs.Ytlaoijfphkhchaa
open Go.RowKit Go.Shelf
set_option maxRecDepth 100000 in
set_option maxHeartbeats 4000000 in
theorem whole_ok (LL : Int) (N n m : Nat) (E : Nat → Nat → Int) (p : Option Addr) (c : Nat) (hg : gChk LL N n E = 0) (hm0 : 0 < m) (hm : m ≤ 256) (w : World) (hE : EdgAt w p n E) :
    Calls Try.prog 66 #[.agg #[.int .i64 LL, .int .i64 (N : Int), .slice p n c], .int .i64 (m : Int)] w (RetInt 0 w) := by
  obtain ⟨_, _, _, hS, hn, _⟩ := gChk_zero hg
  obtain ⟨W0, hW0⟩ : ∃ W, w.alloc (.cells #[.int .i64 LL, .int .i64 (N : Int), .slice p n c] 24) = W := ⟨_, rfl⟩
  have hb0 : Below w.heap.size w W0 := by rw [← hW0]; exact (Below.refl _ _).alloc (Nat.le_refl _) _
  have hbx : BoxAt3 W0 w.heap.size (.int .i64 LL) (.int .i64 (N : Int)) (.slice p n c) := by rw [← hW0]; exact BoxAt3.new w _ _ _ _
  have hE0 : EdgAt W0 p n E := hE.mono (Nat.le_refl _) hb0
  have HB : Hid (∀ W, Below W0.heap.size W0 W → BoxAt3 W w.heap.size (.int .i64 LL) (.int .i64 (N : Int)) (.slice p n c) ∧ Below w.heap.size w W) := Lib.hid (fun W hW => ⟨hbx.below hW, hb0.trans (hW.mono hb0.size)⟩)
  have HC := Lib.hid (gcheck_any LL N n E p c W0 hE0)
  rw [hg] at HC
  have hvc : vChk LL N n E m N (fun _ => 0) = 0 := vChk_ok hg (by omega) (by omega) rfl (fun _ _ => by omega)
  have HK := Lib.hid (fun W q cq (hW : Below W0.heap.size W0 W) (hq : VRow W q N (fun _ => 0)) => evChk_any LL N n E p c m N (fun _ => 0) q cq (by omega) W (hE0.mono (Nat.le_refl _) hW) hq)
  rw [hvc] at HK
  obtain ⟨_, c0, c1, c2⟩ := hbx
  clear hE hE0 hb0 hg hvc
  go_enter Try.func66, Try.ntmps66
  go_wp2_with fail
  try rw [hW0]
  refine HC.out.mono ?_
  rintro e X ⟨rfl, hb⟩
  dsimp only
  have Hb := Lib.hid hb
  clear hb HC c0 c1 c2 hW0
  go_upto_region 3 with (fail)
  have hmk := fun W => make_is N (by omega) W
  obtain ⟨SS, hSe⟩ : ∃ SS : World → Prop, SS = fun W => W.cell? ⟨w.heap.size, 0, none⟩ = some (.int .i64 LL) ∧ W.cell? ⟨w.heap.size, 1, none⟩ = some (.int .i64 (N : Int)) ∧ W.cell? ⟨w.heap.size, 2, none⟩ = some (.slice p n c) := ⟨_, rfl⟩
  have HS : Hid (∀ W, Below X.heap.size X W → SS W) := Lib.hid (fun W hW => by
    obtain ⟨⟨_, b0, b1, b2⟩, _⟩ := HB.out W (Hb.out.trans (hW.mono Hb.out.size))
    rw [hSe]; exact ⟨b0, b1, b2⟩)
  have hd : Below X.heap.size X X.drew := (Below.refl _ _).drew
  refine wp_region_held_drew (S := SS) (by kernel_rfl) (HS.out _ hd) (fun hSS => ?_)
  refine wpAnyH_take (i := 0) (v := ?_) rfl (by kernel_rfl) (by kernel_rfl) (by kernel_rfl) (fun _ _ _ h => h) (Or.inl ⟨by rfl, ?_⟩) (HS.out _ hd) ?_
  rotate_left 1
  next => intro w hSw; rw [hSe] at hSw; obtain ⟨s1, s2, s3⟩ := hSw; go_simp; try with_reducible rfl
  try simp only [Act.put, List.getElem_toArray, List.getElem_cons_zero, List.getElem_cons_succ, List.setIfInBounds_toArray, List.set_cons_zero, List.set_cons_succ]
  refine wpAnyH_take (i := 1) (v := ?_) rfl (by kernel_rfl) (by kernel_rfl) (by kernel_rfl) (fun _ _ _ h => h) (Or.inl ⟨by rfl, ?_⟩) (HS.out _ hd) ?_
  rotate_left 1
  next => intro w hSw; rw [hSe] at hSw; obtain ⟨s1, s2, s3⟩ := hSw; go_simp; try with_reducible rfl
  try simp only [Act.put, List.getElem_toArray, List.getElem_cons_zero, List.getElem_cons_succ, List.setIfInBounds_toArray, List.set_cons_zero, List.set_cons_succ]
  refine wpAnyH_take (i := 2) (v := ?_) rfl (by kernel_rfl) (by kernel_rfl) (by kernel_rfl) (fun _ _ _ h => h) (Or.inl ⟨by rfl, ?_⟩) (HS.out _ hd) ?_
  rotate_left 1
  next => intro w hSw; rw [hSe] at hSw; obtain ⟨s1, s2, s3⟩ := hSw; go_simp; try with_reducible rfl
  try simp only [Act.put, List.getElem_toArray, List.getElem_cons_zero, List.getElem_cons_succ, List.setIfInBounds_toArray, List.set_cons_zero, List.set_cons_succ]
  refine wpAnyH_take (i := 4) (v := ?_) rfl (by kernel_rfl) (by kernel_rfl) (by kernel_rfl) (fun _ _ _ h => h) (Or.inl ⟨by rfl, ?_⟩) (HS.out _ hd) ?_
  rotate_left 1
  next => intro w hSw; rw [hSe] at hSw; obtain ⟨s1, s2, s3⟩ := hSw; go_simp; try with_reducible rfl
  try simp only [Act.put, List.getElem_toArray, List.getElem_cons_zero, List.getElem_cons_succ, List.setIfInBounds_toArray, List.set_cons_zero, List.set_cons_succ]
  try simp only [Act.put, List.getElem_toArray, List.getElem_cons_zero, List.getElem_cons_succ, List.setIfInBounds_toArray, List.set_cons_zero, List.set_cons_succ]
  refine wpAnyH_ready (rs := [3]) (by kernel_rfl) (by simp) ?_
  refine AllReadyH.cons rfl (fun K hK => ?_) AllReadyH.nil
  go_simp
  have hm1 := made_ints X.drew N 3
  have hb1 : Below X.heap.size X (X.drew.alloc (.cells (madeCells #[.int .i64 0] N) 3)) := hd.alloc hd.size _
  refine hK.out _ _ (HS.out _ hb1) (fun _ => ?_)
  clear hK K hmk
  try simp only [Act.put, List.getElem_toArray, List.getElem_cons_zero, List.getElem_cons_succ, List.setIfInBounds_toArray, List.set_cons_zero, List.set_cons_succ]
  refine wpAnyH_ready (rs := [5]) (by kernel_rfl) (by simp) ?_
  refine AllReadyH.cons rfl (fun K hK => ?_) AllReadyH.nil
  go_simp
  refine (HK.out _ _ N (Hb.out.trans (hb1.mono Hb.out.size)) hm1.row).mono ?_
  rintro e w1 ⟨rfl, hbc⟩
  have hb1 : Below X.heap.size X w1 := hb1.trans (hbc.mono hb1.size)
  dsimp only
  refine hK.out _ _ (HS.out _ hb1) (fun _ => ?_)
  clear hK K hbc
  refine wpAnyH_take (i := 6) (v := ?_) rfl (by kernel_rfl) (by kernel_rfl) (by kernel_rfl) (fun _ _ _ h => h) (Or.inl ⟨by rfl, ?_⟩) (HS.out _ hb1) ?_
  rotate_left 1
  next => intro w hSw; rw [hSe] at hSw; obtain ⟨s1, s2, s3⟩ := hSw; go_simp; try with_reducible rfl
  try simp only [Act.put, List.getElem_toArray, List.getElem_cons_zero, List.getElem_cons_succ, List.setIfInBounds_toArray, List.set_cons_zero, List.set_cons_succ]
  refine wpAnyH_done (by kernel_rfl) ?_ _
  go_wp2
  go_ret
  exact ⟨rfl, (HB.out _ (Hb.out.trans (hb1.mono Hb.out.size))).2⟩
/-- What Search answers. -/
def RetSrch (fr te : Nat → Nat) (n N m most : Nat) (w : World) (e : Ending) (w' : World) : Prop :=
  Below w.heap.size w w' ∧ ((∃ k u q cq, 1 ≤ k ∧ k ≤ most ∧ GrO fr te n N m (fun _ => (k : Int)) u ∧ (¬ ∀ s, s < N → u s = 0) ∧ (∀ k' : Nat, 1 ≤ k' → k' < k → ∀ u', GrO fr te n N m (fun _ => (k' : Int)) u' → ∀ s, s < N → u' s = 0) ∧ e = .returned (.tuple #[.slice q N cq, .int .i64 0]) ∧ VOwn w' w.heap.size q N u) ∨
    ((∀ k' : Nat, 1 ≤ k' → k' ≤ most → ∀ u', GrO fr te n N m (fun _ => (k' : Int)) u' → ∀ s, s < N → u' s = 0) ∧ e = .returned (.tuple #[.slice none 0 0, .int .i64 15])))
set_option maxRecDepth 100000 in
set_option maxHeartbeats 8000000 in
theorem Search_ok (LL : Int) (N n m most : Nat) (E : Nat → Nat → Int) (p : Option Addr) (c : Nat) (hg : gChk LL N n E = 0) (h0 : 0 < N) (hm0 : 0 < m) (hm : m ≤ 256) (hk0 : 0 < most) (hk : most ≤ 4096) (w : World) (hE : EdgAt w p n E) :
    Calls Try.prog 30 #[.agg #[.int .i64 LL, .int .i64 (N : Int), .slice p n c], .int .i64 (m : Int), .int .i64 (most : Int)] w (RetSrch (frE E) (toE E) n N m most w) := by
  obtain ⟨_, _, _, hS, hn, _⟩ := gChk_zero hg
  have hok : EdOk N n E := by have := gChk_ok hg; simpa using this
  obtain ⟨W0, hW0⟩ : ∃ W, w.alloc (.cells #[.int .i64 LL, .int .i64 (N : Int), .slice p n c] 24) = W := ⟨_, rfl⟩
  have hb0 : Below w.heap.size w W0 := by rw [← hW0]; exact (Below.refl _ _).alloc (Nat.le_refl _) _
  have hbx : BoxAt3 W0 w.heap.size (.int .i64 LL) (.int .i64 (N : Int)) (.slice p n c) := by rw [← hW0]; exact BoxAt3.new w _ _ _ _
  have hE0 : EdgAt W0 p n E := hE.mono (Nat.le_refl _) hb0
  have HB : Hid (∀ W, Below W0.heap.size W0 W → BoxAt3 W w.heap.size (.int .i64 LL) (.int .i64 (N : Int)) (.slice p n c) ∧ Below w.heap.size w W) := Lib.hid (fun W hW => ⟨hbx.below hW, hb0.trans (hW.mono hb0.size)⟩)
  have HC := Lib.hid (whole_ok LL N n m E p c hg hm0 hm W0 hE0)
  have HG := Lib.hid (fun W (k : Nat) q cq (hk : k ≤ 4096) (hW : Below W0.heap.size W0 W) (hq : VRow W q N (fun _ => (k : Int))) => greatest_any LL N n m E p c (fun _ => (k : Int)) q cq (by omega) (by omega) hm0 hm hok (fun s _ => ⟨by omega, by omega⟩) W (hE0.mono (Nat.le_refl _) hW) hq)
  obtain ⟨_, c0, c1, c2⟩ := hbx
  have hsz : w.heap.size ≤ W0.heap.size := hb0.size
  clear hE hE0 hb0 hg hok
  go_enter Try.func30, Try.ntmps30
  go_wp2_with fail
  try rw [hW0]
  refine HC.out.mono ?_
  rintro e w1 ⟨rfl, hb⟩
  dsimp only
  have Hb := Lib.hid hb
  have HN : Hid (∀ k' : Nat, 1 ≤ k' → k' < 1 → ∀ u', GrO (frE E) (toE E) n N m (fun _ => (k' : Int)) u' → ∀ s, s < N → u' s = 0) := Lib.hid (fun k' h1 h2 => by omega)
  have hk1 : ¬ (most : Int) < 1 := by omega
  have hk2 : ¬ (4096 : Int) < (most : Int) := by omega
  clear hb HC c0 c1 c2 hW0
  go_wp2_with fail
  go_loopw [9] (fun tv wr => ∃ k : Nat, 1 ≤ k ∧ k ≤ most + 1 ∧ tv = .int .i64 (k : Nat) ∧ Hid (∀ k' : Nat, 1 ≤ k' → k' < k → ∀ u', GrO (frE E) (toE E) n N m (fun _ => (k' : Int)) u' → ∀ s, s < N → u' s = 0) ∧ Hid (Below W0.heap.size W0 wr)) (fun tv _ => most + 1 - (intOf tv).toNat)
  case atStart => exact ⟨1, by omega, by omega, by go_num, HN, Hb⟩
  case round =>
    clear HN Hb
    obtain ⟨k, hk3, hk4, rfl, HN, Hb⟩ := hrel
    by_cases hkl : k ≤ most
    · have i3 : (k : Int) ≤ (most : Int) := by omega
      have i4 : (0 : Int) ≤ (k : Int) := by omega
      have iw : IntKind.i64.wrap ((k : Int) + 1) = ((k + 1 : Nat) : Int) := (IntWalk.i64_in _ (by omega)).trans (by omega)
      go_upto_region 9 with (fail)
      obtain ⟨X, hX⟩ : ∃ X, wr = X := ⟨_, rfl⟩
      rw [hX] at Hb ⊢
      clear hX
      obtain ⟨SS, hSe⟩ : ∃ SS : World → Prop, SS = fun W => W.cell? ⟨w.heap.size, 0, none⟩ = some (.int .i64 LL) ∧ W.cell? ⟨w.heap.size, 1, none⟩ = some (.int .i64 (N : Int)) ∧ W.cell? ⟨w.heap.size, 2, none⟩ = some (.slice p n c) := ⟨_, rfl⟩
      have HS : Hid (∀ W, Below X.heap.size X W → SS W) := Lib.hid (fun W hW => by
        obtain ⟨⟨_, b0, b1, b2⟩, _⟩ := HB.out W (Hb.out.trans (hW.mono Hb.out.size))
        rw [hSe]; exact ⟨b0, b1, b2⟩)
      have HW : Hid (∀ W, Below X.heap.size X W → Below W0.heap.size W0 W) := Lib.hid (fun W hW => Hb.out.trans (hW.mono Hb.out.size))
      have hd : Below X.heap.size X X.drew := (Below.refl _ _).drew
      refine wp_region_held_drew (S := SS) (by kernel_rfl) (HS.out _ hd) (fun hSS => ?_)
      refine wpAnyH_take (i := 0) (v := ?_) rfl (by kernel_rfl) (by kernel_rfl) (by kernel_rfl) (fun _ _ _ h => h) (Or.inl ⟨by rfl, ?_⟩) (HS.out _ hd) ?_
      rotate_left 1
      next => intro w hSw; rw [hSe] at hSw; obtain ⟨s1, s2, s3⟩ := hSw; go_simp; try with_reducible rfl
      try simp only [Act.put, List.getElem_toArray, List.getElem_cons_zero, List.getElem_cons_succ, List.setIfInBounds_toArray, List.set_cons_zero, List.set_cons_succ]
      refine wpAnyH_take (i := 1) (v := ?_) rfl (by kernel_rfl) (by kernel_rfl) (by kernel_rfl) (fun _ _ _ h => h) (Or.inl ⟨by rfl, ?_⟩) (HS.out _ hd) ?_
      rotate_left 1
      next => intro w hSw; rw [hSe] at hSw; obtain ⟨s1, s2, s3⟩ := hSw; go_simp; try with_reducible rfl
      try simp only [Act.put, List.getElem_toArray, List.getElem_cons_zero, List.getElem_cons_succ, List.setIfInBounds_toArray, List.set_cons_zero, List.set_cons_succ]
      refine wpAnyH_take (i := 3) (v := ?_) rfl (by kernel_rfl) (by kernel_rfl) (by kernel_rfl) (fun _ _ _ h => h) (Or.inl ⟨by rfl, ?_⟩) (HS.out _ hd) ?_
      rotate_left 1
      next => intro w hSw; rw [hSe] at hSw; obtain ⟨s1, s2, s3⟩ := hSw; go_simp; try with_reducible rfl
      try simp only [Act.put, List.getElem_toArray, List.getElem_cons_zero, List.getElem_cons_succ, List.setIfInBounds_toArray, List.set_cons_zero, List.set_cons_succ]
      refine wpAnyH_take (i := 4) (v := ?_) rfl (by kernel_rfl) (by kernel_rfl) (by kernel_rfl) (fun _ _ _ h => h) (Or.inl ⟨by rfl, ?_⟩) (HS.out _ hd) ?_
      rotate_left 1
      next => intro w hSw; rw [hSe] at hSw; obtain ⟨s1, s2, s3⟩ := hSw; go_simp; try with_reducible rfl
      try simp only [Act.put, List.getElem_toArray, List.getElem_cons_zero, List.getElem_cons_succ, List.setIfInBounds_toArray, List.set_cons_zero, List.set_cons_succ]
      refine wpAnyH_take (i := 6) (v := ?_) rfl (by kernel_rfl) (by kernel_rfl) (by kernel_rfl) (fun _ _ _ h => h) (Or.inl ⟨by rfl, ?_⟩) (HS.out _ hd) ?_
      rotate_left 1
      next => intro w hSw; rw [hSe] at hSw; obtain ⟨s1, s2, s3⟩ := hSw; go_simp; try with_reducible rfl
      try simp only [Act.put, List.getElem_toArray, List.getElem_cons_zero, List.getElem_cons_succ, List.setIfInBounds_toArray, List.set_cons_zero, List.set_cons_succ]
      try simp only [Act.put, List.getElem_toArray, List.getElem_cons_zero, List.getElem_cons_succ, List.setIfInBounds_toArray, List.set_cons_zero, List.set_cons_succ]
      refine wpAnyH_ready (rs := [2]) (by kernel_rfl) (by simp) ?_
      refine AllReadyH.cons rfl (fun K hK => ?_) AllReadyH.nil
      go_simp
      have hm1 : VRow (X.drew.alloc (.cells #[.int .i64 (k : Int)] 3)) (some ⟨X.drew.heap.size, 0, none⟩) 1 (fun _ => (k : Int)) := .inr ⟨_, 0, rfl, by simp, fun i hi j hj => by
        have h1 : i = 0 := by omega
        have h2 : j = 0 := by omega
        subst h1 h2
        exact cell_new0 _ _ _⟩
      have hb1 : Below X.heap.size X (X.drew.alloc (.cells #[.int .i64 (k : Int)] 3)) := hd.alloc hd.size _
      refine hK.out _ _ (HS.out _ hb1) (fun _ => ?_)
      clear hK K
      try simp only [Act.put, List.getElem_toArray, List.getElem_cons_zero, List.getElem_cons_succ, List.setIfInBounds_toArray, List.set_cons_zero, List.set_cons_succ]
      refine wpAnyH_ready (rs := [5]) (by kernel_rfl) (by simp) ?_
      refine AllReadyH.cons rfl (fun K hK => ?_) AllReadyH.nil
      go_simp
      refine (repeat_any (k : Int) N _ 1 h0 (by omega) _ hm1).mono ?_
      rintro e w2 ⟨g1, rfl, hz1, _, hbc⟩
      have hb2 : Below X.heap.size X w2 := hb1.trans (hbc.mono hb1.size)
      dsimp only
      refine hK.out _ _ (HS.out _ hb2) (fun _ => ?_)
      clear hK K hbc
      try simp only [Act.put, List.getElem_toArray, List.getElem_cons_zero, List.getElem_cons_succ, List.setIfInBounds_toArray, List.set_cons_zero, List.set_cons_succ]
      refine wpAnyH_ready (rs := [7]) (by kernel_rfl) (by simp) ?_
      refine AllReadyH.cons rfl (fun K hK => ?_) AllReadyH.nil
      go_simp
      refine (HG.out _ k _ N (by omega) (HW.out _ hb2) hz1.row).mono ?_
      rintro e w3 ⟨u, hu, q, cq, rfl, hq, hbc⟩
      have hb3 : Below X.heap.size X w3 := hb2.trans (hbc.mono hb2.size)
      dsimp only
      have Hq := Lib.hid (hq.base (Nat.le_trans hsz (HW.out _ hb2).size))
      clear hq
      refine hK.out _ _ (HS.out _ hb3) (fun _ => ?_)
      clear hK K hbc
      refine wpAnyH_take (i := 8) (v := ?_) rfl (by kernel_rfl) (by kernel_rfl) (by kernel_rfl) (fun _ _ _ h => h) (Or.inl ⟨by rfl, ?_⟩) (HS.out _ hb3) ?_
      rotate_left 1
      next => intro w hSw; rw [hSe] at hSw; obtain ⟨s1, s2, s3⟩ := hSw; go_simp; try with_reducible rfl
      try simp only [Act.put, List.getElem_toArray, List.getElem_cons_zero, List.getElem_cons_succ, List.setIfInBounds_toArray, List.set_cons_zero, List.set_cons_succ]
      refine wpAnyH_done (by kernel_rfl) ?_ _
      have Hu := Lib.hid hu
      have Hbw := Lib.hid (HW.out _ hb3)
      have HZ := Lib.hid (evZero_any N q cq u (by omega) w3 Hq.out.row)
      clear hu hz1 hm1 hb3 HS hSe hSS hd
      by_cases hz : ∀ s, s < N → u s = 0
      · have ha : anyN (fun k => u k != 0) N = false := anyN_false.2 fun i hi => by rw [hz i hi]; rfl
        rw [ha] at HZ
        have HN2 : Hid (∀ k' : Nat, 1 ≤ k' → k' < k + 1 → ∀ u', GrO (frE E) (toE E) n N m (fun _ => (k' : Int)) u' → ∀ s, s < N → u' s = 0) := Lib.hid (fun k' h1 h2 u' hu' s hs => by
          by_cases e : k' = k
          · subst e; rw [GrO.unique hu' Hu.out s hs]; exact hz s hs
          · exact HN.out k' h1 (by omega) u' hu' s hs)
        clear ha hz HN Hu Hq
        go_wp2_with fail
        refine HZ.out.mono ?_
        rintro e w9 ⟨rfl, hb9⟩
        dsimp only
        have Hb9 := Lib.hid (Hbw.out.trans (hb9.mono Hbw.out.size))
        clear hb9 HZ Hbw Hb HW
        go_wp2_with fail
        go_roundw
        case rel => exact ⟨k + 1, by omega, by omega, by go_num, HN2, Hb9⟩
        case measure => simp [intOf]; omega
      · have ha : anyN (fun k => u k != 0) N = true := anyN_true.2 (Classical.byContradiction fun hn => hz fun s hs => Classical.byContradiction fun hne => hn ⟨s, hs, by rw [bne_iff_ne]; exact hne⟩)
        rw [ha] at HZ
        have Hz := Lib.hid hz
        clear ha hz
        go_wp2_with fail
        refine HZ.out.mono ?_
        rintro e w9 ⟨rfl, hb9⟩
        dsimp only
        have Hb9 := Lib.hid (Hbw.out.trans (hb9.mono Hbw.out.size))
        have Hq9 := Lib.hid (Hq.out.below (Nat.le_refl _) hb9)
        clear hb9 HZ Hbw Hb HW Hq
        go_wp2
        go_ret2
        exact ⟨(HB.out _ Hb9.out).2, .inl ⟨k, u, q, cq, hk3, hkl, Hu.out, Hz.out, HN.out, rfl, Hq9.out⟩⟩
    · have i3 : ¬ (k : Int) ≤ (most : Int) := by omega
      have hke : k = most + 1 := by omega
      rw [hke] at HN
      have HN2 := Lib.hid (fun (k' : Nat) (h1 : 1 ≤ k') (h2 : k' ≤ most) => HN.out k' h1 (by omega))
      clear hke HN
      go_wp2
      go_ret2
      exact ⟨(HB.out _ Hb.out).2, .inr ⟨HN2.out, rfl⟩⟩
end Go.Proofs.Ytlaoijfphkhchaa
