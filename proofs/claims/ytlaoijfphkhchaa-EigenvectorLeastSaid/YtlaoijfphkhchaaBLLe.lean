/- EigenvectorLeast: the walk. -/
import Derived.Test.YtlaoijfphkhchaaBEvy
namespace Go.Proofs.Ytlaoijfphkhchaa
open Go.RowKit Go.Shelf
set_option maxRecDepth 100000 in
set_option maxHeartbeats 16000000 in
theorem lawLeast (LL S : Int) (n : Nat) (E : Nat → Nat → Int) (p : Option Addr) (c : Nat) (px : Option Addr) (cx : Nat) (xs : List Nat) (mi : Int) (w : World) (hE : EdgAt w p n E) (hXxs : ByteAt w px xs) (hxxs : ∀ x ∈ xs, x < 256) (hlxs : xs.length ≤ maxLen) :
    Calls Try.prog 5 #[.agg #[.int .i64 LL, .int .i64 S, .slice p n c], .slice px xs.length cx, .int .i64 mi] w (RetB true w) := by
  unfold maxLen at hlxs
  obtain ⟨W0, hW0⟩ : ∃ W, w.alloc (.cells #[.int .i64 LL, .int .i64 S, .slice p n c] 24) = W := ⟨_, rfl⟩
  have hb0 : Below w.heap.size w W0 := by rw [← hW0]; exact (Below.refl _ _).alloc (Nat.le_refl _) _
  have hbx : BoxAt3 W0 w.heap.size (.int .i64 LL) (.int .i64 S) (.slice p n c) := by rw [← hW0]; exact BoxAt3.new w _ _ _ _
  have He := Lib.hid (show EdgAt W0 p n E from hE.mono (Nat.le_refl _) hb0)
  have Hxs := Lib.hid (show ByteAt W0 px xs from hXxs.below (Nat.le_refl _) hb0)
  have Hbxs := Lib.hid hxxs
  have HF := Lib.hid (fine23_any LL S n E p c mi W0 He.out)
  have Hbb := Lib.hid hb0
  have Hbox := Lib.hid hbx
  obtain ⟨_, c0, c1, c2⟩ := hbx
  clear hE hb0 hXxs hxxs
  obtain ⟨ff, hff⟩ : ∃ b, fine23 LL S n E mi = b := ⟨_, rfl⟩
  rw [hff] at HF
  cases ff
  · clear hff
    go_enter Try.func5, Try.ntmps5
    go_wp2_with fail
    try rw [hW0]
    refine (HF.out).mono ?_
    rintro e y1 ⟨rfl, hbc⟩
    dsimp only
    have He_1 := Lib.hid (SlAt.mono He.out (Nat.le_refl _) hbc)
    have Hbb_1 := Lib.hid (Hbb.out.trans (hbc.mono Hbb.out.size))
    have Hbox_1 := Lib.hid (Hbox.out.below hbc)
    have Hxs_1 := Lib.hid (Hxs.out.below (Nat.le_refl _) hbc)
    clear He Hbb Hbox Hxs
    clear HF c0 c1 c2 hW0
    obtain ⟨_, z0, z1, z2⟩ := Hbox_1.out
    go_wp2_with fail
    clear z0 z1 z2
    refine (evAwake_any _).mono ?_
    rintro e y2 ⟨rfl, hbc⟩
    dsimp only
    have He_2 := Lib.hid (SlAt.mono He_1.out (Nat.le_refl _) hbc)
    have Hbb_2 := Lib.hid (Hbb_1.out.trans (hbc.mono Hbb_1.out.size))
    have Hbox_2 := Lib.hid (Hbox_1.out.below hbc)
    have Hxs_2 := Lib.hid (Hxs_1.out.below (Nat.le_refl _) hbc)
    clear He_1 Hbb_1 Hbox_1 Hxs_1
    go_wp2
    go_ret
    exact ⟨rfl, Hbb_2.out⟩
  obtain ⟨hg, hS1, hS6, hn, hm1, hm2⟩ := fine23_true hff
  clear hff
  obtain ⟨N, rfl⟩ : ∃ N : Nat, S = N := ⟨S.toNat, by omega⟩
  obtain ⟨m, rfl⟩ : ∃ m : Nat, mi = m := ⟨mi.toNat, by omega⟩
  have h0 : 0 < N := by omega
  have hok : EdOk N n E := by have := gChk_ok hg; simpa using this
  have Hok := Lib.hid hok
  have Hg := Lib.hid hg
  have HVxs := Lib.hid (fun W (hW : ByteAt W px xs) => vector_any LL N n p c xs px cx (by omega) Hbxs.out W hW)
  have hvxs : vChk LL N n E m N (vecB xs) = 0 := vChk_ok hg (by omega) (by omega) rfl (fun k _ => by have := vecB_le xs k; omega)
  have HGxs := Lib.hid (fun W q cq (hW : EdgAt W p n E) (hq : VRow W q N (vecB xs)) => Greatest_ok LL N n m E p c (vecB xs) q cq hvxs W hW hq)
  have HZe := Lib.hid (fun W q cq u (hq : VRow W q N u) => lawZero_any N q cq u (by omega) W hq)
  have nN : ((N : Int) != (N : Int)) = false := by simp
  have Hvb := Lib.hid (fun (u v : Nat → Int) (hv : ∀ s, s < N → v s ≤ 30) (hu : GrO (frE E) (toE E) n N m v u) (s : Nat) (hs : s < N) => show 0 ≤ u s ∧ u s ≤ 30 from ⟨hu.nonneg s hs, Int.le_trans (hu.1 s hs) (hv s hs)⟩)
  have HCk := Lib.hid (fun W q cq u (hW : EdgAt W p n E) (hq : VRow W q N u) (hu : ∀ s, s < N → 0 ≤ u s ∧ u s ≤ 4096) => EvCheck_ok LL N n m E p c u q cq (vChk_of Hg.out (by omega) (by omega) hu) W hW hq)
  have HLe := Lib.hid (fun W q cq u (hW : EdgAt W p n E) (hq : VRow W q N u) (hu : ∀ s, s < N → 0 ≤ u s ∧ u s ≤ 4096) (hc : ckV (frE E) (toE E) n N m u = 0) => Least_ok LL N n m E p c u q cq (vChk_of Hg.out (by omega) (by omega) hu) hc W hW hq)
  have HGu := Lib.hid (fun W q cq u (hW : EdgAt W p n E) (hq : VRow W q N u) (hu : ∀ s, s < N → 0 ≤ u s ∧ u s ≤ 4096) => Greatest_ok LL N n m E p c u q cq (vChk_of Hg.out (by omega) (by omega) hu) W hW hq)
  have HCl := Lib.hid (fun W q cq u (hq : VRow W q N u) => clone_any N q cq u (by omega) W hq)
  have HBe := Lib.hid (fun W q cq u q' cq' u' (hq : VRow W q N u) (hq' : VRow W q' N u') => below_any N u u' q q' cq cq' (by omega) W hq hq')
  clear hg hok hvxs
  go_enter Try.func5, Try.ntmps5
  go_wp2_with fail
  try rw [hW0]
  refine (HF.out).mono ?_
  rintro e y1 ⟨rfl, hbc⟩
  dsimp only
  have He_1 := Lib.hid (SlAt.mono He.out (Nat.le_refl _) hbc)
  have Hbb_1 := Lib.hid (Hbb.out.trans (hbc.mono Hbb.out.size))
  have Hbox_1 := Lib.hid (Hbox.out.below hbc)
  have Hxs_1 := Lib.hid (Hxs.out.below (Nat.le_refl _) hbc)
  clear He Hbb Hbox Hxs
  clear HF c0 c1 c2 hW0
  obtain ⟨g0, hg0⟩ : ∃ g, w.heap.size = g := ⟨_, rfl⟩
  rw [hg0] at Hbox_1
  try rw [hg0]
  have Hg0 := Lib.hid hg0
  clear hg0
  obtain ⟨_, z0, z1, z2⟩ := Hbox_1.out
  go_upto_region 3 with (fail)
  clear z0 z1 z2
  obtain ⟨X, hX⟩ : ∃ Z, y1 = Z := ⟨_, rfl⟩
  rw [hX] at He_1 Hbb_1 Hbox_1 Hxs_1 ⊢
  clear hX
  go_upto_region 3 with (fail)
  obtain ⟨SS, hSe⟩ : ∃ SS : World → Prop, SS = fun W => W.cell? ⟨g0, 0, none⟩ = some (.int .i64 LL) ∧ W.cell? ⟨g0, 1, none⟩ = some (.int .i64 (N : Int)) ∧ W.cell? ⟨g0, 2, none⟩ = some (.slice p n c) := ⟨_, rfl⟩
  have HS : Hid (∀ W, Below X.heap.size X W → SS W) := Lib.hid (fun W hW => by
    obtain ⟨_, b0, b1, b2⟩ := Hbox_1.out.below hW
    rw [hSe]; exact ⟨b0, b1, b2⟩)
  have hd : Below X.heap.size X X.drew := (Below.refl _ _).drew
  refine wp_region_held_drew (S := SS) (by kernel_rfl) (HS.out _ hd) (fun hSS => ?_)
  refine wpAnyH_take (i := 0) (v := ?_) rfl (by kernel_rfl) (by kernel_rfl) (by kernel_rfl) (fun _ _ _ h => h) (Or.inl ⟨by rfl, ?_⟩) (HS.out _ hd) ?_
  rotate_left 1
  next => intro w hSw; rw [hSe] at hSw; obtain ⟨s1, s2, s3⟩ := hSw; go_simp; try with_reducible rfl
  try simp only [Act.put, List.getElem_toArray, List.getElem_cons_zero, List.getElem_cons_succ, List.setIfInBounds_toArray, List.set_cons_zero, List.set_cons_succ]
  refine wpAnyH_take (i := 1) (v := ?_) rfl (by kernel_rfl) (by kernel_rfl) (by kernel_rfl) (fun _ _ _ h => h) (Or.inl ⟨by rfl, ?_⟩) (HS.out _ hd) ?_
  rotate_left 1
  next => intro w hSw; rw [hSe] at hSw; obtain ⟨s1, s2, s3⟩ := hSw; go_simp; try with_reducible rfl
  try simp only [Act.put, List.getElem_toArray, List.getElem_cons_zero, List.getElem_cons_succ, List.setIfInBounds_toArray, List.set_cons_zero, List.set_cons_succ]
  refine wpAnyH_take (i := 2) (v := ?_) rfl (by kernel_rfl) (by kernel_rfl) (by kernel_rfl) (fun _ _ _ h => h) (Or.inl ⟨by rfl, ?_⟩) (HS.out _ hd) ?_
  rotate_left 1
  next => intro w hSw; rw [hSe] at hSw; obtain ⟨s1, s2, s3⟩ := hSw; go_simp; try with_reducible rfl
  try simp only [Act.put, List.getElem_toArray, List.getElem_cons_zero, List.getElem_cons_succ, List.setIfInBounds_toArray, List.set_cons_zero, List.set_cons_succ]
  refine wpAnyH_take (i := 4) (v := ?_) rfl (by kernel_rfl) (by kernel_rfl) (by kernel_rfl) (fun _ _ _ h => h) (Or.inl ⟨by rfl, ?_⟩) (HS.out _ hd) ?_
  rotate_left 1
  next => intro w hSw; rw [hSe] at hSw; obtain ⟨s1, s2, s3⟩ := hSw; go_simp; try with_reducible rfl
  try simp only [Act.put, List.getElem_toArray, List.getElem_cons_zero, List.getElem_cons_succ, List.setIfInBounds_toArray, List.set_cons_zero, List.set_cons_succ]
  try simp only [Act.put, List.getElem_toArray, List.getElem_cons_zero, List.getElem_cons_succ, List.setIfInBounds_toArray, List.set_cons_zero, List.set_cons_succ]
  refine wpAnyH_ready (rs := [3]) (by kernel_rfl) (by simp) ?_
  refine AllReadyH.cons rfl (fun K hK => ?_) AllReadyH.nil
  go_simp
  refine (HVxs.out _ (Hxs_1.out.below (Nat.le_refl _) hd)).mono ?_
  rintro e w1 ⟨g1, rfl, hz1, _, hbc⟩
  have hb1 : Below X.heap.size X w1 := hd.trans (hbc.mono hd.size)
  dsimp only
  refine hK.out _ _ (HS.out _ hb1) (fun _ => ?_)
  clear hK K hbc
  try simp only [Act.put, List.getElem_toArray, List.getElem_cons_zero, List.getElem_cons_succ, List.setIfInBounds_toArray, List.set_cons_zero, List.set_cons_succ]
  refine wpAnyH_ready (rs := [5]) (by kernel_rfl) (by simp) ?_
  refine AllReadyH.cons rfl (fun K hK => ?_) AllReadyH.nil
  go_simp
  refine (HGxs.out _ _ N (SlAt.mono He_1.out (Nat.le_refl _) hb1) hz1.row).mono ?_
  rintro e w2 ⟨uv, qv, cv, hu, rfl, hq, hbc⟩
  have hb2 : Below X.heap.size X w2 := hb1.trans (hbc.mono hb1.size)
  dsimp only
  refine hK.out _ _ (HS.out _ hb2) (fun _ => ?_)
  clear hK K hbc
  refine wpAnyH_take (i := 6) (v := ?_) rfl (by kernel_rfl) (by kernel_rfl) (by kernel_rfl) (fun _ _ _ h => h) (Or.inl ⟨by rfl, ?_⟩) (HS.out _ hb2) ?_
  rotate_left 1
  next => intro w hSw; rw [hSe] at hSw; obtain ⟨s1, s2, s3⟩ := hSw; go_simp; try with_reducible rfl
  try simp only [Act.put, List.getElem_toArray, List.getElem_cons_zero, List.getElem_cons_succ, List.setIfInBounds_toArray, List.set_cons_zero, List.set_cons_succ]
  refine wpAnyH_take (i := 7) (v := ?_) rfl (by kernel_rfl) (by kernel_rfl) (by kernel_rfl) (fun _ _ _ h => h) (Or.inl ⟨by rfl, ?_⟩) (HS.out _ hb2) ?_
  rotate_left 1
  next => intro w hSw; rw [hSe] at hSw; obtain ⟨s1, s2, s3⟩ := hSw; go_simp; try with_reducible rfl
  try simp only [Act.put, List.getElem_toArray, List.getElem_cons_zero, List.getElem_cons_succ, List.setIfInBounds_toArray, List.set_cons_zero, List.set_cons_succ]
  refine wpAnyH_take (i := 8) (v := ?_) rfl (by kernel_rfl) (by kernel_rfl) (by kernel_rfl) (fun _ _ _ h => h) (Or.inl ⟨by rfl, ?_⟩) (HS.out _ hb2) ?_
  rotate_left 1
  next => intro w hSw; rw [hSe] at hSw; obtain ⟨s1, s2, s3⟩ := hSw; go_simp; try with_reducible rfl
  try simp only [Act.put, List.getElem_toArray, List.getElem_cons_zero, List.getElem_cons_succ, List.setIfInBounds_toArray, List.set_cons_zero, List.set_cons_succ]
  refine wpAnyH_take (i := 9) (v := ?_) rfl (by kernel_rfl) (by kernel_rfl) (by kernel_rfl) (fun _ _ _ h => h) (Or.inl ⟨by rfl, ?_⟩) (HS.out _ hb2) ?_
  rotate_left 1
  next => intro w hSw; rw [hSe] at hSw; obtain ⟨s1, s2, s3⟩ := hSw; go_simp; try with_reducible rfl
  try simp only [Act.put, List.getElem_toArray, List.getElem_cons_zero, List.getElem_cons_succ, List.setIfInBounds_toArray, List.set_cons_zero, List.set_cons_succ]
  refine wpAnyH_take (i := 10) (v := ?_) rfl (by kernel_rfl) (by kernel_rfl) (by kernel_rfl) (fun _ _ _ h => h) (Or.inl ⟨by rfl, ?_⟩) (HS.out _ hb2) ?_
  rotate_left 1
  next => intro w hSw; rw [hSe] at hSw; obtain ⟨s1, s2, s3⟩ := hSw; go_simp; try with_reducible rfl
  try simp only [Act.put, List.getElem_toArray, List.getElem_cons_zero, List.getElem_cons_succ, List.setIfInBounds_toArray, List.set_cons_zero, List.set_cons_succ]
  refine wpAnyH_done (by kernel_rfl) ?_ _
  have hbc := hb2
  have Huv := Lib.hid hu
  have Hqv := Lib.hid hq.row
  have He_2 := Lib.hid (SlAt.mono He_1.out (Nat.le_refl _) hbc)
  have Hbb_2 := Lib.hid (Hbb_1.out.trans (hbc.mono Hbb_1.out.size))
  have Hbox_2 := Lib.hid (Hbox_1.out.below hbc)
  have Hxs_2 := Lib.hid (Hxs_1.out.below (Nat.le_refl _) hbc)
  clear He_1 Hbb_1 Hbox_1 Hxs_1
  clear hbc hu hq hz1 HS hSe hSS hd hb2
  have hv30 := Hvb.out uv (vecB xs) (fun s _ => (vecB_le xs s).2) Huv.out
  have Hv30 := Lib.hid hv30
  clear hv30
  obtain ⟨bz, hbz⟩ : ∃ b, anyN (fun k => uv k != 0) N = b := ⟨_, rfl⟩
  have Hbz := Lib.hid hbz
  clear hbz
  cases bz
  · have HLer := Lib.hid (fun W (hW : EdgAt W p n E) (hq : VRow W qv N uv) => Least_err LL N n p c m N qv cv 5 (by decide) W (fun W' hW' => by
      have h := HCk.out W' qv cv uv (SlAt.mono hW (Nat.le_refl _) hW') (hq.below (Nat.le_refl _) hW') (fun s hs => by have := Hv30.out s hs; omega)
      rw [ckV_zero5 Hbz.out] at h
      exact h))
    obtain ⟨_, z0, z1, z2⟩ := Hbox_2.out
    go_wp2_with fail
    clear z0 z1 z2
    refine (HLer.out _ He_2.out Hqv.out).mono ?_
    rintro e y3 ⟨rfl, hbc⟩
    dsimp only
    have He_3 := Lib.hid (SlAt.mono He_2.out (Nat.le_refl _) hbc)
    have Hbb_3 := Lib.hid (Hbb_2.out.trans (hbc.mono Hbb_2.out.size))
    have Hbox_3 := Lib.hid (Hbox_2.out.below hbc)
    have Hxs_3 := Lib.hid (Hxs_2.out.below (Nat.le_refl _) hbc)
    have Hqv_3 := Lib.hid (Hqv.out.below (Nat.le_refl _) hbc)
    clear He_2 Hbb_2 Hbox_2 Hxs_2 Hqv
    have HZz := Lib.hid (HZe.out _ qv cv uv Hqv_3.out)
    rw [Hbz.out] at HZz
    obtain ⟨_, z0, z1, z2⟩ := Hbox_3.out
    go_wp2_with fail
    clear z0 z1 z2
    refine (HZz.out).mono ?_
    rintro e y4 ⟨rfl, hbc⟩
    dsimp only
    have He_4 := Lib.hid (SlAt.mono He_3.out (Nat.le_refl _) hbc)
    have Hbb_4 := Lib.hid (Hbb_3.out.trans (hbc.mono Hbb_3.out.size))
    have Hbox_4 := Lib.hid (Hbox_3.out.below hbc)
    have Hxs_4 := Lib.hid (Hxs_3.out.below (Nat.le_refl _) hbc)
    clear He_3 Hbb_3 Hbox_3 Hxs_3 Hqv_3
    obtain ⟨_, z0, z1, z2⟩ := Hbox_4.out
    go_wp2_with fail
    clear z0 z1 z2
    refine (evAwake_any _).mono ?_
    rintro e y5 ⟨rfl, hbc⟩
    dsimp only
    have He_5 := Lib.hid (SlAt.mono He_4.out (Nat.le_refl _) hbc)
    have Hbb_5 := Lib.hid (Hbb_4.out.trans (hbc.mono Hbb_4.out.size))
    have Hbox_5 := Lib.hid (Hbox_4.out.below hbc)
    have Hxs_5 := Lib.hid (Hxs_4.out.below (Nat.le_refl _) hbc)
    clear He_4 Hbb_4 Hbox_4 Hxs_4
    go_wp2
    go_ret
    exact ⟨rfl, Hbb_5.out⟩
  · have hck := ckV_ok Hbz.out Huv.out.2.1
    have HLo := Lib.hid (fun W hW hq => HLe.out W qv cv uv hW hq (fun s hs => by have := Hv30.out s hs; omega) hck)
    clear hck
    obtain ⟨_, z0, z1, z2⟩ := Hbox_2.out
    go_wp2_with fail
    clear z0 z1 z2
    refine (HLo.out _ He_2.out Hqv.out).mono ?_
    rintro e y3 ⟨ul, ql, cl, hle, hld, hne, hD, rfl, hql, hbc⟩
    dsimp only
    have He_3 := Lib.hid (SlAt.mono He_2.out (Nat.le_refl _) hbc)
    have Hbb_3 := Lib.hid (Hbb_2.out.trans (hbc.mono Hbb_2.out.size))
    have Hbox_3 := Lib.hid (Hbox_2.out.below hbc)
    have Hxs_3 := Lib.hid (Hxs_2.out.below (Nat.le_refl _) hbc)
    have Hqv_3 := Lib.hid (Hqv.out.below (Nat.le_refl _) hbc)
    clear He_2 Hbb_2 Hbox_2 Hxs_2 Hqv
    have Hql_3 := Lib.hid (hql)
    have Hle := Lib.hid hle
    have Hld := Lib.hid hld
    have Hne := Lib.hid hne
    have HD := Lib.hid hD
    have hl30 : ∀ s, s < N → 0 ≤ ul s ∧ ul s ≤ 30 := fun s hs => ⟨(hld s hs).1, by have := hle s hs; have := Hv30.out s hs; omega⟩
    have Hl30 := Lib.hid hl30
    clear hql hle hld hne hD hl30 hbc
    have HZz := Lib.hid (HZe.out _ qv cv uv Hqv_3.out)
    rw [Hbz.out] at HZz
    obtain ⟨_, z0, z1, z2⟩ := Hbox_3.out
    go_wp2_with fail
    clear z0 z1 z2
    refine (HZz.out).mono ?_
    rintro e y4 ⟨rfl, hbc⟩
    dsimp only
    have He_4 := Lib.hid (SlAt.mono He_3.out (Nat.le_refl _) hbc)
    have Hbb_4 := Lib.hid (Hbb_3.out.trans (hbc.mono Hbb_3.out.size))
    have Hbox_4 := Lib.hid (Hbox_3.out.below hbc)
    have Hxs_4 := Lib.hid (Hxs_3.out.below (Nat.le_refl _) hbc)
    have Hqv_4 := Lib.hid (Hqv_3.out.below (Nat.le_refl _) hbc)
    have Hql_4 := Lib.hid (Hql_3.out.below (Nat.le_refl _) hbc)
    clear He_3 Hbb_3 Hbox_3 Hxs_3 Hqv_3 Hql_3
    have HCc := Lib.hid (HCk.out _ ql cl ul He_4.out Hql_4.out (fun s hs => by have := Hl30.out s hs; omega))
    rw [ckV_ok (any_ne Hne.out) Hld.out] at HCc
    obtain ⟨_, z0, z1, z2⟩ := Hbox_4.out
    go_wp2_with fail
    clear z0 z1 z2
    refine (HCc.out).mono ?_
    rintro e y5 ⟨rfl, hbc⟩
    dsimp only
    have He_5 := Lib.hid (SlAt.mono He_4.out (Nat.le_refl _) hbc)
    have Hbb_5 := Lib.hid (Hbb_4.out.trans (hbc.mono Hbb_4.out.size))
    have Hbox_5 := Lib.hid (Hbox_4.out.below hbc)
    have Hxs_5 := Lib.hid (Hxs_4.out.below (Nat.le_refl _) hbc)
    have Hqv_5 := Lib.hid (Hqv_4.out.below (Nat.le_refl _) hbc)
    have Hql_5 := Lib.hid (Hql_4.out.below (Nat.le_refl _) hbc)
    clear He_4 Hbb_4 Hbox_4 Hxs_4 Hqv_4 Hql_4
    have HBl := Lib.hid (HBe.out _ ql cl ul qv cv uv Hql_5.out Hqv_5.out)
    rw [any_le Hle.out] at HBl
    obtain ⟨_, z0, z1, z2⟩ := Hbox_5.out
    go_wp2_with fail
    clear z0 z1 z2
    refine (HBl.out).mono ?_
    rintro e y6 ⟨rfl, hbc⟩
    dsimp only
    have He_6 := Lib.hid (SlAt.mono He_5.out (Nat.le_refl _) hbc)
    have Hbb_6 := Lib.hid (Hbb_5.out.trans (hbc.mono Hbb_5.out.size))
    have Hbox_6 := Lib.hid (Hbox_5.out.below hbc)
    have Hxs_6 := Lib.hid (Hxs_5.out.below (Nat.le_refl _) hbc)
    have Hql_6 := Lib.hid (Hql_5.out.below (Nat.le_refl _) hbc)
    clear He_5 Hbb_5 Hbox_5 Hxs_5 Hqv_5 Hql_5
    obtain ⟨_, z0, z1, z2⟩ := Hbox_6.out
    go_wp2_with fail
    clear z0 z1 z2
    obtain ⟨Y, hY⟩ : ∃ Z, y6 = Z := ⟨_, rfl⟩
    rw [hY] at He_6 Hbb_6 Hbox_6 Hxs_6 Hql_6 ⊢
    clear hY
    have HY : Hid (∀ W, Below Y.heap.size Y W → EdgAt W p n E ∧ VRow W ql N ul ∧ BoxAt3 W g0 (.int .i64 LL) (.int .i64 (N : Int)) (.slice p n c) ∧ Below w.heap.size w W) := Lib.hid (fun W hW => ⟨SlAt.mono He_6.out (Nat.le_refl _) hW, Hql_6.out.below (Nat.le_refl _) hW, Hbox_6.out.below hW, Hbb_6.out.trans (hW.mono Hbb_6.out.size)⟩)
    clear He_6 Hbb_6 Hbox_6 Hxs_6 Hql_6
    have Hw : Hid (Below Y.heap.size Y Y) := Lib.hid (Below.refl _ _)
    go_loopw [74] (fun tv wr => ∃ i : Nat, i ≤ N ∧ tv = .int .i64 (i : Nat) ∧ Hid (Below Y.heap.size Y wr)) (fun tv _ => N - (intOf tv).toNat)
    case atStart => exact ⟨0, by omega, by go_num, Hw⟩
    case round =>
      clear Hw
      obtain ⟨i, hi, rfl, Hw⟩ := hrel
      obtain ⟨hed, hqr, hbx, hbw⟩ := HY.out _ Hw.out
      by_cases hil : i < N
      · have i3 : (i : Int) < (N : Int) := by omega
        have i4 : (0 : Int) ≤ (i : Int) := by omega
        obtain ⟨vb, vo, rfl, _, hvc⟩ := VRow.cells hqr hil
        have y0 := hvc i hil
        have hl30 := Hl30.out i hil
        have Hqr := Lib.hid hqr
        clear hvc hed hbw hqr
        by_cases hz : ul i = 0
        · have hzb : (ul i == 0) = true := by rw [hz]; rfl
          clear hz hbx
          obtain ⟨yv, hyv⟩ : ∃ z, ul i = z := ⟨_, rfl⟩
          rw [hyv] at y0 hl30 hzb
          clear hyv
          go_wp2_with fail
          go_roundw
          case rel => exact ⟨i + 1, by omega, by go_num, Hw⟩
          case measure => simp [intOf]; omega
        · have hzb : (ul i == 0) = false := by rw [beq_eq_false_iff_ne]; exact hz
          have Hzn := Lib.hid hz
          have HClo := Lib.hid (HCl.out wr (some ⟨vb, vo, none⟩) cl ul Hqr.out)
          obtain ⟨yv, hyv⟩ : ∃ z, ul i = z := ⟨_, rfl⟩
          rw [hyv] at y0 hl30 hzb
          have y1 : 1 ≤ yv := by omega
          have hyw : IntKind.i64.wrap (yv - 1) = yv - 1 := IntWalk.i64_in _ (by omega)
          have Hyv := Lib.hid hyv
          clear hz hyv hbx
          go_wp2_with fail
          refine HClo.out.mono ?_
          rintro e W2 ⟨q9, c9, rfl, hq9, hb9⟩
          dsimp only
          rcases hq9 with h | ⟨g9, rfl, hg9, hva⟩
          · omega
          obtain ⟨z0, z1⟩ := hva.2 i hil
          dsimp only at z0
          rw [Hyv.out] at z0
          have hva3 := (hva.set (k := i) (yv - 1)).congr (h := decE ul i) fun k _ => by
            dsimp only [decE]
            by_cases e : k = i
            · rw [if_pos e, if_pos e, e, Hyv.out]
            · rw [if_neg e, if_neg e]
          have hb3 : Below wr.heap.size wr (W2.setCell ⟨g9, i, none⟩ (.int .i64 (yv - 1))) := hb9.setCell (p := ⟨g9, i, none⟩) hg9 _
          have Hva3 := Lib.hid hva3
          have Hb3 := Lib.hid hb3
          clear hva hb9 hva3 hb3 HClo y0 hg9
          go_upto_region 17 with (fail)
          clear z0 z1 hyw
          generalize W2.setCell ⟨g9, i, none⟩ (.int .i64 (yv - 1)) = X at *
          have HwX := Lib.hid (Hw.out.trans (Hb3.out.mono Hw.out.size))
          obtain ⟨hed, _, ⟨_, b0, b1, b2⟩, _⟩ := HY.out _ HwX.out
          have HGx := Lib.hid (HGu.out X _ c9 (decE ul i) hed Hva3.out.row (fun s hs => by
            have := Hl30.out s hs
            unfold decE
            split
            · rename_i e; rw [e, Hyv.out]; rw [e, Hyv.out] at this; omega
            · omega))
          clear hed Hb3 Hw
          go_wp2_with fail
          clear b0 b1 b2
          refine HGx.out.mono ?_
          rintro e W4 ⟨u4, q4, c4, hu4, rfl, hq4, hb4⟩
          dsimp only
          have HwY := Lib.hid (HwX.out.trans (hb4.mono HwX.out.size))
          have HZ4 := Lib.hid (HZe.out W4 q4 c4 u4 hq4.row)
          rw [not_any_zero0 (HD.out i hil Hzn.out u4 hu4)] at HZ4
          clear hu4 hq4 hb4 HGx Hva3 HwX
          go_wp2_with fail
          refine HZ4.out.mono ?_
          rintro e W5 ⟨rfl, hb5⟩
          dsimp only
          have HwZ := Lib.hid (HwY.out.trans (hb5.mono HwY.out.size))
          clear hb5 HZ4 HwY
          go_wp2_with fail
          go_roundw
          case rel => exact ⟨i + 1, by omega, by go_num, HwZ⟩
          case measure => simp [intOf]; omega
      · have i3 : ¬ (i : Int) < (N : Int) := by omega
        have Hbw := Lib.hid hbw
        clear hed hqr hbx hbw
        go_wp2_with fail
        refine (evAwake_any _).mono ?_
        rintro e W9 ⟨rfl, hb9⟩
        dsimp only
        have Hb9 := Lib.hid (Hbw.out.trans (hb9.mono Hbw.out.size))
        clear hb9 Hbw
        go_wp2
        go_ret
        exact ⟨rfl, Hb9.out⟩
end Go.Proofs.Ytlaoijfphkhchaa
