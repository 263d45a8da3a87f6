/- EigenvectorFound: the walk. -/
import Derived.Test.YtlaoijfphkhchaaBEvy
namespace Go.Proofs.Ytlaoijfphkhchaa
open Go.RowKit Go.Shelf
theorem found_low {fr te : Nat → Nat} {n N m : Nat} (hm : 0 < m) (ht : ∀ e, e < n → te e < N) (h0 : 0 < N) {w : Nat → Int} (hw : Hld fr te n N m w) (hne : ∃ s, s < N ∧ w s ≠ 0) :
    ∃ M : Nat, mxV w N = (M : Int) ∧ 1 ≤ M ∧ ∃ u', GrO fr te n N m (fun _ => (M : Int)) u' ∧ ¬ ∀ s, s < N → u' s = 0 := by
  obtain ⟨hle, s1, hs1, he⟩ := mxV_spec w N h0
  obtain ⟨s, hs, hn⟩ := hne
  have h1 := (hw s hs).1
  have h2 := hle s hs
  obtain ⟨M, hM⟩ : ∃ M : Nat, mxV w N = M := ⟨(mxV w N).toNat, by omega⟩
  refine ⟨M, hM, by omega, ?_⟩
  obtain ⟨u', hu⟩ := GrO.exists (fr := fr) (m := m) hm ht _ (fun _ => (M : Int)) (Nat.le_refl _) (fun _ _ => by omega)
  refine ⟨u', hu, fun hz => ?_⟩
  have := hu.2.2 w hw (fun t ht => by rw [← hM]; exact hle t ht) s hs
  rw [hz s hs] at this
  omega
set_option maxRecDepth 100000 in
set_option maxHeartbeats 16000000 in
theorem lawFound (LL S : Int) (n : Nat) (E : Nat → Nat → Int) (p : Option Addr) (c : Nat) (px : Option Addr) (cx : Nat) (xs : List Nat) (mi : Int) (kk : Nat) (w : World) (hE : EdgAt w p n E) (hXxs : ByteAt w px xs) (hxxs : ∀ x ∈ xs, x < 256) (hlxs : xs.length ≤ maxLen) (hkk : kk ≤ 255) :
    Calls Try.prog 7 #[.agg #[.int .i64 LL, .int .i64 S, .slice p n c], .slice px xs.length cx, .int .i64 mi, .int .u8 (kk : Int)] w (RetB true w) := by
  unfold maxLen at hlxs
  obtain ⟨W0, hW0⟩ : ∃ W, w.alloc (.cells #[.int .i64 LL, .int .i64 S, .slice p n c] 24) = W := ⟨_, rfl⟩
  have hb0 : Below w.heap.size w W0 := by rw [← hW0]; exact (Below.refl _ _).alloc (Nat.le_refl _) _
  have hbx : BoxAt3 W0 w.heap.size (.int .i64 LL) (.int .i64 S) (.slice p n c) := by rw [← hW0]; exact BoxAt3.new w _ _ _ _
  have He := Lib.hid (show EdgAt W0 p n E from hE.mono (Nat.le_refl _) hb0)
  have Hxs := Lib.hid (show ByteAt W0 px xs from hXxs.below (Nat.le_refl _) hb0)
  have Hbxs := Lib.hid hxxs
  have HF := Lib.hid (fine23_any LL S n E p c mi W0 He.out)
  have Hbb := Lib.hid hb0
  have Hbox := Lib.hid hbx
  obtain ⟨_, c0, c1, c2⟩ := hbx
  clear hE hb0 hXxs hxxs
  obtain ⟨ff, hff⟩ : ∃ b, fine23 LL S n E mi = b := ⟨_, rfl⟩
  rw [hff] at HF
  cases ff
  · clear hff
    go_enter Try.func7, Try.ntmps7
    go_wp2_with fail
    try rw [hW0]
    refine (HF.out).mono ?_
    rintro e y1 ⟨rfl, hbc⟩
    dsimp only
    have He_1 := Lib.hid (SlAt.mono He.out (Nat.le_refl _) hbc)
    have Hbb_1 := Lib.hid (Hbb.out.trans (hbc.mono Hbb.out.size))
    have Hbox_1 := Lib.hid (Hbox.out.below hbc)
    have Hxs_1 := Lib.hid (Hxs.out.below (Nat.le_refl _) hbc)
    clear He Hbb Hbox Hxs
    clear HF c0 c1 c2 hW0
    obtain ⟨_, z0, z1, z2⟩ := Hbox_1.out
    go_wp2_with fail
    clear z0 z1 z2
    refine (evAwake_any _).mono ?_
    rintro e y2 ⟨rfl, hbc⟩
    dsimp only
    have He_2 := Lib.hid (SlAt.mono He_1.out (Nat.le_refl _) hbc)
    have Hbb_2 := Lib.hid (Hbb_1.out.trans (hbc.mono Hbb_1.out.size))
    have Hbox_2 := Lib.hid (Hbox_1.out.below hbc)
    have Hxs_2 := Lib.hid (Hxs_1.out.below (Nat.le_refl _) hbc)
    clear He_1 Hbb_1 Hbox_1 Hxs_1
    go_wp2
    go_ret
    exact ⟨rfl, Hbb_2.out⟩
  obtain ⟨hg, hS1, hS6, hn, hm1, hm2⟩ := fine23_true hff
  clear hff
  obtain ⟨N, rfl⟩ : ∃ N : Nat, S = N := ⟨S.toNat, by omega⟩
  obtain ⟨m, rfl⟩ : ∃ m : Nat, mi = m := ⟨mi.toNat, by omega⟩
  have h0 : 0 < N := by omega
  have hok : EdOk N n E := by have := gChk_ok hg; simpa using this
  have Hok := Lib.hid hok
  have Hg := Lib.hid hg
  have HVxs := Lib.hid (fun W (hW : ByteAt W px xs) => vector_any LL N n p c xs px cx (by omega) Hbxs.out W hW)
  have hvxs : vChk LL N n E m N (vecB xs) = 0 := vChk_ok hg (by omega) (by omega) rfl (fun k _ => by have := vecB_le xs k; omega)
  have HGxs := Lib.hid (fun W q cq (hW : EdgAt W p n E) (hq : VRow W q N (vecB xs)) => Greatest_ok LL N n m E p c (vecB xs) q cq hvxs W hW hq)
  have HZe := Lib.hid (fun W q cq u (hq : VRow W q N u) => lawZero_any N q cq u (by omega) W hq)
  have nN : ((N : Int) != (N : Int)) = false := by simp
  have Hvb := Lib.hid (fun (u v : Nat → Int) (hv : ∀ s, s < N → v s ≤ 30) (hu : GrO (frE E) (toE E) n N m v u) (s : Nat) (hs : s < N) => show 0 ≤ u s ∧ u s ≤ 30 from ⟨hu.nonneg s hs, Int.le_trans (hu.1 s hs) (hv s hs)⟩)
  have HCk := Lib.hid (fun W q cq u (hW : EdgAt W p n E) (hq : VRow W q N u) (hu : ∀ s, s < N → 0 ≤ u s ∧ u s ≤ 4096) => EvCheck_ok LL N n m E p c u q cq (vChk_of Hg.out (by omega) (by omega) hu) W hW hq)
  obtain ⟨k0, hk0⟩ : ∃ k, kk % 12 = k := ⟨_, rfl⟩
  obtain ⟨K, hK⟩ : ∃ k, k0 + 1 = k := ⟨_, rfl⟩
  have hk1 : 0 < K := by omega
  have hk9 : K ≤ 12 := by omega
  have hkx : ((kk : Int) % 12) = (k0 : Int) := by omega
  have wx : IntKind.i64.wrap (kk : Int) = (kk : Int) := IntWalk.i64_in _ (by omega)
  have wk : IntKind.i64.wrap (k0 : Int) = (k0 : Int) := IntWalk.i64_in _ (by omega)
  have wk1 : IntKind.i64.wrap ((k0 : Int) + 1) = (K : Int) := (IntWalk.i64_in _ (by omega)).trans (by omega)
  have HSr := Lib.hid (fun W (hW : EdgAt W p n E) => Search_ok LL N n m K E p c hg h0 (by omega) (by omega) hk1 (by omega) W hW)
  have HMx := Lib.hid (fun W q cq u (hq : VRow W q N u) => max_any N u q cq h0 (by omega) W hq)
  have Hlow := Lib.hid (fun (w' : Nat → Int) (hw : Hld (frE E) (toE E) n N m w') (hne : ∃ s, s < N ∧ w' s ≠ 0) => found_low (by omega) (fun e he => (edOk_nat Hok.out e he).2.2.2) h0 hw hne)
  clear hk0 hK
  clear hg hok hvxs
  go_enter Try.func7, Try.ntmps7
  go_wp2_with fail
  try rw [hW0]
  refine (HF.out).mono ?_
  rintro e y1 ⟨rfl, hbc⟩
  dsimp only
  have He_1 := Lib.hid (SlAt.mono He.out (Nat.le_refl _) hbc)
  have Hbb_1 := Lib.hid (Hbb.out.trans (hbc.mono Hbb.out.size))
  have Hbox_1 := Lib.hid (Hbox.out.below hbc)
  have Hxs_1 := Lib.hid (Hxs.out.below (Nat.le_refl _) hbc)
  clear He Hbb Hbox Hxs
  clear HF c0 c1 c2 hW0
  obtain ⟨g0, hg0⟩ : ∃ g, w.heap.size = g := ⟨_, rfl⟩
  rw [hg0] at Hbox_1
  try rw [hg0]
  have Hg0 := Lib.hid hg0
  clear hg0
  obtain ⟨_, z0, z1, z2⟩ := Hbox_1.out
  go_wp2_with fail
  clear z0 z1 z2
  refine (HSr.out _ He_1.out).mono ?_
  rintro e Y1 ⟨hbc, hr⟩
  have He_2 := Lib.hid (SlAt.mono He_1.out (Nat.le_refl _) hbc)
  have Hbb_2 := Lib.hid (Hbb_1.out.trans (hbc.mono Hbb_1.out.size))
  have Hbox_2 := Lib.hid (Hbox_1.out.below hbc)
  have Hxs_2 := Lib.hid (Hxs_1.out.below (Nat.le_refl _) hbc)
  clear He_1 Hbb_1 Hbox_1 Hxs_1
  clear HSr hbc hkx wx wk wk1
  rcases hr with ⟨ks, us, qs, cs, hk3, hkl, hus, hns, hmin, rfl, hqs⟩ | ⟨hall, rfl⟩
  · dsimp only
    have Hqs := Lib.hid hqs.row
    have Hus := Lib.hid hus
    have Hns := Lib.hid hns
    have Hmin := Lib.hid hmin
    clear hqs hus hns hmin
    obtain ⟨_, z0, z1, z2⟩ := Hbox_2.out
    go_upto_region 5 with (fail)
    clear z0 z1 z2
    obtain ⟨X, hX⟩ : ∃ Z, Y1 = Z := ⟨_, rfl⟩
    rw [hX] at He_2 Hbb_2 Hbox_2 Hxs_2 Hqs ⊢
    clear hX
    go_upto_region 5 with (fail)
    obtain ⟨SS, hSe⟩ : ∃ SS : World → Prop, SS = fun W => W.cell? ⟨g0, 0, none⟩ = some (.int .i64 LL) ∧ W.cell? ⟨g0, 1, none⟩ = some (.int .i64 (N : Int)) ∧ W.cell? ⟨g0, 2, none⟩ = some (.slice p n c) := ⟨_, rfl⟩
    have HS : Hid (∀ W, Below X.heap.size X W → SS W) := Lib.hid (fun W hW => by
      obtain ⟨_, b0, b1, b2⟩ := Hbox_2.out.below hW
      rw [hSe]; exact ⟨b0, b1, b2⟩)
    have hd : Below X.heap.size X X.drew := (Below.refl _ _).drew
    refine wp_region_held_drew (S := SS) (by kernel_rfl) (HS.out _ hd) (fun hSS => ?_)
    refine wpAnyH_take (i := 0) (v := ?_) rfl (by kernel_rfl) (by kernel_rfl) (by kernel_rfl) (fun _ _ _ h => h) (Or.inl ⟨by rfl, ?_⟩) (HS.out _ hd) ?_
    rotate_left 1
    next => intro w hSw; rw [hSe] at hSw; obtain ⟨s1, s2, s3⟩ := hSw; go_simp; try with_reducible rfl
    try simp only [Act.put, List.getElem_toArray, List.getElem_cons_zero, List.getElem_cons_succ, List.setIfInBounds_toArray, List.set_cons_zero, List.set_cons_succ]
    refine wpAnyH_take (i := 1) (v := ?_) rfl (by kernel_rfl) (by kernel_rfl) (by kernel_rfl) (fun _ _ _ h => h) (Or.inl ⟨by rfl, ?_⟩) (HS.out _ hd) ?_
    rotate_left 1
    next => intro w hSw; rw [hSe] at hSw; obtain ⟨s1, s2, s3⟩ := hSw; go_simp; try with_reducible rfl
    try simp only [Act.put, List.getElem_toArray, List.getElem_cons_zero, List.getElem_cons_succ, List.setIfInBounds_toArray, List.set_cons_zero, List.set_cons_succ]
    refine wpAnyH_take (i := 2) (v := ?_) rfl (by kernel_rfl) (by kernel_rfl) (by kernel_rfl) (fun _ _ _ h => h) (Or.inl ⟨by rfl, ?_⟩) (HS.out _ hd) ?_
    rotate_left 1
    next => intro w hSw; rw [hSe] at hSw; obtain ⟨s1, s2, s3⟩ := hSw; go_simp; try with_reducible rfl
    try simp only [Act.put, List.getElem_toArray, List.getElem_cons_zero, List.getElem_cons_succ, List.setIfInBounds_toArray, List.set_cons_zero, List.set_cons_succ]
    refine wpAnyH_take (i := 4) (v := ?_) rfl (by kernel_rfl) (by kernel_rfl) (by kernel_rfl) (fun _ _ _ h => h) (Or.inl ⟨by rfl, ?_⟩) (HS.out _ hd) ?_
    rotate_left 1
    next => intro w hSw; rw [hSe] at hSw; obtain ⟨s1, s2, s3⟩ := hSw; go_simp; try with_reducible rfl
    try simp only [Act.put, List.getElem_toArray, List.getElem_cons_zero, List.getElem_cons_succ, List.setIfInBounds_toArray, List.set_cons_zero, List.set_cons_succ]
    try simp only [Act.put, List.getElem_toArray, List.getElem_cons_zero, List.getElem_cons_succ, List.setIfInBounds_toArray, List.set_cons_zero, List.set_cons_succ]
    refine wpAnyH_ready (rs := [3]) (by kernel_rfl) (by simp) ?_
    refine AllReadyH.cons rfl (fun K hK => ?_) AllReadyH.nil
    go_simp
    refine (HVxs.out _ (Hxs_2.out.below (Nat.le_refl _) hd)).mono ?_
    rintro e w3 ⟨g1, rfl, hz1, _, hbc⟩
    have hb3 : Below X.heap.size X w3 := hd.trans (hbc.mono hd.size)
    dsimp only
    refine hK.out _ _ (HS.out _ hb3) (fun _ => ?_)
    clear hK K hbc
    try simp only [Act.put, List.getElem_toArray, List.getElem_cons_zero, List.getElem_cons_succ, List.setIfInBounds_toArray, List.set_cons_zero, List.set_cons_succ]
    refine wpAnyH_ready (rs := [5]) (by kernel_rfl) (by simp) ?_
    refine AllReadyH.cons rfl (fun K hK => ?_) AllReadyH.nil
    go_simp
    refine (HGxs.out _ _ N (SlAt.mono He_2.out (Nat.le_refl _) hb3) hz1.row).mono ?_
    rintro e w4 ⟨uv, qv, cv, hu, rfl, hq, hbc⟩
    have hb4 : Below X.heap.size X w4 := hb3.trans (hbc.mono hb3.size)
    dsimp only
    refine hK.out _ _ (HS.out _ hb4) (fun _ => ?_)
    clear hK K hbc
    refine wpAnyH_take (i := 6) (v := ?_) rfl (by kernel_rfl) (by kernel_rfl) (by kernel_rfl) (fun _ _ _ h => h) (Or.inl ⟨by rfl, ?_⟩) (HS.out _ hb4) ?_
    rotate_left 1
    next => intro w hSw; rw [hSe] at hSw; obtain ⟨s1, s2, s3⟩ := hSw; go_simp; try with_reducible rfl
    try simp only [Act.put, List.getElem_toArray, List.getElem_cons_zero, List.getElem_cons_succ, List.setIfInBounds_toArray, List.set_cons_zero, List.set_cons_succ]
    refine wpAnyH_take (i := 7) (v := ?_) rfl (by kernel_rfl) (by kernel_rfl) (by kernel_rfl) (fun _ _ _ h => h) (Or.inl ⟨by rfl, ?_⟩) (HS.out _ hb4) ?_
    rotate_left 1
    next => intro w hSw; rw [hSe] at hSw; obtain ⟨s1, s2, s3⟩ := hSw; go_simp; try with_reducible rfl
    try simp only [Act.put, List.getElem_toArray, List.getElem_cons_zero, List.getElem_cons_succ, List.setIfInBounds_toArray, List.set_cons_zero, List.set_cons_succ]
    refine wpAnyH_take (i := 8) (v := ?_) rfl (by kernel_rfl) (by kernel_rfl) (by kernel_rfl) (fun _ _ _ h => h) (Or.inl ⟨by rfl, ?_⟩) (HS.out _ hb4) ?_
    rotate_left 1
    next => intro w hSw; rw [hSe] at hSw; obtain ⟨s1, s2, s3⟩ := hSw; go_simp; try with_reducible rfl
    try simp only [Act.put, List.getElem_toArray, List.getElem_cons_zero, List.getElem_cons_succ, List.setIfInBounds_toArray, List.set_cons_zero, List.set_cons_succ]
    refine wpAnyH_take (i := 9) (v := ?_) rfl (by kernel_rfl) (by kernel_rfl) (by kernel_rfl) (fun _ _ _ h => h) (Or.inl ⟨by rfl, ?_⟩) (HS.out _ hb4) ?_
    rotate_left 1
    next => intro w hSw; rw [hSe] at hSw; obtain ⟨s1, s2, s3⟩ := hSw; go_simp; try with_reducible rfl
    try simp only [Act.put, List.getElem_toArray, List.getElem_cons_zero, List.getElem_cons_succ, List.setIfInBounds_toArray, List.set_cons_zero, List.set_cons_succ]
    refine wpAnyH_take (i := 10) (v := ?_) rfl (by kernel_rfl) (by kernel_rfl) (by kernel_rfl) (fun _ _ _ h => h) (Or.inl ⟨by rfl, ?_⟩) (HS.out _ hb4) ?_
    rotate_left 1
    next => intro w hSw; rw [hSe] at hSw; obtain ⟨s1, s2, s3⟩ := hSw; go_simp; try with_reducible rfl
    try simp only [Act.put, List.getElem_toArray, List.getElem_cons_zero, List.getElem_cons_succ, List.setIfInBounds_toArray, List.set_cons_zero, List.set_cons_succ]
    refine wpAnyH_done (by kernel_rfl) ?_ _
    have hbc := hb4
    have Huv := Lib.hid hu
    have Hqv := Lib.hid hq.row
    have He_3 := Lib.hid (SlAt.mono He_2.out (Nat.le_refl _) hbc)
    have Hbb_3 := Lib.hid (Hbb_2.out.trans (hbc.mono Hbb_2.out.size))
    have Hbox_3 := Lib.hid (Hbox_2.out.below hbc)
    have Hxs_3 := Lib.hid (Hxs_2.out.below (Nat.le_refl _) hbc)
    have Hqs_3 := Lib.hid (Hqs.out.below (Nat.le_refl _) hbc)
    clear He_2 Hbb_2 Hbox_2 Hxs_2 Hqs
    clear hbc hu hq hz1 HS hSe hSS hd hb4
    obtain ⟨bz, hbz⟩ : ∃ b, anyN (fun k => uv k != 0) N = b := ⟨_, rfl⟩
    have Hbz := Lib.hid hbz
    clear hbz
    have hus9 := Hus.out
    have hcks : ∀ s, s < N → 0 ≤ us s ∧ us s ≤ 4096 := fun s hs => ⟨hus9.nonneg s hs, by have h9 : us s ≤ (ks : Int) := hus9.1 s hs; omega⟩
    have Hcks := Lib.hid hcks
    have hnes : ∃ s, s < N ∧ us s ≠ 0 := Classical.byContradiction fun hn => Hns.out fun s hs => Classical.byContradiction fun h => hn ⟨s, hs, h⟩
    have Hnes := Lib.hid hnes
    obtain ⟨hmle, sm, hsm, hme⟩ := mxV_spec us N h0
    have hms : mxV us N ≤ (ks : Int) := by rw [← hme]; exact hus9.1 sm hsm
    clear hus9 hcks hnes hmle hsm hme sm
    obtain ⟨mx, hmxe⟩ : ∃ z, mxV us N = z := ⟨_, rfl⟩
    rw [hmxe] at hms
    have Hmxe := Lib.hid hmxe
    have hmK : mx ≤ (K : Int) := by omega
    clear hmxe
    have HMs := Lib.hid (fun W (hq : VRow W qs N us) => HMx.out W qs cs us hq)
    rw [Hmxe.out] at HMs
    have HCc := Lib.hid (HCk.out _ qs cs us He_3.out Hqs_3.out Hcks.out)
    rw [ckV_ok (any_ne Hnes.out) Hus.out.2.1] at HCc
    cases bz
    · obtain ⟨_, z0, z1, z2⟩ := Hbox_3.out
      go_wp2_with fail
      clear z0 z1 z2
      refine (HCc.out).mono ?_
      rintro e y4 ⟨rfl, hbc⟩
      dsimp only
      have He_4 := Lib.hid (SlAt.mono He_3.out (Nat.le_refl _) hbc)
      have Hbb_4 := Lib.hid (Hbb_3.out.trans (hbc.mono Hbb_3.out.size))
      have Hbox_4 := Lib.hid (Hbox_3.out.below hbc)
      have Hxs_4 := Lib.hid (Hxs_3.out.below (Nat.le_refl _) hbc)
      have Hqs_4 := Lib.hid (Hqs_3.out.below (Nat.le_refl _) hbc)
      have Hqv_4 := Lib.hid (Hqv.out.below (Nat.le_refl _) hbc)
      clear He_3 Hbb_3 Hbox_3 Hxs_3 Hqs_3 Hqv
      obtain ⟨_, z0, z1, z2⟩ := Hbox_4.out
      go_wp2_with fail
      clear z0 z1 z2
      refine (HMs.out _ Hqs_4.out).mono ?_
      rintro e v8 ⟨rfl, rfl⟩
      dsimp only
      have HZz := Lib.hid (HZe.out _ qv cv uv Hqv_4.out)
      rw [Hbz.out] at HZz
      obtain ⟨_, z0, z1, z2⟩ := Hbox_4.out
      go_wp2_with fail
      clear z0 z1 z2
      refine (HZz.out).mono ?_
      rintro e y5 ⟨rfl, hbc⟩
      dsimp only
      have He_5 := Lib.hid (SlAt.mono He_4.out (Nat.le_refl _) hbc)
      have Hbb_5 := Lib.hid (Hbb_4.out.trans (hbc.mono Hbb_4.out.size))
      have Hbox_5 := Lib.hid (Hbox_4.out.below hbc)
      have Hxs_5 := Lib.hid (Hxs_4.out.below (Nat.le_refl _) hbc)
      have Hqs_5 := Lib.hid (Hqs_4.out.below (Nat.le_refl _) hbc)
      clear He_4 Hbb_4 Hbox_4 Hxs_4 Hqs_4 Hqv_4
      obtain ⟨_, z0, z1, z2⟩ := Hbox_5.out
      go_wp2_with fail
      clear z0 z1 z2
      refine (evAwake_any _).mono ?_
      rintro e y6 ⟨rfl, hbc⟩
      dsimp only
      have He_6 := Lib.hid (SlAt.mono He_5.out (Nat.le_refl _) hbc)
      have Hbb_6 := Lib.hid (Hbb_5.out.trans (hbc.mono Hbb_5.out.size))
      have Hbox_6 := Lib.hid (Hbox_5.out.below hbc)
      have Hxs_6 := Lib.hid (Hxs_5.out.below (Nat.le_refl _) hbc)
      have Hqs_6 := Lib.hid (Hqs_5.out.below (Nat.le_refl _) hbc)
      clear He_5 Hbb_5 Hbox_5 Hxs_5 Hqs_5
      go_wp2
      go_ret
      exact ⟨rfl, Hbb_6.out⟩
    · have hne : ∃ s, s < N ∧ uv s ≠ 0 := by
        obtain ⟨s, hs, h⟩ := anyN_true.1 Hbz.out
        exact ⟨s, hs, by simpa using h⟩
      obtain ⟨M, hM, hM1, u', hu', hnz⟩ := Hlow.out uv Huv.out.2.1 hne
      have hMK : ¬ M < ks := fun h => hnz (Hmin.out M hM1 h u' hu')
      have hmx : mx ≤ mxV uv N := by rw [hM]; omega
      clear hne hM hM1 hu' hnz hMK u'
      obtain ⟨mw, hmwe⟩ : ∃ z, mxV uv N = z := ⟨_, rfl⟩
      have HMm := Lib.hid (fun W (hq : VRow W qv N uv) => HMx.out W qv cv uv hq)
      rw [hmwe] at hmx HMm
      clear hmwe
      obtain ⟨_, z0, z1, z2⟩ := Hbox_3.out
      go_wp2_with fail
      clear z0 z1 z2
      refine (HCc.out).mono ?_
      rintro e y4 ⟨rfl, hbc⟩
      dsimp only
      have He_4 := Lib.hid (SlAt.mono He_3.out (Nat.le_refl _) hbc)
      have Hbb_4 := Lib.hid (Hbb_3.out.trans (hbc.mono Hbb_3.out.size))
      have Hbox_4 := Lib.hid (Hbox_3.out.below hbc)
      have Hxs_4 := Lib.hid (Hxs_3.out.below (Nat.le_refl _) hbc)
      have Hqs_4 := Lib.hid (Hqs_3.out.below (Nat.le_refl _) hbc)
      have Hqv_4 := Lib.hid (Hqv.out.below (Nat.le_refl _) hbc)
      clear He_3 Hbb_3 Hbox_3 Hxs_3 Hqs_3 Hqv
      obtain ⟨_, z0, z1, z2⟩ := Hbox_4.out
      go_wp2_with fail
      clear z0 z1 z2
      refine (HMs.out _ Hqs_4.out).mono ?_
      rintro e v8 ⟨rfl, rfl⟩
      dsimp only
      have HZz := Lib.hid (HZe.out _ qv cv uv Hqv_4.out)
      rw [Hbz.out] at HZz
      obtain ⟨_, z0, z1, z2⟩ := Hbox_4.out
      go_wp2_with fail
      clear z0 z1 z2
      refine (HZz.out).mono ?_
      rintro e y5 ⟨rfl, hbc⟩
      dsimp only
      have He_5 := Lib.hid (SlAt.mono He_4.out (Nat.le_refl _) hbc)
      have Hbb_5 := Lib.hid (Hbb_4.out.trans (hbc.mono Hbb_4.out.size))
      have Hbox_5 := Lib.hid (Hbox_4.out.below hbc)
      have Hxs_5 := Lib.hid (Hxs_4.out.below (Nat.le_refl _) hbc)
      have Hqs_5 := Lib.hid (Hqs_4.out.below (Nat.le_refl _) hbc)
      have Hqv_5 := Lib.hid (Hqv_4.out.below (Nat.le_refl _) hbc)
      clear He_4 Hbb_4 Hbox_4 Hxs_4 Hqs_4 Hqv_4
      obtain ⟨_, z0, z1, z2⟩ := Hbox_5.out
      go_wp2_with fail
      clear z0 z1 z2
      refine (HMm.out _ Hqv_5.out).mono ?_
      rintro e v9 ⟨rfl, rfl⟩
      dsimp only
      obtain ⟨_, z0, z1, z2⟩ := Hbox_5.out
      go_wp2_with fail
      clear z0 z1 z2
      refine (HMs.out _ Hqs_5.out).mono ?_
      rintro e v7 ⟨rfl, rfl⟩
      dsimp only
      obtain ⟨_, z0, z1, z2⟩ := Hbox_5.out
      go_wp2_with fail
      clear z0 z1 z2
      refine (evAwake_any _).mono ?_
      rintro e y6 ⟨rfl, hbc⟩
      dsimp only
      have He_6 := Lib.hid (SlAt.mono He_5.out (Nat.le_refl _) hbc)
      have Hbb_6 := Lib.hid (Hbb_5.out.trans (hbc.mono Hbb_5.out.size))
      have Hbox_6 := Lib.hid (Hbox_5.out.below hbc)
      have Hxs_6 := Lib.hid (Hxs_5.out.below (Nat.le_refl _) hbc)
      have Hqs_6 := Lib.hid (Hqs_5.out.below (Nat.le_refl _) hbc)
      have Hqv_6 := Lib.hid (Hqv_5.out.below (Nat.le_refl _) hbc)
      clear He_5 Hbb_5 Hbox_5 Hxs_5 Hqs_5 Hqv_5
      go_wp2
      go_ret
      exact ⟨rfl, Hbb_6.out⟩
  · dsimp only
    have Hall := Lib.hid hall
    clear hall
    obtain ⟨_, z0, z1, z2⟩ := Hbox_2.out
    go_upto_region 5 with (fail)
    clear z0 z1 z2
    obtain ⟨X, hX⟩ : ∃ Z, Y1 = Z := ⟨_, rfl⟩
    rw [hX] at He_2 Hbb_2 Hbox_2 Hxs_2 ⊢
    clear hX
    go_upto_region 5 with (fail)
    obtain ⟨SS, hSe⟩ : ∃ SS : World → Prop, SS = fun W => W.cell? ⟨g0, 0, none⟩ = some (.int .i64 LL) ∧ W.cell? ⟨g0, 1, none⟩ = some (.int .i64 (N : Int)) ∧ W.cell? ⟨g0, 2, none⟩ = some (.slice p n c) := ⟨_, rfl⟩
    have HS : Hid (∀ W, Below X.heap.size X W → SS W) := Lib.hid (fun W hW => by
      obtain ⟨_, b0, b1, b2⟩ := Hbox_2.out.below hW
      rw [hSe]; exact ⟨b0, b1, b2⟩)
    have hd : Below X.heap.size X X.drew := (Below.refl _ _).drew
    refine wp_region_held_drew (S := SS) (by kernel_rfl) (HS.out _ hd) (fun hSS => ?_)
    refine wpAnyH_take (i := 0) (v := ?_) rfl (by kernel_rfl) (by kernel_rfl) (by kernel_rfl) (fun _ _ _ h => h) (Or.inl ⟨by rfl, ?_⟩) (HS.out _ hd) ?_
    rotate_left 1
    next => intro w hSw; rw [hSe] at hSw; obtain ⟨s1, s2, s3⟩ := hSw; go_simp; try with_reducible rfl
    try simp only [Act.put, List.getElem_toArray, List.getElem_cons_zero, List.getElem_cons_succ, List.setIfInBounds_toArray, List.set_cons_zero, List.set_cons_succ]
    refine wpAnyH_take (i := 1) (v := ?_) rfl (by kernel_rfl) (by kernel_rfl) (by kernel_rfl) (fun _ _ _ h => h) (Or.inl ⟨by rfl, ?_⟩) (HS.out _ hd) ?_
    rotate_left 1
    next => intro w hSw; rw [hSe] at hSw; obtain ⟨s1, s2, s3⟩ := hSw; go_simp; try with_reducible rfl
    try simp only [Act.put, List.getElem_toArray, List.getElem_cons_zero, List.getElem_cons_succ, List.setIfInBounds_toArray, List.set_cons_zero, List.set_cons_succ]
    refine wpAnyH_take (i := 2) (v := ?_) rfl (by kernel_rfl) (by kernel_rfl) (by kernel_rfl) (fun _ _ _ h => h) (Or.inl ⟨by rfl, ?_⟩) (HS.out _ hd) ?_
    rotate_left 1
    next => intro w hSw; rw [hSe] at hSw; obtain ⟨s1, s2, s3⟩ := hSw; go_simp; try with_reducible rfl
    try simp only [Act.put, List.getElem_toArray, List.getElem_cons_zero, List.getElem_cons_succ, List.setIfInBounds_toArray, List.set_cons_zero, List.set_cons_succ]
    refine wpAnyH_take (i := 4) (v := ?_) rfl (by kernel_rfl) (by kernel_rfl) (by kernel_rfl) (fun _ _ _ h => h) (Or.inl ⟨by rfl, ?_⟩) (HS.out _ hd) ?_
    rotate_left 1
    next => intro w hSw; rw [hSe] at hSw; obtain ⟨s1, s2, s3⟩ := hSw; go_simp; try with_reducible rfl
    try simp only [Act.put, List.getElem_toArray, List.getElem_cons_zero, List.getElem_cons_succ, List.setIfInBounds_toArray, List.set_cons_zero, List.set_cons_succ]
    try simp only [Act.put, List.getElem_toArray, List.getElem_cons_zero, List.getElem_cons_succ, List.setIfInBounds_toArray, List.set_cons_zero, List.set_cons_succ]
    refine wpAnyH_ready (rs := [3]) (by kernel_rfl) (by simp) ?_
    refine AllReadyH.cons rfl (fun K hK => ?_) AllReadyH.nil
    go_simp
    refine (HVxs.out _ (Hxs_2.out.below (Nat.le_refl _) hd)).mono ?_
    rintro e w1 ⟨g1, rfl, hz1, _, hbc⟩
    have hb1 : Below X.heap.size X w1 := hd.trans (hbc.mono hd.size)
    dsimp only
    refine hK.out _ _ (HS.out _ hb1) (fun _ => ?_)
    clear hK K hbc
    try simp only [Act.put, List.getElem_toArray, List.getElem_cons_zero, List.getElem_cons_succ, List.setIfInBounds_toArray, List.set_cons_zero, List.set_cons_succ]
    refine wpAnyH_ready (rs := [5]) (by kernel_rfl) (by simp) ?_
    refine AllReadyH.cons rfl (fun K hK => ?_) AllReadyH.nil
    go_simp
    refine (HGxs.out _ _ N (SlAt.mono He_2.out (Nat.le_refl _) hb1) hz1.row).mono ?_
    rintro e w2 ⟨uv, qv, cv, hu, rfl, hq, hbc⟩
    have hb2 : Below X.heap.size X w2 := hb1.trans (hbc.mono hb1.size)
    dsimp only
    refine hK.out _ _ (HS.out _ hb2) (fun _ => ?_)
    clear hK K hbc
    refine wpAnyH_take (i := 6) (v := ?_) rfl (by kernel_rfl) (by kernel_rfl) (by kernel_rfl) (fun _ _ _ h => h) (Or.inl ⟨by rfl, ?_⟩) (HS.out _ hb2) ?_
    rotate_left 1
    next => intro w hSw; rw [hSe] at hSw; obtain ⟨s1, s2, s3⟩ := hSw; go_simp; try with_reducible rfl
    try simp only [Act.put, List.getElem_toArray, List.getElem_cons_zero, List.getElem_cons_succ, List.setIfInBounds_toArray, List.set_cons_zero, List.set_cons_succ]
    refine wpAnyH_take (i := 7) (v := ?_) rfl (by kernel_rfl) (by kernel_rfl) (by kernel_rfl) (fun _ _ _ h => h) (Or.inl ⟨by rfl, ?_⟩) (HS.out _ hb2) ?_
    rotate_left 1
    next => intro w hSw; rw [hSe] at hSw; obtain ⟨s1, s2, s3⟩ := hSw; go_simp; try with_reducible rfl
    try simp only [Act.put, List.getElem_toArray, List.getElem_cons_zero, List.getElem_cons_succ, List.setIfInBounds_toArray, List.set_cons_zero, List.set_cons_succ]
    refine wpAnyH_take (i := 8) (v := ?_) rfl (by kernel_rfl) (by kernel_rfl) (by kernel_rfl) (fun _ _ _ h => h) (Or.inl ⟨by rfl, ?_⟩) (HS.out _ hb2) ?_
    rotate_left 1
    next => intro w hSw; rw [hSe] at hSw; obtain ⟨s1, s2, s3⟩ := hSw; go_simp; try with_reducible rfl
    try simp only [Act.put, List.getElem_toArray, List.getElem_cons_zero, List.getElem_cons_succ, List.setIfInBounds_toArray, List.set_cons_zero, List.set_cons_succ]
    refine wpAnyH_take (i := 9) (v := ?_) rfl (by kernel_rfl) (by kernel_rfl) (by kernel_rfl) (fun _ _ _ h => h) (Or.inl ⟨by rfl, ?_⟩) (HS.out _ hb2) ?_
    rotate_left 1
    next => intro w hSw; rw [hSe] at hSw; obtain ⟨s1, s2, s3⟩ := hSw; go_simp; try with_reducible rfl
    try simp only [Act.put, List.getElem_toArray, List.getElem_cons_zero, List.getElem_cons_succ, List.setIfInBounds_toArray, List.set_cons_zero, List.set_cons_succ]
    refine wpAnyH_take (i := 10) (v := ?_) rfl (by kernel_rfl) (by kernel_rfl) (by kernel_rfl) (fun _ _ _ h => h) (Or.inl ⟨by rfl, ?_⟩) (HS.out _ hb2) ?_
    rotate_left 1
    next => intro w hSw; rw [hSe] at hSw; obtain ⟨s1, s2, s3⟩ := hSw; go_simp; try with_reducible rfl
    try simp only [Act.put, List.getElem_toArray, List.getElem_cons_zero, List.getElem_cons_succ, List.setIfInBounds_toArray, List.set_cons_zero, List.set_cons_succ]
    refine wpAnyH_done (by kernel_rfl) ?_ _
    have hbc := hb2
    have Huv := Lib.hid hu
    have Hqv := Lib.hid hq.row
    have He_3 := Lib.hid (SlAt.mono He_2.out (Nat.le_refl _) hbc)
    have Hbb_3 := Lib.hid (Hbb_2.out.trans (hbc.mono Hbb_2.out.size))
    have Hbox_3 := Lib.hid (Hbox_2.out.below hbc)
    have Hxs_3 := Lib.hid (Hxs_2.out.below (Nat.le_refl _) hbc)
    clear He_2 Hbb_2 Hbox_2 Hxs_2
    clear hbc hu hq hz1 HS hSe hSS hd hb2
    obtain ⟨bz, hbz⟩ : ∃ b, anyN (fun k => uv k != 0) N = b := ⟨_, rfl⟩
    have Hbz := Lib.hid hbz
    clear hbz
    cases bz
    · have HZz := Lib.hid (HZe.out _ qv cv uv Hqv.out)
      rw [Hbz.out] at HZz
      obtain ⟨_, z0, z1, z2⟩ := Hbox_3.out
      go_wp2_with fail
      clear z0 z1 z2
      refine (HZz.out).mono ?_
      rintro e y4 ⟨rfl, hbc⟩
      dsimp only
      have He_4 := Lib.hid (SlAt.mono He_3.out (Nat.le_refl _) hbc)
      have Hbb_4 := Lib.hid (Hbb_3.out.trans (hbc.mono Hbb_3.out.size))
      have Hbox_4 := Lib.hid (Hbox_3.out.below hbc)
      have Hxs_4 := Lib.hid (Hxs_3.out.below (Nat.le_refl _) hbc)
      clear He_3 Hbb_3 Hbox_3 Hxs_3 Hqv
      obtain ⟨_, z0, z1, z2⟩ := Hbox_4.out
      go_wp2_with fail
      clear z0 z1 z2
      refine (evAwake_any _).mono ?_
      rintro e y5 ⟨rfl, hbc⟩
      dsimp only
      have He_5 := Lib.hid (SlAt.mono He_4.out (Nat.le_refl _) hbc)
      have Hbb_5 := Lib.hid (Hbb_4.out.trans (hbc.mono Hbb_4.out.size))
      have Hbox_5 := Lib.hid (Hbox_4.out.below hbc)
      have Hxs_5 := Lib.hid (Hxs_4.out.below (Nat.le_refl _) hbc)
      clear He_4 Hbb_4 Hbox_4 Hxs_4
      go_wp2
      go_ret
      exact ⟨rfl, Hbb_5.out⟩
    · have hne : ∃ s, s < N ∧ uv s ≠ 0 := by
        obtain ⟨s, hs, h⟩ := anyN_true.1 Hbz.out
        exact ⟨s, hs, by simpa using h⟩
      obtain ⟨M, hM, hM1, u', hu', hnz⟩ := Hlow.out uv Huv.out.2.1 hne
      have hMK : ¬ M ≤ K := fun h => hnz (Hall.out M hM1 h u' hu')
      have hmx : (K : Int) < mxV uv N := by rw [hM]; omega
      clear hne hM hM1 hu' hnz hMK u'
      obtain ⟨mx, hmxe⟩ : ∃ z, mxV uv N = z := ⟨_, rfl⟩
      have HMm := Lib.hid (fun W (hq : VRow W qv N uv) => HMx.out W qv cv uv hq)
      rw [hmxe] at hmx HMm
      clear hmxe
      have HZz := Lib.hid (HZe.out _ qv cv uv Hqv.out)
      rw [Hbz.out] at HZz
      obtain ⟨_, z0, z1, z2⟩ := Hbox_3.out
      go_wp2_with fail
      clear z0 z1 z2
      refine (HZz.out).mono ?_
      rintro e y4 ⟨rfl, hbc⟩
      dsimp only
      have He_4 := Lib.hid (SlAt.mono He_3.out (Nat.le_refl _) hbc)
      have Hbb_4 := Lib.hid (Hbb_3.out.trans (hbc.mono Hbb_3.out.size))
      have Hbox_4 := Lib.hid (Hbox_3.out.below hbc)
      have Hxs_4 := Lib.hid (Hxs_3.out.below (Nat.le_refl _) hbc)
      have Hqv_4 := Lib.hid (Hqv.out.below (Nat.le_refl _) hbc)
      clear He_3 Hbb_3 Hbox_3 Hxs_3 Hqv
      obtain ⟨_, z0, z1, z2⟩ := Hbox_4.out
      go_wp2_with fail
      clear z0 z1 z2
      refine (HMm.out _ Hqv_4.out).mono ?_
      rintro e v9 ⟨rfl, rfl⟩
      dsimp only
      obtain ⟨_, z0, z1, z2⟩ := Hbox_4.out
      go_wp2_with fail
      clear z0 z1 z2
      refine (evAwake_any _).mono ?_
      rintro e y5 ⟨rfl, hbc⟩
      dsimp only
      have He_5 := Lib.hid (SlAt.mono He_4.out (Nat.le_refl _) hbc)
      have Hbb_5 := Lib.hid (Hbb_4.out.trans (hbc.mono Hbb_4.out.size))
      have Hbox_5 := Lib.hid (Hbox_4.out.below hbc)
      have Hxs_5 := Lib.hid (Hxs_4.out.below (Nat.le_refl _) hbc)
      have Hqv_5 := Lib.hid (Hqv_4.out.below (Nat.le_refl _) hbc)
      clear He_4 Hbb_4 Hbox_4 Hxs_4 Hqv_4
      go_wp2
      go_ret
      exact ⟨rfl, Hbb_5.out⟩
end Go.Proofs.Ytlaoijfphkhchaa
