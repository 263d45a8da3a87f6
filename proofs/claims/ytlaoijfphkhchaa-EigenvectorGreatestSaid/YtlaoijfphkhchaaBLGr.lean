/- EigenvectorGreatest: the walk. -/
import Derived.Test.YtlaoijfphkhchaaBEvy
import Derived.Test.YtlaoijfphkhchaaBEvb
namespace Go.Proofs.Ytlaoijfphkhchaa
open Go.RowKit Go.Shelf
theorem maxI0 {P : Program} (ts : Array TypeId) (t : TypeId) (w : World) : (Builtin.max_ ts t #[.int .i64 0, .int .i64 0]).run P w = .ok (.int .i64 0) w := rfl
theorem any_same {f g : Nat → Int} {N : Nat} (h : ∀ s, s < N → f s = g s) : (!anyN (fun k => f k != g k) N) = true := by
  rw [anyN_false.2 fun k hk => by rw [h k hk]; simp]; rfl
set_option maxRecDepth 100000 in
set_option maxHeartbeats 16000000 in
theorem lawGreatest (LL S : Int) (n : Nat) (E : Nat → Nat → Int) (p : Option Addr) (c : Nat) (px : Option Addr) (cx : Nat) (xs : List Nat) (py : Option Addr) (cy : Nat) (ys : List Nat) (mi : Int) (w : World) (hE : EdgAt w p n E) (hXxs : ByteAt w px xs) (hxxs : ∀ x ∈ xs, x < 256) (hlxs : xs.length ≤ maxLen) (hXys : ByteAt w py ys) (hxys : ∀ x ∈ ys, x < 256) (hlys : ys.length ≤ maxLen) :
    Calls Try.prog 4 #[.agg #[.int .i64 LL, .int .i64 S, .slice p n c], .slice px xs.length cx, .slice py ys.length cy, .int .i64 mi] w (RetB true w) := by
  unfold maxLen at hlxs hlys
  obtain ⟨W0, hW0⟩ : ∃ W, w.alloc (.cells #[.int .i64 LL, .int .i64 S, .slice p n c] 24) = W := ⟨_, rfl⟩
  have hb0 : Below w.heap.size w W0 := by rw [← hW0]; exact (Below.refl _ _).alloc (Nat.le_refl _) _
  have hbx : BoxAt3 W0 w.heap.size (.int .i64 LL) (.int .i64 S) (.slice p n c) := by rw [← hW0]; exact BoxAt3.new w _ _ _ _
  have He := Lib.hid (show EdgAt W0 p n E from hE.mono (Nat.le_refl _) hb0)
  have Hxs := Lib.hid (show ByteAt W0 px xs from hXxs.below (Nat.le_refl _) hb0)
  have Hbxs := Lib.hid hxxs
  have Hys := Lib.hid (show ByteAt W0 py ys from hXys.below (Nat.le_refl _) hb0)
  have Hbys := Lib.hid hxys
  have HF := Lib.hid (fine23_any LL S n E p c mi W0 He.out)
  have Hbb := Lib.hid hb0
  have Hbox := Lib.hid hbx
  obtain ⟨_, c0, c1, c2⟩ := hbx
  clear hE hb0 hXxs hxxs hXys hxys
  obtain ⟨ff, hff⟩ : ∃ b, fine23 LL S n E mi = b := ⟨_, rfl⟩
  rw [hff] at HF
  cases ff
  · clear hff
    go_enter Try.func4, Try.ntmps4
    go_wp2_with fail
    try rw [hW0]
    refine (HF.out).mono ?_
    rintro e y1 ⟨rfl, hbc⟩
    dsimp only
    have He_1 := Lib.hid (SlAt.mono He.out (Nat.le_refl _) hbc)
    have Hbb_1 := Lib.hid (Hbb.out.trans (hbc.mono Hbb.out.size))
    have Hbox_1 := Lib.hid (Hbox.out.below hbc)
    have Hxs_1 := Lib.hid (Hxs.out.below (Nat.le_refl _) hbc)
    have Hys_1 := Lib.hid (Hys.out.below (Nat.le_refl _) hbc)
    clear He Hbb Hbox Hxs Hys
    clear HF c0 c1 c2 hW0
    obtain ⟨_, z0, z1, z2⟩ := Hbox_1.out
    go_wp2_with fail
    clear z0 z1 z2
    refine (evAwake_any _).mono ?_
    rintro e y2 ⟨rfl, hbc⟩
    dsimp only
    have He_2 := Lib.hid (SlAt.mono He_1.out (Nat.le_refl _) hbc)
    have Hbb_2 := Lib.hid (Hbb_1.out.trans (hbc.mono Hbb_1.out.size))
    have Hbox_2 := Lib.hid (Hbox_1.out.below hbc)
    have Hxs_2 := Lib.hid (Hxs_1.out.below (Nat.le_refl _) hbc)
    have Hys_2 := Lib.hid (Hys_1.out.below (Nat.le_refl _) hbc)
    clear He_1 Hbb_1 Hbox_1 Hxs_1 Hys_1
    go_wp2
    go_ret
    exact ⟨rfl, Hbb_2.out⟩
  obtain ⟨hg, hS1, hS6, hn, hm1, hm2⟩ := fine23_true hff
  clear hff
  obtain ⟨N, rfl⟩ : ∃ N : Nat, S = N := ⟨S.toNat, by omega⟩
  obtain ⟨m, rfl⟩ : ∃ m : Nat, mi = m := ⟨mi.toNat, by omega⟩
  have h0 : 0 < N := by omega
  have hok : EdOk N n E := by have := gChk_ok hg; simpa using this
  have Hok := Lib.hid hok
  have Hg := Lib.hid hg
  have HVxs := Lib.hid (fun W (hW : ByteAt W px xs) => vector_any LL N n p c xs px cx (by omega) Hbxs.out W hW)
  have hvxs : vChk LL N n E m N (vecB xs) = 0 := vChk_ok hg (by omega) (by omega) rfl (fun k _ => by have := vecB_le xs k; omega)
  have HGxs := Lib.hid (fun W q cq (hW : EdgAt W p n E) (hq : VRow W q N (vecB xs)) => Greatest_ok LL N n m E p c (vecB xs) q cq hvxs W hW hq)
  have HVys := Lib.hid (fun W (hW : ByteAt W py ys) => vector_any LL N n p c ys py cy (by omega) Hbys.out W hW)
  have hvys : vChk LL N n E m N (vecB ys) = 0 := vChk_ok hg (by omega) (by omega) rfl (fun k _ => by have := vecB_le ys k; omega)
  have HGys := Lib.hid (fun W q cq (hW : EdgAt W p n E) (hq : VRow W q N (vecB ys)) => Greatest_ok LL N n m E p c (vecB ys) q cq hvys W hW hq)
  have HZe := Lib.hid (fun W q cq u (hq : VRow W q N u) => lawZero_any N q cq u (by omega) W hq)
  have nN : ((N : Int) != (N : Int)) = false := by simp
  have Hvb := Lib.hid (fun (u v : Nat → Int) (hv : ∀ s, s < N → v s ≤ 30) (hu : GrO (frE E) (toE E) n N m v u) (s : Nat) (hs : s < N) => show 0 ≤ u s ∧ u s ≤ 30 from ⟨hu.nonneg s hs, Int.le_trans (hu.1 s hs) (hv s hs)⟩)
  have HCk := Lib.hid (fun W q cq u (hW : EdgAt W p n E) (hq : VRow W q N u) (hu : ∀ s, s < N → 0 ≤ u s ∧ u s ≤ 4096) => EvCheck_ok LL N n m E p c u q cq (vChk_of Hg.out (by omega) (by omega) hu) W hW hq)
  have HGu := Lib.hid (fun W q cq u (hW : EdgAt W p n E) (hq : VRow W q N u) (hu : ∀ s, s < N → 0 ≤ u s ∧ u s ≤ 30) => Greatest_ok LL N n m E p c u q cq (vChk_of Hg.out (by omega) (by omega) (fun s hs => by have := hu s hs; omega)) W hW hq)
  have HBe := Lib.hid (fun W q cq u q' cq' u' (hq : VRow W q N u) (hq' : VRow W q' N u') => below_any N u u' q q' cq cq' (by omega) W hq hq')
  have HHo := Lib.hid (fun W q cq u (hW : EdgAt W p n E) (hq : VRow W q N u) (hu : ∀ s, s < N → 0 ≤ u s ∧ u s ≤ 30) => holds_any LL N n m E p c u q cq (by omega) (by omega) (by omega) Hok.out (fun s hs => by have := hu s hs; omega) W hW hq)
  have HEq := Lib.hid (fun W q cq u q' cq' u' (hq : VRow W q N u) (hq' : VRow W q' N u') => sameV_any N u u' q q' cq cq' W hq hq' (by omega))
  clear hg hok hvxs hvys
  go_enter Try.func4, Try.ntmps4
  go_wp2_with fail
  try rw [hW0]
  refine (HF.out).mono ?_
  rintro e y1 ⟨rfl, hbc⟩
  dsimp only
  have He_1 := Lib.hid (SlAt.mono He.out (Nat.le_refl _) hbc)
  have Hbb_1 := Lib.hid (Hbb.out.trans (hbc.mono Hbb.out.size))
  have Hbox_1 := Lib.hid (Hbox.out.below hbc)
  have Hxs_1 := Lib.hid (Hxs.out.below (Nat.le_refl _) hbc)
  have Hys_1 := Lib.hid (Hys.out.below (Nat.le_refl _) hbc)
  clear He Hbb Hbox Hxs Hys
  clear HF c0 c1 c2 hW0
  obtain ⟨g0, hg0⟩ : ∃ g, w.heap.size = g := ⟨_, rfl⟩
  rw [hg0] at Hbox_1
  try rw [hg0]
  have Hg0 := Lib.hid hg0
  clear hg0
  obtain ⟨_, z0, z1, z2⟩ := Hbox_1.out
  go_upto_region 3 with (fail)
  clear z0 z1 z2
  obtain ⟨X, hX⟩ : ∃ Z, y1 = Z := ⟨_, rfl⟩
  rw [hX] at He_1 Hbb_1 Hbox_1 Hxs_1 Hys_1 ⊢
  clear hX
  go_upto_region 3 with (fail)
  obtain ⟨SS, hSe⟩ : ∃ SS : World → Prop, SS = fun W => W.cell? ⟨g0, 0, none⟩ = some (.int .i64 LL) ∧ W.cell? ⟨g0, 1, none⟩ = some (.int .i64 (N : Int)) ∧ W.cell? ⟨g0, 2, none⟩ = some (.slice p n c) := ⟨_, rfl⟩
  have HS : Hid (∀ W, Below X.heap.size X W → SS W) := Lib.hid (fun W hW => by
    obtain ⟨_, b0, b1, b2⟩ := Hbox_1.out.below hW
    rw [hSe]; exact ⟨b0, b1, b2⟩)
  have hd : Below X.heap.size X X.drew := (Below.refl _ _).drew
  refine wp_region_held_drew (S := SS) (by kernel_rfl) (HS.out _ hd) (fun hSS => ?_)
  refine wpAnyH_take (i := 0) (v := ?_) rfl (by kernel_rfl) (by kernel_rfl) (by kernel_rfl) (fun _ _ _ h => h) (Or.inl ⟨by rfl, ?_⟩) (HS.out _ hd) ?_
  rotate_left 1
  next => intro w hSw; rw [hSe] at hSw; obtain ⟨s1, s2, s3⟩ := hSw; go_simp; try with_reducible rfl
  try simp only [Act.put, List.getElem_toArray, List.getElem_cons_zero, List.getElem_cons_succ, List.setIfInBounds_toArray, List.set_cons_zero, List.set_cons_succ]
  refine wpAnyH_take (i := 1) (v := ?_) rfl (by kernel_rfl) (by kernel_rfl) (by kernel_rfl) (fun _ _ _ h => h) (Or.inl ⟨by rfl, ?_⟩) (HS.out _ hd) ?_
  rotate_left 1
  next => intro w hSw; rw [hSe] at hSw; obtain ⟨s1, s2, s3⟩ := hSw; go_simp; try with_reducible rfl
  try simp only [Act.put, List.getElem_toArray, List.getElem_cons_zero, List.getElem_cons_succ, List.setIfInBounds_toArray, List.set_cons_zero, List.set_cons_succ]
  refine wpAnyH_take (i := 3) (v := ?_) rfl (by kernel_rfl) (by kernel_rfl) (by kernel_rfl) (fun _ _ _ h => h) (Or.inl ⟨by rfl, ?_⟩) (HS.out _ hd) ?_
  rotate_left 1
  next => intro w hSw; rw [hSe] at hSw; obtain ⟨s1, s2, s3⟩ := hSw; go_simp; try with_reducible rfl
  try simp only [Act.put, List.getElem_toArray, List.getElem_cons_zero, List.getElem_cons_succ, List.setIfInBounds_toArray, List.set_cons_zero, List.set_cons_succ]
  refine wpAnyH_take (i := 4) (v := ?_) rfl (by kernel_rfl) (by kernel_rfl) (by kernel_rfl) (fun _ _ _ h => h) (Or.inl ⟨by rfl, ?_⟩) (HS.out _ hd) ?_
  rotate_left 1
  next => intro w hSw; rw [hSe] at hSw; obtain ⟨s1, s2, s3⟩ := hSw; go_simp; try with_reducible rfl
  try simp only [Act.put, List.getElem_toArray, List.getElem_cons_zero, List.getElem_cons_succ, List.setIfInBounds_toArray, List.set_cons_zero, List.set_cons_succ]
  try simp only [Act.put, List.getElem_toArray, List.getElem_cons_zero, List.getElem_cons_succ, List.setIfInBounds_toArray, List.set_cons_zero, List.set_cons_succ]
  refine wpAnyH_ready (rs := [2]) (by kernel_rfl) (by simp) ?_
  refine AllReadyH.cons rfl (fun K hK => ?_) AllReadyH.nil
  go_simp
  refine (HVxs.out _ (Hxs_1.out.below (Nat.le_refl _) hd)).mono ?_
  rintro e w1 ⟨gx, rfl, hzx, _, hbc⟩
  have hb1 : Below X.heap.size X w1 := hd.trans (hbc.mono hd.size)
  dsimp only
  have hrx := hzx.row
  refine hK.out _ _ (HS.out _ hb1) (fun _ => ?_)
  clear hK K hbc
  try simp only [Act.put, List.getElem_toArray, List.getElem_cons_zero, List.getElem_cons_succ, List.setIfInBounds_toArray, List.set_cons_zero, List.set_cons_succ]
  refine wpAnyH_ready (rs := [5]) (by kernel_rfl) (by simp) ?_
  refine AllReadyH.cons rfl (fun K hK => ?_) AllReadyH.nil
  go_simp
  refine (HVys.out _ (Hys_1.out.below (Nat.le_refl _) hb1)).mono ?_
  rintro e w2 ⟨gy, rfl, hzy, _, hbc⟩
  have hb2 : Below X.heap.size X w2 := hb1.trans (hbc.mono hb1.size)
  dsimp only
  have hrx2 := hrx.below (Nat.le_refl _) hbc
  refine hK.out _ _ (HS.out _ hb2) (fun _ => ?_)
  clear hK K hbc
  refine wpAnyH_take (i := 6) (v := ?_) rfl (by kernel_rfl) (by kernel_rfl) (by kernel_rfl) (fun _ _ _ h => h) (Or.inl ⟨by rfl, ?_⟩) (HS.out _ hb2) ?_
  rotate_left 1
  next => intro w hSw; rw [hSe] at hSw; obtain ⟨s1, s2, s3⟩ := hSw; go_simp; try with_reducible rfl
  try simp only [Act.put, List.getElem_toArray, List.getElem_cons_zero, List.getElem_cons_succ, List.setIfInBounds_toArray, List.set_cons_zero, List.set_cons_succ]
  refine wpAnyH_take (i := 7) (v := ?_) rfl (by kernel_rfl) (by kernel_rfl) (by kernel_rfl) (fun _ _ _ h => h) (Or.inl ⟨by rfl, ?_⟩) (HS.out _ hb2) ?_
  rotate_left 1
  next => intro w hSw; rw [hSe] at hSw; obtain ⟨s1, s2, s3⟩ := hSw; go_simp; try with_reducible rfl
  try simp only [Act.put, List.getElem_toArray, List.getElem_cons_zero, List.getElem_cons_succ, List.setIfInBounds_toArray, List.set_cons_zero, List.set_cons_succ]
  refine wpAnyH_done (by kernel_rfl) ?_ _
  have hbc := hb2
  have Hqx := Lib.hid hrx2
  have Hqy := Lib.hid hzy.row
  have He_2 := Lib.hid (SlAt.mono He_1.out (Nat.le_refl _) hbc)
  have Hbb_2 := Lib.hid (Hbb_1.out.trans (hbc.mono Hbb_1.out.size))
  have Hbox_2 := Lib.hid (Hbox_1.out.below hbc)
  clear He_1 Hbb_1 Hbox_1 Hxs_1 Hys_1
  clear hbc hzx hzy hrx hrx2 HS hSe hSS hd HVxs HVys
  obtain ⟨_, z0, z1, z2⟩ := Hbox_2.out
  go_wp2_with fail
  clear z0 z1 z2
  refine (HGxs.out _ _ N He_2.out Hqx.out).mono ?_
  rintro e y3 ⟨ua, qa, ca, hua, rfl, hqa, hbc⟩
  dsimp only
  have He_3 := Lib.hid (SlAt.mono He_2.out (Nat.le_refl _) hbc)
  have Hbb_3 := Lib.hid (Hbb_2.out.trans (hbc.mono Hbb_2.out.size))
  have Hbox_3 := Lib.hid (Hbox_2.out.below hbc)
  have Hqx_3 := Lib.hid (Hqx.out.below (Nat.le_refl _) hbc)
  have Hqy_3 := Lib.hid (Hqy.out.below (Nat.le_refl _) hbc)
  clear He_2 Hbb_2 Hbox_2 Hqx Hqy
  have Hqa_3 := Lib.hid (hqa.row)
  have Hua := Lib.hid hua
  have hva : ∀ s, s < N → 0 ≤ ua s ∧ ua s ≤ 30 := Hvb.out ua (vecB xs) (fun s _ => (vecB_le xs s).2) hua
  have Hva := Lib.hid hva
  clear hua hqa hva hbc
  have HHa := HHo.out _ qa ca ua He_3.out Hqa_3.out Hva.out
  rw [(hldB_iff (fun s hs => (Hva.out s hs).1)).2 Hua.out.2.1] at HHa
  have HHA := Lib.hid HHa
  clear HHa
  obtain ⟨_, z0, z1, z2⟩ := Hbox_3.out
  go_wp2_with fail
  clear z0 z1 z2
  refine (HHA.out).mono ?_
  rintro e y4 ⟨rfl, hbc⟩
  dsimp only
  have He_4 := Lib.hid (SlAt.mono He_3.out (Nat.le_refl _) hbc)
  have Hbb_4 := Lib.hid (Hbb_3.out.trans (hbc.mono Hbb_3.out.size))
  have Hbox_4 := Lib.hid (Hbox_3.out.below hbc)
  have Hqx_4 := Lib.hid (Hqx_3.out.below (Nat.le_refl _) hbc)
  have Hqy_4 := Lib.hid (Hqy_3.out.below (Nat.le_refl _) hbc)
  have Hqa_4 := Lib.hid (Hqa_3.out.below (Nat.le_refl _) hbc)
  clear He_3 Hbb_3 Hbox_3 Hqx_3 Hqy_3 Hqa_3
  clear HHA hbc
  have HBa := HBe.out _ qa ca ua _ N (vecB xs) Hqa_4.out Hqx_4.out
  rw [any_le Hua.out.1] at HBa
  have HBA := Lib.hid HBa
  clear HBa
  obtain ⟨_, z0, z1, z2⟩ := Hbox_4.out
  go_wp2_with fail
  clear z0 z1 z2
  refine (HBA.out).mono ?_
  rintro e y5 ⟨rfl, hbc⟩
  dsimp only
  have He_5 := Lib.hid (SlAt.mono He_4.out (Nat.le_refl _) hbc)
  have Hbb_5 := Lib.hid (Hbb_4.out.trans (hbc.mono Hbb_4.out.size))
  have Hbox_5 := Lib.hid (Hbox_4.out.below hbc)
  have Hqx_5 := Lib.hid (Hqx_4.out.below (Nat.le_refl _) hbc)
  have Hqy_5 := Lib.hid (Hqy_4.out.below (Nat.le_refl _) hbc)
  have Hqa_5 := Lib.hid (Hqa_4.out.below (Nat.le_refl _) hbc)
  clear He_4 Hbb_4 Hbox_4 Hqx_4 Hqy_4 Hqa_4
  clear HBA hbc
  obtain ⟨_, z0, z1, z2⟩ := Hbox_5.out
  go_wp2_with fail
  clear z0 z1 z2
  refine (HGys.out _ _ N He_5.out Hqy_5.out).mono ?_
  rintro e y6 ⟨ub, qb, cb, hub, rfl, hqb, hbc⟩
  dsimp only
  have He_6 := Lib.hid (SlAt.mono He_5.out (Nat.le_refl _) hbc)
  have Hbb_6 := Lib.hid (Hbb_5.out.trans (hbc.mono Hbb_5.out.size))
  have Hbox_6 := Lib.hid (Hbox_5.out.below hbc)
  have Hqx_6 := Lib.hid (Hqx_5.out.below (Nat.le_refl _) hbc)
  have Hqy_6 := Lib.hid (Hqy_5.out.below (Nat.le_refl _) hbc)
  have Hqa_6 := Lib.hid (Hqa_5.out.below (Nat.le_refl _) hbc)
  clear He_5 Hbb_5 Hbox_5 Hqx_5 Hqy_5 Hqa_5
  have Hqb_6 := Lib.hid (hqb.row)
  have Hub := Lib.hid hub
  have hvb : ∀ s, s < N → 0 ≤ ub s ∧ ub s ≤ 30 := Hvb.out ub (vecB ys) (fun s _ => (vecB_le ys s).2) hub
  have HvB := Lib.hid hvb
  clear hub hqb hvb hbc
  obtain ⟨_, z0, z1, z2⟩ := Hbox_6.out
  go_wp2_with fail
  clear z0 z1 z2
  refine (HGu.out _ qb cb ub He_6.out Hqb_6.out HvB.out).mono ?_
  rintro e y7 ⟨uc, qc, cc, huc, rfl, hqc, hbc⟩
  dsimp only
  have He_7 := Lib.hid (SlAt.mono He_6.out (Nat.le_refl _) hbc)
  have Hbb_7 := Lib.hid (Hbb_6.out.trans (hbc.mono Hbb_6.out.size))
  have Hbox_7 := Lib.hid (Hbox_6.out.below hbc)
  have Hqx_7 := Lib.hid (Hqx_6.out.below (Nat.le_refl _) hbc)
  have Hqy_7 := Lib.hid (Hqy_6.out.below (Nat.le_refl _) hbc)
  have Hqa_7 := Lib.hid (Hqa_6.out.below (Nat.le_refl _) hbc)
  have Hqb_7 := Lib.hid (Hqb_6.out.below (Nat.le_refl _) hbc)
  clear He_6 Hbb_6 Hbox_6 Hqx_6 Hqy_6 Hqa_6 Hqb_6
  have Hqc_7 := Lib.hid (hqc.row)
  have hcb : ∀ s, s < N → uc s = ub s := GrO.unique huc (GrO.self Hub.out.2.1)
  have Hcb := Lib.hid hcb
  clear huc hqc hcb hbc
  have h0y : ∀ s, s < N → 0 ≤ vecB ys s := fun s _ => (vecB_le ys s).1
  have H0y := Lib.hid h0y
  clear h0y
  obtain ⟨bz, hbz⟩ : ∃ b, anyN (fun k => ua k != 0) N = b := ⟨_, rfl⟩
  cases bz
  · have Hbz := Lib.hid hbz
    clear hbz
    obtain ⟨_, z0, z1, z2⟩ := Hbox_7.out
    have hmx := @maxI0 Try.prog
    go_upto_region 9 with (fail)
    clear z0 z1 z2
    obtain ⟨X, hX⟩ : ∃ Z, y7 = Z := ⟨_, rfl⟩
    rw [hX] at He_7 Hbb_7 Hbox_7 Hqx_7 Hqy_7 Hqa_7 Hqb_7 Hqc_7 ⊢
    clear hX
    have HEq9 := Lib.hid (fun W (hW : Below X.heap.size X W) => HEq.out W qc cc uc qb cb ub (Hqc_7.out.below (Nat.le_refl _) hW) (Hqb_7.out.below (Nat.le_refl _) hW))
    rw [any_same Hcb.out] at HEq9
    have HZ9 := Lib.hid (fun W (hW : Below X.heap.size X W) => HZe.out W qa ca ua (Hqa_7.out.below (Nat.le_refl _) hW))
    rw [Hbz.out] at HZ9
    have HC9 := Lib.hid (fun W (hW : Below X.heap.size X W) => HCk.out W qa ca ua (SlAt.mono He_7.out (Nat.le_refl _) hW) (Hqa_7.out.below (Nat.le_refl _) hW) (fun s hs => by have := Hva.out s hs; omega))
    rw [ckV_zero5 Hbz.out] at HC9
    clear Hbz
    obtain ⟨SS, hSe⟩ : ∃ SS : World → Prop, SS = fun W => W.cell? ⟨g0, 0, none⟩ = some (.int .i64 LL) ∧ W.cell? ⟨g0, 1, none⟩ = some (.int .i64 (N : Int)) ∧ W.cell? ⟨g0, 2, none⟩ = some (.slice p n c) := ⟨_, rfl⟩
    have HS : Hid (∀ W, Below X.heap.size X W → SS W) := Lib.hid (fun W hW => by
      obtain ⟨_, b0, b1, b2⟩ := Hbox_7.out.below hW
      rw [hSe]; exact ⟨b0, b1, b2⟩)
    have hd : Below X.heap.size X X.drew := (Below.refl _ _).drew
    refine wp_region_held_drew (S := SS) (by kernel_rfl) (HS.out _ hd) (fun hSS => ?_)
    refine wpAnyH_take (i := 0) (v := ?_) rfl (by kernel_rfl) (by kernel_rfl) (by kernel_rfl) (fun _ _ _ h => h) (Or.inl ⟨by rfl, ?_⟩) (HS.out _ hd) ?_
    rotate_left 1
    next => intro w hSw; rw [hSe] at hSw; obtain ⟨s1, s2, s3⟩ := hSw; go_simp; try with_reducible rfl
    try simp only [Act.put, List.getElem_toArray, List.getElem_cons_zero, List.getElem_cons_succ, List.setIfInBounds_toArray, List.set_cons_zero, List.set_cons_succ]
    refine wpAnyH_take (i := 1) (v := ?_) rfl (by kernel_rfl) (by kernel_rfl) (by kernel_rfl) (fun _ _ _ h => h) (Or.inl ⟨by rfl, ?_⟩) (HS.out _ hd) ?_
    rotate_left 1
    next => intro w hSw; rw [hSe] at hSw; obtain ⟨s1, s2, s3⟩ := hSw; go_simp; try with_reducible rfl
    try simp only [Act.put, List.getElem_toArray, List.getElem_cons_zero, List.getElem_cons_succ, List.setIfInBounds_toArray, List.set_cons_zero, List.set_cons_succ]
    try simp only [Act.put, List.getElem_toArray, List.getElem_cons_zero, List.getElem_cons_succ, List.setIfInBounds_toArray, List.set_cons_zero, List.set_cons_succ]
    refine wpAnyH_ready (rs := [2]) (by kernel_rfl) (by simp) ?_
    refine AllReadyH.cons rfl (fun K hK => ?_) AllReadyH.nil
    go_simp
    refine hK.out _ _ (HS.out _ hd) (fun _ => ?_)
    clear hK K
    refine wpAnyH_take (i := 3) (v := ?_) rfl (by kernel_rfl) (by kernel_rfl) (by kernel_rfl) (fun _ _ _ h => h) (Or.inl ⟨by rfl, ?_⟩) (HS.out _ hd) ?_
    rotate_left 1
    next => intro w hSw; rw [hSe] at hSw; obtain ⟨s1, s2, s3⟩ := hSw; go_simp; try with_reducible rfl
    try simp only [Act.put, List.getElem_toArray, List.getElem_cons_zero, List.getElem_cons_succ, List.setIfInBounds_toArray, List.set_cons_zero, List.set_cons_succ]
    refine wpAnyH_take (i := 4) (v := ?_) rfl (by kernel_rfl) (by kernel_rfl) (by kernel_rfl) (fun _ _ _ h => h) (Or.inl ⟨by rfl, ?_⟩) (HS.out _ hd) ?_
    rotate_left 1
    next => intro w hSw; rw [hSe] at hSw; obtain ⟨s1, s2, s3⟩ := hSw; go_simp; try with_reducible rfl
    try simp only [Act.put, List.getElem_toArray, List.getElem_cons_zero, List.getElem_cons_succ, List.setIfInBounds_toArray, List.set_cons_zero, List.set_cons_succ]
    refine wpAnyH_take (i := 5) (v := ?_) rfl (by kernel_rfl) (by kernel_rfl) (by kernel_rfl) (fun _ _ _ h => h) (Or.inl ⟨by rfl, ?_⟩) (HS.out _ hd) ?_
    rotate_left 1
    next => intro w hSw; rw [hSe] at hSw; obtain ⟨s1, s2, s3⟩ := hSw; go_simp; try with_reducible rfl
    try simp only [Act.put, List.getElem_toArray, List.getElem_cons_zero, List.getElem_cons_succ, List.setIfInBounds_toArray, List.set_cons_zero, List.set_cons_succ]
    refine wpAnyH_take (i := 6) (v := ?_) rfl (by kernel_rfl) (by kernel_rfl) (by kernel_rfl) (fun _ _ _ h => h) (Or.inl ⟨by rfl, ?_⟩) (HS.out _ hd) ?_
    rotate_left 1
    next => intro w hSw; rw [hSe] at hSw; obtain ⟨s1, s2, s3⟩ := hSw; go_simp; try with_reducible rfl
    try simp only [Act.put, List.getElem_toArray, List.getElem_cons_zero, List.getElem_cons_succ, List.setIfInBounds_toArray, List.set_cons_zero, List.set_cons_succ]
    try simp only [Act.put, List.getElem_toArray, List.getElem_cons_zero, List.getElem_cons_succ, List.setIfInBounds_toArray, List.set_cons_zero, List.set_cons_succ]
    refine wpAnyH_ready (rs := [7]) (by kernel_rfl) (by simp) ?_
    refine AllReadyH.cons rfl (fun K hK => ?_) AllReadyH.nil
    go_simp
    refine (HEq9.out _ hd).mono ?_
    rintro e w3 ⟨rfl, hbc⟩
    have hb3 : Below X.heap.size X w3 := hd.trans (hbc.mono hd.size)
    dsimp only
    refine hK.out _ _ (HS.out _ hb3) (fun _ => ?_)
    clear hK K hbc
    refine wpAnyH_take (i := 8) (v := ?_) rfl (by kernel_rfl) (by kernel_rfl) (by kernel_rfl) (fun _ _ _ h => h) (Or.inl ⟨by rfl, ?_⟩) (HS.out _ hb3) ?_
    rotate_left 1
    next => intro w hSw; rw [hSe] at hSw; obtain ⟨s1, s2, s3⟩ := hSw; go_simp; try with_reducible rfl
    try simp only [Act.put, List.getElem_toArray, List.getElem_cons_zero, List.getElem_cons_succ, List.setIfInBounds_toArray, List.set_cons_zero, List.set_cons_succ]
    refine wpAnyH_take (i := 9) (v := ?_) rfl (by kernel_rfl) (by kernel_rfl) (by kernel_rfl) (fun _ _ _ h => h) (Or.inl ⟨by rfl, ?_⟩) (HS.out _ hb3) ?_
    rotate_left 1
    next => intro w hSw; rw [hSe] at hSw; obtain ⟨s1, s2, s3⟩ := hSw; go_simp; try with_reducible rfl
    try simp only [Act.put, List.getElem_toArray, List.getElem_cons_zero, List.getElem_cons_succ, List.setIfInBounds_toArray, List.set_cons_zero, List.set_cons_succ]
    refine wpAnyH_take (i := 10) (v := ?_) rfl (by kernel_rfl) (by kernel_rfl) (by kernel_rfl) (fun _ _ _ h => h) (Or.inl ⟨by rfl, ?_⟩) (HS.out _ hb3) ?_
    rotate_left 1
    next => intro w hSw; rw [hSe] at hSw; obtain ⟨s1, s2, s3⟩ := hSw; go_simp; try with_reducible rfl
    try simp only [Act.put, List.getElem_toArray, List.getElem_cons_zero, List.getElem_cons_succ, List.setIfInBounds_toArray, List.set_cons_zero, List.set_cons_succ]
    refine wpAnyH_take (i := 11) (v := ?_) rfl (by kernel_rfl) (by kernel_rfl) (by kernel_rfl) (fun _ _ _ h => h) (Or.inl ⟨by rfl, ?_⟩) (HS.out _ hb3) ?_
    rotate_left 1
    next => intro w hSw; rw [hSe] at hSw; obtain ⟨s1, s2, s3⟩ := hSw; go_simp; try with_reducible rfl
    try simp only [Act.put, List.getElem_toArray, List.getElem_cons_zero, List.getElem_cons_succ, List.setIfInBounds_toArray, List.set_cons_zero, List.set_cons_succ]
    refine wpAnyH_take (i := 13) (v := ?_) rfl (by kernel_rfl) (by kernel_rfl) (by kernel_rfl) (fun _ _ _ h => h) (Or.inl ⟨by rfl, ?_⟩) (HS.out _ hb3) ?_
    rotate_left 1
    next => intro w hSw; rw [hSe] at hSw; obtain ⟨s1, s2, s3⟩ := hSw; go_simp; try with_reducible rfl
    try simp only [Act.put, List.getElem_toArray, List.getElem_cons_zero, List.getElem_cons_succ, List.setIfInBounds_toArray, List.set_cons_zero, List.set_cons_succ]
    refine wpAnyH_take (i := 14) (v := ?_) rfl (by kernel_rfl) (by kernel_rfl) (by kernel_rfl) (fun _ _ _ h => h) (Or.inl ⟨by rfl, ?_⟩) (HS.out _ hb3) ?_
    rotate_left 1
    next => intro w hSw; rw [hSe] at hSw; obtain ⟨s1, s2, s3⟩ := hSw; go_simp; try with_reducible rfl
    try simp only [Act.put, List.getElem_toArray, List.getElem_cons_zero, List.getElem_cons_succ, List.setIfInBounds_toArray, List.set_cons_zero, List.set_cons_succ]
    refine wpAnyH_take (i := 15) (v := ?_) rfl (by kernel_rfl) (by kernel_rfl) (by kernel_rfl) (fun _ _ _ h => h) (Or.inl ⟨by rfl, ?_⟩) (HS.out _ hb3) ?_
    rotate_left 1
    next => intro w hSw; rw [hSe] at hSw; obtain ⟨s1, s2, s3⟩ := hSw; go_simp; try with_reducible rfl
    try simp only [Act.put, List.getElem_toArray, List.getElem_cons_zero, List.getElem_cons_succ, List.setIfInBounds_toArray, List.set_cons_zero, List.set_cons_succ]
    try simp only [Act.put, List.getElem_toArray, List.getElem_cons_zero, List.getElem_cons_succ, List.setIfInBounds_toArray, List.set_cons_zero, List.set_cons_succ]
    refine wpAnyH_ready (rs := [12]) (by kernel_rfl) (by simp) ?_
    refine AllReadyH.cons rfl (fun K hK => ?_) AllReadyH.nil
    go_simp
    refine (HZ9.out _ hb3).mono ?_
    rintro e w4 ⟨rfl, hbc⟩
    have hb4 : Below X.heap.size X w4 := hb3.trans (hbc.mono hb3.size)
    dsimp only
    refine hK.out _ _ (HS.out _ hb4) (fun _ => ?_)
    clear hK K hbc
    try simp only [Act.put, List.getElem_toArray, List.getElem_cons_zero, List.getElem_cons_succ, List.setIfInBounds_toArray, List.set_cons_zero, List.set_cons_succ]
    refine wpAnyH_ready (rs := [16]) (by kernel_rfl) (by simp) ?_
    refine AllReadyH.cons rfl (fun K hK => ?_) AllReadyH.nil
    go_simp
    refine (HC9.out _ hb4).mono ?_
    rintro e w5 ⟨rfl, hbc⟩
    have hb5 : Below X.heap.size X w5 := hb4.trans (hbc.mono hb4.size)
    dsimp only
    refine hK.out _ _ (HS.out _ hb5) (fun _ => ?_)
    clear hK K hbc
    refine wpAnyH_take (i := 17) (v := ?_) rfl (by kernel_rfl) (by kernel_rfl) (by kernel_rfl) (fun _ _ _ h => h) (Or.inl ⟨by rfl, ?_⟩) (HS.out _ hb5) ?_
    rotate_left 1
    next => intro w hSw; rw [hSe] at hSw; obtain ⟨s1, s2, s3⟩ := hSw; go_simp; try with_reducible rfl
    try simp only [Act.put, List.getElem_toArray, List.getElem_cons_zero, List.getElem_cons_succ, List.setIfInBounds_toArray, List.set_cons_zero, List.set_cons_succ]
    refine wpAnyH_take (i := 18) (v := ?_) rfl (by kernel_rfl) (by kernel_rfl) (by kernel_rfl) (fun _ _ _ h => h) (Or.inl ⟨by rfl, ?_⟩) (HS.out _ hb5) ?_
    rotate_left 1
    next => intro w hSw; rw [hSe] at hSw; obtain ⟨s1, s2, s3⟩ := hSw; go_simp; try with_reducible rfl
    try simp only [Act.put, List.getElem_toArray, List.getElem_cons_zero, List.getElem_cons_succ, List.setIfInBounds_toArray, List.set_cons_zero, List.set_cons_succ]
    refine wpAnyH_take (i := 19) (v := ?_) rfl (by kernel_rfl) (by kernel_rfl) (by kernel_rfl) (fun _ _ _ h => h) (Or.inl ⟨by rfl, ?_⟩) (HS.out _ hb5) ?_
    rotate_left 1
    next => intro w hSw; rw [hSe] at hSw; obtain ⟨s1, s2, s3⟩ := hSw; go_simp; try with_reducible rfl
    try simp only [Act.put, List.getElem_toArray, List.getElem_cons_zero, List.getElem_cons_succ, List.setIfInBounds_toArray, List.set_cons_zero, List.set_cons_succ]
    refine wpAnyH_done (by kernel_rfl) ?_ _
    have hbc := hb5
    have He_8 := Lib.hid (SlAt.mono He_7.out (Nat.le_refl _) hbc)
    have Hbb_8 := Lib.hid (Hbb_7.out.trans (hbc.mono Hbb_7.out.size))
    have Hbox_8 := Lib.hid (Hbox_7.out.below hbc)
    have Hqx_8 := Lib.hid (Hqx_7.out.below (Nat.le_refl _) hbc)
    have Hqy_8 := Lib.hid (Hqy_7.out.below (Nat.le_refl _) hbc)
    have Hqa_8 := Lib.hid (Hqa_7.out.below (Nat.le_refl _) hbc)
    have Hqb_8 := Lib.hid (Hqb_7.out.below (Nat.le_refl _) hbc)
    have Hqc_8 := Lib.hid (Hqc_7.out.below (Nat.le_refl _) hbc)
    clear He_7 Hbb_7 Hbox_7 Hqx_7 Hqy_7 Hqa_7 Hqb_7 Hqc_7
    clear hbc HS hSe hSS hd hmx HEq9 HZ9 HC9
    obtain ⟨bh, hbh⟩ : ∃ b, hldB (frE E) (toE E) n N m (vecB ys) = b := ⟨_, rfl⟩
    have HHy := HHo.out _ _ N (vecB ys) He_8.out Hqy_8.out (fun s _ => vecB_le ys s)
    rw [hbh] at HHy
    have HHY := Lib.hid HHy
    have Hbh := Lib.hid hbh
    clear HHy hbh
    obtain ⟨bb, hbb⟩ : ∃ b, (!anyN (fun k => decide (vecB xs k < ub k)) N) = b := ⟨_, rfl⟩
    have HBb := Lib.hid (fun W q (h1 : VRow W qb N ub) (h2 : VRow W q N (vecB xs)) => HBe.out W qb cb ub q N (vecB xs) h1 h2)
    rw [hbb] at HBb
    have Hbl := Lib.hid hbb
    clear hbb
    cases bh
    · obtain ⟨_, z0, z1, z2⟩ := Hbox_8.out
      go_wp2_with fail
      clear z0 z1 z2
      refine (HHY.out).mono ?_
      rintro e y9 ⟨rfl, hbc⟩
      dsimp only
      have He_9 := Lib.hid (SlAt.mono He_8.out (Nat.le_refl _) hbc)
      have Hbb_9 := Lib.hid (Hbb_8.out.trans (hbc.mono Hbb_8.out.size))
      have Hbox_9 := Lib.hid (Hbox_8.out.below hbc)
      have Hqx_9 := Lib.hid (Hqx_8.out.below (Nat.le_refl _) hbc)
      have Hqy_9 := Lib.hid (Hqy_8.out.below (Nat.le_refl _) hbc)
      have Hqa_9 := Lib.hid (Hqa_8.out.below (Nat.le_refl _) hbc)
      have Hqb_9 := Lib.hid (Hqb_8.out.below (Nat.le_refl _) hbc)
      have Hqc_9 := Lib.hid (Hqc_8.out.below (Nat.le_refl _) hbc)
      clear He_8 Hbb_8 Hbox_8 Hqx_8 Hqy_8 Hqa_8 Hqb_8 Hqc_8
      clear HHY hbc
      cases bb
      · obtain ⟨_, z0, z1, z2⟩ := Hbox_9.out
        go_wp2_with fail
        clear z0 z1 z2
        refine (HBb.out _ _ Hqb_9.out Hqx_9.out).mono ?_
        rintro e y10 ⟨rfl, hbc⟩
        dsimp only
        have He_10 := Lib.hid (SlAt.mono He_9.out (Nat.le_refl _) hbc)
        have Hbb_10 := Lib.hid (Hbb_9.out.trans (hbc.mono Hbb_9.out.size))
        have Hbox_10 := Lib.hid (Hbox_9.out.below hbc)
        have Hqx_10 := Lib.hid (Hqx_9.out.below (Nat.le_refl _) hbc)
        have Hqy_10 := Lib.hid (Hqy_9.out.below (Nat.le_refl _) hbc)
        have Hqa_10 := Lib.hid (Hqa_9.out.below (Nat.le_refl _) hbc)
        have Hqb_10 := Lib.hid (Hqb_9.out.below (Nat.le_refl _) hbc)
        have Hqc_10 := Lib.hid (Hqc_9.out.below (Nat.le_refl _) hbc)
        clear He_9 Hbb_9 Hbox_9 Hqx_9 Hqy_9 Hqa_9 Hqb_9 Hqc_9
        clear hbc
        obtain ⟨_, z0, z1, z2⟩ := Hbox_10.out
        go_wp2_with fail
        clear z0 z1 z2
        refine (evAwake_any _).mono ?_
        rintro e y11 ⟨rfl, hbc⟩
        dsimp only
        have He_11 := Lib.hid (SlAt.mono He_10.out (Nat.le_refl _) hbc)
        have Hbb_11 := Lib.hid (Hbb_10.out.trans (hbc.mono Hbb_10.out.size))
        have Hbox_11 := Lib.hid (Hbox_10.out.below hbc)
        have Hqx_11 := Lib.hid (Hqx_10.out.below (Nat.le_refl _) hbc)
        have Hqy_11 := Lib.hid (Hqy_10.out.below (Nat.le_refl _) hbc)
        have Hqa_11 := Lib.hid (Hqa_10.out.below (Nat.le_refl _) hbc)
        have Hqb_11 := Lib.hid (Hqb_10.out.below (Nat.le_refl _) hbc)
        have Hqc_11 := Lib.hid (Hqc_10.out.below (Nat.le_refl _) hbc)
        clear He_10 Hbb_10 Hbox_10 Hqx_10 Hqy_10 Hqa_10 Hqb_10 Hqc_10
        go_wp2
        go_ret
        exact ⟨rfl, Hbb_11.out⟩
      · obtain ⟨_, z0, z1, z2⟩ := Hbox_9.out
        go_wp2_with fail
        clear z0 z1 z2
        refine (HBb.out _ _ Hqb_9.out Hqx_9.out).mono ?_
        rintro e y10 ⟨rfl, hbc⟩
        dsimp only
        have He_10 := Lib.hid (SlAt.mono He_9.out (Nat.le_refl _) hbc)
        have Hbb_10 := Lib.hid (Hbb_9.out.trans (hbc.mono Hbb_9.out.size))
        have Hbox_10 := Lib.hid (Hbox_9.out.below hbc)
        have Hqx_10 := Lib.hid (Hqx_9.out.below (Nat.le_refl _) hbc)
        have Hqy_10 := Lib.hid (Hqy_9.out.below (Nat.le_refl _) hbc)
        have Hqa_10 := Lib.hid (Hqa_9.out.below (Nat.le_refl _) hbc)
        have Hqb_10 := Lib.hid (Hqb_9.out.below (Nat.le_refl _) hbc)
        have Hqc_10 := Lib.hid (Hqc_9.out.below (Nat.le_refl _) hbc)
        clear He_9 Hbb_9 Hbox_9 Hqx_9 Hqy_9 Hqa_9 Hqb_9 Hqc_9
        clear hbc
        have hle : ∀ s, s < N → ub s ≤ ua s := by
          have h1 := Hbl.out
          rw [Bool.not_eq_true', anyN_false] at h1
          refine Hua.out.2.2 ub Hub.out.2.1 (fun s hs => ?_)
          have := of_decide_eq_false (h1 s hs)
          omega
        have HBc := HBe.out _ qb cb ub qa ca ua Hqb_10.out Hqa_10.out
        rw [any_le hle] at HBc
        have HBC := Lib.hid HBc
        clear HBc hle
        obtain ⟨_, z0, z1, z2⟩ := Hbox_10.out
        go_wp2_with fail
        clear z0 z1 z2
        refine (HBC.out).mono ?_
        rintro e y11 ⟨rfl, hbc⟩
        dsimp only
        have He_11 := Lib.hid (SlAt.mono He_10.out (Nat.le_refl _) hbc)
        have Hbb_11 := Lib.hid (Hbb_10.out.trans (hbc.mono Hbb_10.out.size))
        have Hbox_11 := Lib.hid (Hbox_10.out.below hbc)
        have Hqx_11 := Lib.hid (Hqx_10.out.below (Nat.le_refl _) hbc)
        have Hqy_11 := Lib.hid (Hqy_10.out.below (Nat.le_refl _) hbc)
        have Hqa_11 := Lib.hid (Hqa_10.out.below (Nat.le_refl _) hbc)
        have Hqb_11 := Lib.hid (Hqb_10.out.below (Nat.le_refl _) hbc)
        have Hqc_11 := Lib.hid (Hqc_10.out.below (Nat.le_refl _) hbc)
        clear He_10 Hbb_10 Hbox_10 Hqx_10 Hqy_10 Hqa_10 Hqb_10 Hqc_10
        clear HBC hbc
        obtain ⟨_, z0, z1, z2⟩ := Hbox_11.out
        go_wp2_with fail
        clear z0 z1 z2
        refine (evAwake_any _).mono ?_
        rintro e y12 ⟨rfl, hbc⟩
        dsimp only
        have He_12 := Lib.hid (SlAt.mono He_11.out (Nat.le_refl _) hbc)
        have Hbb_12 := Lib.hid (Hbb_11.out.trans (hbc.mono Hbb_11.out.size))
        have Hbox_12 := Lib.hid (Hbox_11.out.below hbc)
        have Hqx_12 := Lib.hid (Hqx_11.out.below (Nat.le_refl _) hbc)
        have Hqy_12 := Lib.hid (Hqy_11.out.below (Nat.le_refl _) hbc)
        have Hqa_12 := Lib.hid (Hqa_11.out.below (Nat.le_refl _) hbc)
        have Hqb_12 := Lib.hid (Hqb_11.out.below (Nat.le_refl _) hbc)
        have Hqc_12 := Lib.hid (Hqc_11.out.below (Nat.le_refl _) hbc)
        clear He_11 Hbb_11 Hbox_11 Hqx_11 Hqy_11 Hqa_11 Hqb_11 Hqc_11
        go_wp2
        go_ret
        exact ⟨rfl, Hbb_12.out⟩
    · obtain ⟨_, z0, z1, z2⟩ := Hbox_8.out
      go_wp2_with fail
      clear z0 z1 z2
      refine (HHY.out).mono ?_
      rintro e y9 ⟨rfl, hbc⟩
      dsimp only
      have He_9 := Lib.hid (SlAt.mono He_8.out (Nat.le_refl _) hbc)
      have Hbb_9 := Lib.hid (Hbb_8.out.trans (hbc.mono Hbb_8.out.size))
      have Hbox_9 := Lib.hid (Hbox_8.out.below hbc)
      have Hqx_9 := Lib.hid (Hqx_8.out.below (Nat.le_refl _) hbc)
      have Hqy_9 := Lib.hid (Hqy_8.out.below (Nat.le_refl _) hbc)
      have Hqa_9 := Lib.hid (Hqa_8.out.below (Nat.le_refl _) hbc)
      have Hqb_9 := Lib.hid (Hqb_8.out.below (Nat.le_refl _) hbc)
      have Hqc_9 := Lib.hid (Hqc_8.out.below (Nat.le_refl _) hbc)
      clear He_8 Hbb_8 Hbox_8 Hqx_8 Hqy_8 Hqa_8 Hqb_8 Hqc_8
      clear HHY hbc
      have hby : ∀ s, s < N → ub s = vecB ys s := GrO.unique Hub.out (GrO.self ((hldB_iff H0y.out).1 Hbh.out))
      have HEy := HEq.out _ qb cb ub _ N (vecB ys) Hqb_9.out Hqy_9.out
      rw [any_same hby] at HEy
      have HEY := Lib.hid HEy
      clear HEy hby
      obtain ⟨_, z0, z1, z2⟩ := Hbox_9.out
      go_wp2_with fail
      clear z0 z1 z2
      refine (HEY.out).mono ?_
      rintro e y10 ⟨rfl, hbc⟩
      dsimp only
      have He_10 := Lib.hid (SlAt.mono He_9.out (Nat.le_refl _) hbc)
      have Hbb_10 := Lib.hid (Hbb_9.out.trans (hbc.mono Hbb_9.out.size))
      have Hbox_10 := Lib.hid (Hbox_9.out.below hbc)
      have Hqx_10 := Lib.hid (Hqx_9.out.below (Nat.le_refl _) hbc)
      have Hqy_10 := Lib.hid (Hqy_9.out.below (Nat.le_refl _) hbc)
      have Hqa_10 := Lib.hid (Hqa_9.out.below (Nat.le_refl _) hbc)
      have Hqb_10 := Lib.hid (Hqb_9.out.below (Nat.le_refl _) hbc)
      have Hqc_10 := Lib.hid (Hqc_9.out.below (Nat.le_refl _) hbc)
      clear He_9 Hbb_9 Hbox_9 Hqx_9 Hqy_9 Hqa_9 Hqb_9 Hqc_9
      clear HEY hbc
      cases bb
      · obtain ⟨_, z0, z1, z2⟩ := Hbox_10.out
        go_wp2_with fail
        clear z0 z1 z2
        refine (HBb.out _ _ Hqb_10.out Hqx_10.out).mono ?_
        rintro e y11 ⟨rfl, hbc⟩
        dsimp only
        have He_11 := Lib.hid (SlAt.mono He_10.out (Nat.le_refl _) hbc)
        have Hbb_11 := Lib.hid (Hbb_10.out.trans (hbc.mono Hbb_10.out.size))
        have Hbox_11 := Lib.hid (Hbox_10.out.below hbc)
        have Hqx_11 := Lib.hid (Hqx_10.out.below (Nat.le_refl _) hbc)
        have Hqy_11 := Lib.hid (Hqy_10.out.below (Nat.le_refl _) hbc)
        have Hqa_11 := Lib.hid (Hqa_10.out.below (Nat.le_refl _) hbc)
        have Hqb_11 := Lib.hid (Hqb_10.out.below (Nat.le_refl _) hbc)
        have Hqc_11 := Lib.hid (Hqc_10.out.below (Nat.le_refl _) hbc)
        clear He_10 Hbb_10 Hbox_10 Hqx_10 Hqy_10 Hqa_10 Hqb_10 Hqc_10
        clear hbc
        obtain ⟨_, z0, z1, z2⟩ := Hbox_11.out
        go_wp2_with fail
        clear z0 z1 z2
        refine (evAwake_any _).mono ?_
        rintro e y12 ⟨rfl, hbc⟩
        dsimp only
        have He_12 := Lib.hid (SlAt.mono He_11.out (Nat.le_refl _) hbc)
        have Hbb_12 := Lib.hid (Hbb_11.out.trans (hbc.mono Hbb_11.out.size))
        have Hbox_12 := Lib.hid (Hbox_11.out.below hbc)
        have Hqx_12 := Lib.hid (Hqx_11.out.below (Nat.le_refl _) hbc)
        have Hqy_12 := Lib.hid (Hqy_11.out.below (Nat.le_refl _) hbc)
        have Hqa_12 := Lib.hid (Hqa_11.out.below (Nat.le_refl _) hbc)
        have Hqb_12 := Lib.hid (Hqb_11.out.below (Nat.le_refl _) hbc)
        have Hqc_12 := Lib.hid (Hqc_11.out.below (Nat.le_refl _) hbc)
        clear He_11 Hbb_11 Hbox_11 Hqx_11 Hqy_11 Hqa_11 Hqb_11 Hqc_11
        go_wp2
        go_ret
        exact ⟨rfl, Hbb_12.out⟩
      · obtain ⟨_, z0, z1, z2⟩ := Hbox_10.out
        go_wp2_with fail
        clear z0 z1 z2
        refine (HBb.out _ _ Hqb_10.out Hqx_10.out).mono ?_
        rintro e y11 ⟨rfl, hbc⟩
        dsimp only
        have He_11 := Lib.hid (SlAt.mono He_10.out (Nat.le_refl _) hbc)
        have Hbb_11 := Lib.hid (Hbb_10.out.trans (hbc.mono Hbb_10.out.size))
        have Hbox_11 := Lib.hid (Hbox_10.out.below hbc)
        have Hqx_11 := Lib.hid (Hqx_10.out.below (Nat.le_refl _) hbc)
        have Hqy_11 := Lib.hid (Hqy_10.out.below (Nat.le_refl _) hbc)
        have Hqa_11 := Lib.hid (Hqa_10.out.below (Nat.le_refl _) hbc)
        have Hqb_11 := Lib.hid (Hqb_10.out.below (Nat.le_refl _) hbc)
        have Hqc_11 := Lib.hid (Hqc_10.out.below (Nat.le_refl _) hbc)
        clear He_10 Hbb_10 Hbox_10 Hqx_10 Hqy_10 Hqa_10 Hqb_10 Hqc_10
        clear hbc
        have hle : ∀ s, s < N → ub s ≤ ua s := by
          have h1 := Hbl.out
          rw [Bool.not_eq_true', anyN_false] at h1
          refine Hua.out.2.2 ub Hub.out.2.1 (fun s hs => ?_)
          have := of_decide_eq_false (h1 s hs)
          omega
        have HBc := HBe.out _ qb cb ub qa ca ua Hqb_11.out Hqa_11.out
        rw [any_le hle] at HBc
        have HBC := Lib.hid HBc
        clear HBc hle
        obtain ⟨_, z0, z1, z2⟩ := Hbox_11.out
        go_wp2_with fail
        clear z0 z1 z2
        refine (HBC.out).mono ?_
        rintro e y12 ⟨rfl, hbc⟩
        dsimp only
        have He_12 := Lib.hid (SlAt.mono He_11.out (Nat.le_refl _) hbc)
        have Hbb_12 := Lib.hid (Hbb_11.out.trans (hbc.mono Hbb_11.out.size))
        have Hbox_12 := Lib.hid (Hbox_11.out.below hbc)
        have Hqx_12 := Lib.hid (Hqx_11.out.below (Nat.le_refl _) hbc)
        have Hqy_12 := Lib.hid (Hqy_11.out.below (Nat.le_refl _) hbc)
        have Hqa_12 := Lib.hid (Hqa_11.out.below (Nat.le_refl _) hbc)
        have Hqb_12 := Lib.hid (Hqb_11.out.below (Nat.le_refl _) hbc)
        have Hqc_12 := Lib.hid (Hqc_11.out.below (Nat.le_refl _) hbc)
        clear He_11 Hbb_11 Hbox_11 Hqx_11 Hqy_11 Hqa_11 Hqb_11 Hqc_11
        clear HBC hbc
        obtain ⟨_, z0, z1, z2⟩ := Hbox_12.out
        go_wp2_with fail
        clear z0 z1 z2
        refine (evAwake_any _).mono ?_
        rintro e y13 ⟨rfl, hbc⟩
        dsimp only
        have He_13 := Lib.hid (SlAt.mono He_12.out (Nat.le_refl _) hbc)
        have Hbb_13 := Lib.hid (Hbb_12.out.trans (hbc.mono Hbb_12.out.size))
        have Hbox_13 := Lib.hid (Hbox_12.out.below hbc)
        have Hqx_13 := Lib.hid (Hqx_12.out.below (Nat.le_refl _) hbc)
        have Hqy_13 := Lib.hid (Hqy_12.out.below (Nat.le_refl _) hbc)
        have Hqa_13 := Lib.hid (Hqa_12.out.below (Nat.le_refl _) hbc)
        have Hqb_13 := Lib.hid (Hqb_12.out.below (Nat.le_refl _) hbc)
        have Hqc_13 := Lib.hid (Hqc_12.out.below (Nat.le_refl _) hbc)
        clear He_12 Hbb_12 Hbox_12 Hqx_12 Hqy_12 Hqa_12 Hqb_12 Hqc_12
        go_wp2
        go_ret
        exact ⟨rfl, Hbb_13.out⟩
  · have Hbz := Lib.hid hbz
    clear hbz
    obtain ⟨_, z0, z1, z2⟩ := Hbox_7.out
    have hmx := @maxI0 Try.prog
    go_upto_region 9 with (fail)
    clear z0 z1 z2
    obtain ⟨X, hX⟩ : ∃ Z, y7 = Z := ⟨_, rfl⟩
    rw [hX] at He_7 Hbb_7 Hbox_7 Hqx_7 Hqy_7 Hqa_7 Hqb_7 Hqc_7 ⊢
    clear hX
    have HEq9 := Lib.hid (fun W (hW : Below X.heap.size X W) => HEq.out W qc cc uc qb cb ub (Hqc_7.out.below (Nat.le_refl _) hW) (Hqb_7.out.below (Nat.le_refl _) hW))
    rw [any_same Hcb.out] at HEq9
    have HZ9 := Lib.hid (fun W (hW : Below X.heap.size X W) => HZe.out W qa ca ua (Hqa_7.out.below (Nat.le_refl _) hW))
    rw [Hbz.out] at HZ9
    have HC9 := Lib.hid (fun W (hW : Below X.heap.size X W) => HCk.out W qa ca ua (SlAt.mono He_7.out (Nat.le_refl _) hW) (Hqa_7.out.below (Nat.le_refl _) hW) (fun s hs => by have := Hva.out s hs; omega))
    rw [ckV_ok Hbz.out Hua.out.2.1] at HC9
    clear Hbz
    obtain ⟨SS, hSe⟩ : ∃ SS : World → Prop, SS = fun W => W.cell? ⟨g0, 0, none⟩ = some (.int .i64 LL) ∧ W.cell? ⟨g0, 1, none⟩ = some (.int .i64 (N : Int)) ∧ W.cell? ⟨g0, 2, none⟩ = some (.slice p n c) := ⟨_, rfl⟩
    have HS : Hid (∀ W, Below X.heap.size X W → SS W) := Lib.hid (fun W hW => by
      obtain ⟨_, b0, b1, b2⟩ := Hbox_7.out.below hW
      rw [hSe]; exact ⟨b0, b1, b2⟩)
    have hd : Below X.heap.size X X.drew := (Below.refl _ _).drew
    refine wp_region_held_drew (S := SS) (by kernel_rfl) (HS.out _ hd) (fun hSS => ?_)
    refine wpAnyH_take (i := 0) (v := ?_) rfl (by kernel_rfl) (by kernel_rfl) (by kernel_rfl) (fun _ _ _ h => h) (Or.inl ⟨by rfl, ?_⟩) (HS.out _ hd) ?_
    rotate_left 1
    next => intro w hSw; rw [hSe] at hSw; obtain ⟨s1, s2, s3⟩ := hSw; go_simp; try with_reducible rfl
    try simp only [Act.put, List.getElem_toArray, List.getElem_cons_zero, List.getElem_cons_succ, List.setIfInBounds_toArray, List.set_cons_zero, List.set_cons_succ]
    refine wpAnyH_take (i := 1) (v := ?_) rfl (by kernel_rfl) (by kernel_rfl) (by kernel_rfl) (fun _ _ _ h => h) (Or.inl ⟨by rfl, ?_⟩) (HS.out _ hd) ?_
    rotate_left 1
    next => intro w hSw; rw [hSe] at hSw; obtain ⟨s1, s2, s3⟩ := hSw; go_simp; try with_reducible rfl
    try simp only [Act.put, List.getElem_toArray, List.getElem_cons_zero, List.getElem_cons_succ, List.setIfInBounds_toArray, List.set_cons_zero, List.set_cons_succ]
    try simp only [Act.put, List.getElem_toArray, List.getElem_cons_zero, List.getElem_cons_succ, List.setIfInBounds_toArray, List.set_cons_zero, List.set_cons_succ]
    refine wpAnyH_ready (rs := [2]) (by kernel_rfl) (by simp) ?_
    refine AllReadyH.cons rfl (fun K hK => ?_) AllReadyH.nil
    go_simp
    refine hK.out _ _ (HS.out _ hd) (fun _ => ?_)
    clear hK K
    refine wpAnyH_take (i := 3) (v := ?_) rfl (by kernel_rfl) (by kernel_rfl) (by kernel_rfl) (fun _ _ _ h => h) (Or.inl ⟨by rfl, ?_⟩) (HS.out _ hd) ?_
    rotate_left 1
    next => intro w hSw; rw [hSe] at hSw; obtain ⟨s1, s2, s3⟩ := hSw; go_simp; try with_reducible rfl
    try simp only [Act.put, List.getElem_toArray, List.getElem_cons_zero, List.getElem_cons_succ, List.setIfInBounds_toArray, List.set_cons_zero, List.set_cons_succ]
    refine wpAnyH_take (i := 4) (v := ?_) rfl (by kernel_rfl) (by kernel_rfl) (by kernel_rfl) (fun _ _ _ h => h) (Or.inl ⟨by rfl, ?_⟩) (HS.out _ hd) ?_
    rotate_left 1
    next => intro w hSw; rw [hSe] at hSw; obtain ⟨s1, s2, s3⟩ := hSw; go_simp; try with_reducible rfl
    try simp only [Act.put, List.getElem_toArray, List.getElem_cons_zero, List.getElem_cons_succ, List.setIfInBounds_toArray, List.set_cons_zero, List.set_cons_succ]
    refine wpAnyH_take (i := 5) (v := ?_) rfl (by kernel_rfl) (by kernel_rfl) (by kernel_rfl) (fun _ _ _ h => h) (Or.inl ⟨by rfl, ?_⟩) (HS.out _ hd) ?_
    rotate_left 1
    next => intro w hSw; rw [hSe] at hSw; obtain ⟨s1, s2, s3⟩ := hSw; go_simp; try with_reducible rfl
    try simp only [Act.put, List.getElem_toArray, List.getElem_cons_zero, List.getElem_cons_succ, List.setIfInBounds_toArray, List.set_cons_zero, List.set_cons_succ]
    refine wpAnyH_take (i := 6) (v := ?_) rfl (by kernel_rfl) (by kernel_rfl) (by kernel_rfl) (fun _ _ _ h => h) (Or.inl ⟨by rfl, ?_⟩) (HS.out _ hd) ?_
    rotate_left 1
    next => intro w hSw; rw [hSe] at hSw; obtain ⟨s1, s2, s3⟩ := hSw; go_simp; try with_reducible rfl
    try simp only [Act.put, List.getElem_toArray, List.getElem_cons_zero, List.getElem_cons_succ, List.setIfInBounds_toArray, List.set_cons_zero, List.set_cons_succ]
    try simp only [Act.put, List.getElem_toArray, List.getElem_cons_zero, List.getElem_cons_succ, List.setIfInBounds_toArray, List.set_cons_zero, List.set_cons_succ]
    refine wpAnyH_ready (rs := [7]) (by kernel_rfl) (by simp) ?_
    refine AllReadyH.cons rfl (fun K hK => ?_) AllReadyH.nil
    go_simp
    refine (HEq9.out _ hd).mono ?_
    rintro e w6 ⟨rfl, hbc⟩
    have hb6 : Below X.heap.size X w6 := hd.trans (hbc.mono hd.size)
    dsimp only
    refine hK.out _ _ (HS.out _ hb6) (fun _ => ?_)
    clear hK K hbc
    refine wpAnyH_take (i := 8) (v := ?_) rfl (by kernel_rfl) (by kernel_rfl) (by kernel_rfl) (fun _ _ _ h => h) (Or.inl ⟨by rfl, ?_⟩) (HS.out _ hb6) ?_
    rotate_left 1
    next => intro w hSw; rw [hSe] at hSw; obtain ⟨s1, s2, s3⟩ := hSw; go_simp; try with_reducible rfl
    try simp only [Act.put, List.getElem_toArray, List.getElem_cons_zero, List.getElem_cons_succ, List.setIfInBounds_toArray, List.set_cons_zero, List.set_cons_succ]
    refine wpAnyH_take (i := 9) (v := ?_) rfl (by kernel_rfl) (by kernel_rfl) (by kernel_rfl) (fun _ _ _ h => h) (Or.inl ⟨by rfl, ?_⟩) (HS.out _ hb6) ?_
    rotate_left 1
    next => intro w hSw; rw [hSe] at hSw; obtain ⟨s1, s2, s3⟩ := hSw; go_simp; try with_reducible rfl
    try simp only [Act.put, List.getElem_toArray, List.getElem_cons_zero, List.getElem_cons_succ, List.setIfInBounds_toArray, List.set_cons_zero, List.set_cons_succ]
    refine wpAnyH_take (i := 10) (v := ?_) rfl (by kernel_rfl) (by kernel_rfl) (by kernel_rfl) (fun _ _ _ h => h) (Or.inl ⟨by rfl, ?_⟩) (HS.out _ hb6) ?_
    rotate_left 1
    next => intro w hSw; rw [hSe] at hSw; obtain ⟨s1, s2, s3⟩ := hSw; go_simp; try with_reducible rfl
    try simp only [Act.put, List.getElem_toArray, List.getElem_cons_zero, List.getElem_cons_succ, List.setIfInBounds_toArray, List.set_cons_zero, List.set_cons_succ]
    refine wpAnyH_take (i := 11) (v := ?_) rfl (by kernel_rfl) (by kernel_rfl) (by kernel_rfl) (fun _ _ _ h => h) (Or.inl ⟨by rfl, ?_⟩) (HS.out _ hb6) ?_
    rotate_left 1
    next => intro w hSw; rw [hSe] at hSw; obtain ⟨s1, s2, s3⟩ := hSw; go_simp; try with_reducible rfl
    try simp only [Act.put, List.getElem_toArray, List.getElem_cons_zero, List.getElem_cons_succ, List.setIfInBounds_toArray, List.set_cons_zero, List.set_cons_succ]
    refine wpAnyH_take (i := 13) (v := ?_) rfl (by kernel_rfl) (by kernel_rfl) (by kernel_rfl) (fun _ _ _ h => h) (Or.inl ⟨by rfl, ?_⟩) (HS.out _ hb6) ?_
    rotate_left 1
    next => intro w hSw; rw [hSe] at hSw; obtain ⟨s1, s2, s3⟩ := hSw; go_simp; try with_reducible rfl
    try simp only [Act.put, List.getElem_toArray, List.getElem_cons_zero, List.getElem_cons_succ, List.setIfInBounds_toArray, List.set_cons_zero, List.set_cons_succ]
    refine wpAnyH_take (i := 14) (v := ?_) rfl (by kernel_rfl) (by kernel_rfl) (by kernel_rfl) (fun _ _ _ h => h) (Or.inl ⟨by rfl, ?_⟩) (HS.out _ hb6) ?_
    rotate_left 1
    next => intro w hSw; rw [hSe] at hSw; obtain ⟨s1, s2, s3⟩ := hSw; go_simp; try with_reducible rfl
    try simp only [Act.put, List.getElem_toArray, List.getElem_cons_zero, List.getElem_cons_succ, List.setIfInBounds_toArray, List.set_cons_zero, List.set_cons_succ]
    refine wpAnyH_take (i := 15) (v := ?_) rfl (by kernel_rfl) (by kernel_rfl) (by kernel_rfl) (fun _ _ _ h => h) (Or.inl ⟨by rfl, ?_⟩) (HS.out _ hb6) ?_
    rotate_left 1
    next => intro w hSw; rw [hSe] at hSw; obtain ⟨s1, s2, s3⟩ := hSw; go_simp; try with_reducible rfl
    try simp only [Act.put, List.getElem_toArray, List.getElem_cons_zero, List.getElem_cons_succ, List.setIfInBounds_toArray, List.set_cons_zero, List.set_cons_succ]
    try simp only [Act.put, List.getElem_toArray, List.getElem_cons_zero, List.getElem_cons_succ, List.setIfInBounds_toArray, List.set_cons_zero, List.set_cons_succ]
    refine wpAnyH_ready (rs := [12]) (by kernel_rfl) (by simp) ?_
    refine AllReadyH.cons rfl (fun K hK => ?_) AllReadyH.nil
    go_simp
    refine (HZ9.out _ hb6).mono ?_
    rintro e w7 ⟨rfl, hbc⟩
    have hb7 : Below X.heap.size X w7 := hb6.trans (hbc.mono hb6.size)
    dsimp only
    refine hK.out _ _ (HS.out _ hb7) (fun _ => ?_)
    clear hK K hbc
    try simp only [Act.put, List.getElem_toArray, List.getElem_cons_zero, List.getElem_cons_succ, List.setIfInBounds_toArray, List.set_cons_zero, List.set_cons_succ]
    refine wpAnyH_ready (rs := [16]) (by kernel_rfl) (by simp) ?_
    refine AllReadyH.cons rfl (fun K hK => ?_) AllReadyH.nil
    go_simp
    refine (HC9.out _ hb7).mono ?_
    rintro e w8 ⟨rfl, hbc⟩
    have hb8 : Below X.heap.size X w8 := hb7.trans (hbc.mono hb7.size)
    dsimp only
    refine hK.out _ _ (HS.out _ hb8) (fun _ => ?_)
    clear hK K hbc
    refine wpAnyH_take (i := 17) (v := ?_) rfl (by kernel_rfl) (by kernel_rfl) (by kernel_rfl) (fun _ _ _ h => h) (Or.inl ⟨by rfl, ?_⟩) (HS.out _ hb8) ?_
    rotate_left 1
    next => intro w hSw; rw [hSe] at hSw; obtain ⟨s1, s2, s3⟩ := hSw; go_simp; try with_reducible rfl
    try simp only [Act.put, List.getElem_toArray, List.getElem_cons_zero, List.getElem_cons_succ, List.setIfInBounds_toArray, List.set_cons_zero, List.set_cons_succ]
    refine wpAnyH_take (i := 18) (v := ?_) rfl (by kernel_rfl) (by kernel_rfl) (by kernel_rfl) (fun _ _ _ h => h) (Or.inl ⟨by rfl, ?_⟩) (HS.out _ hb8) ?_
    rotate_left 1
    next => intro w hSw; rw [hSe] at hSw; obtain ⟨s1, s2, s3⟩ := hSw; go_simp; try with_reducible rfl
    try simp only [Act.put, List.getElem_toArray, List.getElem_cons_zero, List.getElem_cons_succ, List.setIfInBounds_toArray, List.set_cons_zero, List.set_cons_succ]
    refine wpAnyH_take (i := 19) (v := ?_) rfl (by kernel_rfl) (by kernel_rfl) (by kernel_rfl) (fun _ _ _ h => h) (Or.inl ⟨by rfl, ?_⟩) (HS.out _ hb8) ?_
    rotate_left 1
    next => intro w hSw; rw [hSe] at hSw; obtain ⟨s1, s2, s3⟩ := hSw; go_simp; try with_reducible rfl
    try simp only [Act.put, List.getElem_toArray, List.getElem_cons_zero, List.getElem_cons_succ, List.setIfInBounds_toArray, List.set_cons_zero, List.set_cons_succ]
    refine wpAnyH_done (by kernel_rfl) ?_ _
    have hbc := hb8
    have He_8 := Lib.hid (SlAt.mono He_7.out (Nat.le_refl _) hbc)
    have Hbb_8 := Lib.hid (Hbb_7.out.trans (hbc.mono Hbb_7.out.size))
    have Hbox_8 := Lib.hid (Hbox_7.out.below hbc)
    have Hqx_8 := Lib.hid (Hqx_7.out.below (Nat.le_refl _) hbc)
    have Hqy_8 := Lib.hid (Hqy_7.out.below (Nat.le_refl _) hbc)
    have Hqa_8 := Lib.hid (Hqa_7.out.below (Nat.le_refl _) hbc)
    have Hqb_8 := Lib.hid (Hqb_7.out.below (Nat.le_refl _) hbc)
    have Hqc_8 := Lib.hid (Hqc_7.out.below (Nat.le_refl _) hbc)
    clear He_7 Hbb_7 Hbox_7 Hqx_7 Hqy_7 Hqa_7 Hqb_7 Hqc_7
    clear hbc HS hSe hSS hd hmx HEq9 HZ9 HC9
    obtain ⟨bh, hbh⟩ : ∃ b, hldB (frE E) (toE E) n N m (vecB ys) = b := ⟨_, rfl⟩
    have HHy := HHo.out _ _ N (vecB ys) He_8.out Hqy_8.out (fun s _ => vecB_le ys s)
    rw [hbh] at HHy
    have HHY := Lib.hid HHy
    have Hbh := Lib.hid hbh
    clear HHy hbh
    obtain ⟨bb, hbb⟩ : ∃ b, (!anyN (fun k => decide (vecB xs k < ub k)) N) = b := ⟨_, rfl⟩
    have HBb := Lib.hid (fun W q (h1 : VRow W qb N ub) (h2 : VRow W q N (vecB xs)) => HBe.out W qb cb ub q N (vecB xs) h1 h2)
    rw [hbb] at HBb
    have Hbl := Lib.hid hbb
    clear hbb
    cases bh
    · obtain ⟨_, z0, z1, z2⟩ := Hbox_8.out
      go_wp2_with fail
      clear z0 z1 z2
      refine (HHY.out).mono ?_
      rintro e y9 ⟨rfl, hbc⟩
      dsimp only
      have He_9 := Lib.hid (SlAt.mono He_8.out (Nat.le_refl _) hbc)
      have Hbb_9 := Lib.hid (Hbb_8.out.trans (hbc.mono Hbb_8.out.size))
      have Hbox_9 := Lib.hid (Hbox_8.out.below hbc)
      have Hqx_9 := Lib.hid (Hqx_8.out.below (Nat.le_refl _) hbc)
      have Hqy_9 := Lib.hid (Hqy_8.out.below (Nat.le_refl _) hbc)
      have Hqa_9 := Lib.hid (Hqa_8.out.below (Nat.le_refl _) hbc)
      have Hqb_9 := Lib.hid (Hqb_8.out.below (Nat.le_refl _) hbc)
      have Hqc_9 := Lib.hid (Hqc_8.out.below (Nat.le_refl _) hbc)
      clear He_8 Hbb_8 Hbox_8 Hqx_8 Hqy_8 Hqa_8 Hqb_8 Hqc_8
      clear HHY hbc
      cases bb
      · obtain ⟨_, z0, z1, z2⟩ := Hbox_9.out
        go_wp2_with fail
        clear z0 z1 z2
        refine (HBb.out _ _ Hqb_9.out Hqx_9.out).mono ?_
        rintro e y10 ⟨rfl, hbc⟩
        dsimp only
        have He_10 := Lib.hid (SlAt.mono He_9.out (Nat.le_refl _) hbc)
        have Hbb_10 := Lib.hid (Hbb_9.out.trans (hbc.mono Hbb_9.out.size))
        have Hbox_10 := Lib.hid (Hbox_9.out.below hbc)
        have Hqx_10 := Lib.hid (Hqx_9.out.below (Nat.le_refl _) hbc)
        have Hqy_10 := Lib.hid (Hqy_9.out.below (Nat.le_refl _) hbc)
        have Hqa_10 := Lib.hid (Hqa_9.out.below (Nat.le_refl _) hbc)
        have Hqb_10 := Lib.hid (Hqb_9.out.below (Nat.le_refl _) hbc)
        have Hqc_10 := Lib.hid (Hqc_9.out.below (Nat.le_refl _) hbc)
        clear He_9 Hbb_9 Hbox_9 Hqx_9 Hqy_9 Hqa_9 Hqb_9 Hqc_9
        clear hbc
        obtain ⟨_, z0, z1, z2⟩ := Hbox_10.out
        go_wp2_with fail
        clear z0 z1 z2
        refine (evAwake_any _).mono ?_
        rintro e y11 ⟨rfl, hbc⟩
        dsimp only
        have He_11 := Lib.hid (SlAt.mono He_10.out (Nat.le_refl _) hbc)
        have Hbb_11 := Lib.hid (Hbb_10.out.trans (hbc.mono Hbb_10.out.size))
        have Hbox_11 := Lib.hid (Hbox_10.out.below hbc)
        have Hqx_11 := Lib.hid (Hqx_10.out.below (Nat.le_refl _) hbc)
        have Hqy_11 := Lib.hid (Hqy_10.out.below (Nat.le_refl _) hbc)
        have Hqa_11 := Lib.hid (Hqa_10.out.below (Nat.le_refl _) hbc)
        have Hqb_11 := Lib.hid (Hqb_10.out.below (Nat.le_refl _) hbc)
        have Hqc_11 := Lib.hid (Hqc_10.out.below (Nat.le_refl _) hbc)
        clear He_10 Hbb_10 Hbox_10 Hqx_10 Hqy_10 Hqa_10 Hqb_10 Hqc_10
        go_wp2
        go_ret
        exact ⟨rfl, Hbb_11.out⟩
      · obtain ⟨_, z0, z1, z2⟩ := Hbox_9.out
        go_wp2_with fail
        clear z0 z1 z2
        refine (HBb.out _ _ Hqb_9.out Hqx_9.out).mono ?_
        rintro e y10 ⟨rfl, hbc⟩
        dsimp only
        have He_10 := Lib.hid (SlAt.mono He_9.out (Nat.le_refl _) hbc)
        have Hbb_10 := Lib.hid (Hbb_9.out.trans (hbc.mono Hbb_9.out.size))
        have Hbox_10 := Lib.hid (Hbox_9.out.below hbc)
        have Hqx_10 := Lib.hid (Hqx_9.out.below (Nat.le_refl _) hbc)
        have Hqy_10 := Lib.hid (Hqy_9.out.below (Nat.le_refl _) hbc)
        have Hqa_10 := Lib.hid (Hqa_9.out.below (Nat.le_refl _) hbc)
        have Hqb_10 := Lib.hid (Hqb_9.out.below (Nat.le_refl _) hbc)
        have Hqc_10 := Lib.hid (Hqc_9.out.below (Nat.le_refl _) hbc)
        clear He_9 Hbb_9 Hbox_9 Hqx_9 Hqy_9 Hqa_9 Hqb_9 Hqc_9
        clear hbc
        have hle : ∀ s, s < N → ub s ≤ ua s := by
          have h1 := Hbl.out
          rw [Bool.not_eq_true', anyN_false] at h1
          refine Hua.out.2.2 ub Hub.out.2.1 (fun s hs => ?_)
          have := of_decide_eq_false (h1 s hs)
          omega
        have HBc := HBe.out _ qb cb ub qa ca ua Hqb_10.out Hqa_10.out
        rw [any_le hle] at HBc
        have HBC := Lib.hid HBc
        clear HBc hle
        obtain ⟨_, z0, z1, z2⟩ := Hbox_10.out
        go_wp2_with fail
        clear z0 z1 z2
        refine (HBC.out).mono ?_
        rintro e y11 ⟨rfl, hbc⟩
        dsimp only
        have He_11 := Lib.hid (SlAt.mono He_10.out (Nat.le_refl _) hbc)
        have Hbb_11 := Lib.hid (Hbb_10.out.trans (hbc.mono Hbb_10.out.size))
        have Hbox_11 := Lib.hid (Hbox_10.out.below hbc)
        have Hqx_11 := Lib.hid (Hqx_10.out.below (Nat.le_refl _) hbc)
        have Hqy_11 := Lib.hid (Hqy_10.out.below (Nat.le_refl _) hbc)
        have Hqa_11 := Lib.hid (Hqa_10.out.below (Nat.le_refl _) hbc)
        have Hqb_11 := Lib.hid (Hqb_10.out.below (Nat.le_refl _) hbc)
        have Hqc_11 := Lib.hid (Hqc_10.out.below (Nat.le_refl _) hbc)
        clear He_10 Hbb_10 Hbox_10 Hqx_10 Hqy_10 Hqa_10 Hqb_10 Hqc_10
        clear HBC hbc
        obtain ⟨_, z0, z1, z2⟩ := Hbox_11.out
        go_wp2_with fail
        clear z0 z1 z2
        refine (evAwake_any _).mono ?_
        rintro e y12 ⟨rfl, hbc⟩
        dsimp only
        have He_12 := Lib.hid (SlAt.mono He_11.out (Nat.le_refl _) hbc)
        have Hbb_12 := Lib.hid (Hbb_11.out.trans (hbc.mono Hbb_11.out.size))
        have Hbox_12 := Lib.hid (Hbox_11.out.below hbc)
        have Hqx_12 := Lib.hid (Hqx_11.out.below (Nat.le_refl _) hbc)
        have Hqy_12 := Lib.hid (Hqy_11.out.below (Nat.le_refl _) hbc)
        have Hqa_12 := Lib.hid (Hqa_11.out.below (Nat.le_refl _) hbc)
        have Hqb_12 := Lib.hid (Hqb_11.out.below (Nat.le_refl _) hbc)
        have Hqc_12 := Lib.hid (Hqc_11.out.below (Nat.le_refl _) hbc)
        clear He_11 Hbb_11 Hbox_11 Hqx_11 Hqy_11 Hqa_11 Hqb_11 Hqc_11
        go_wp2
        go_ret
        exact ⟨rfl, Hbb_12.out⟩
    · obtain ⟨_, z0, z1, z2⟩ := Hbox_8.out
      go_wp2_with fail
      clear z0 z1 z2
      refine (HHY.out).mono ?_
      rintro e y9 ⟨rfl, hbc⟩
      dsimp only
      have He_9 := Lib.hid (SlAt.mono He_8.out (Nat.le_refl _) hbc)
      have Hbb_9 := Lib.hid (Hbb_8.out.trans (hbc.mono Hbb_8.out.size))
      have Hbox_9 := Lib.hid (Hbox_8.out.below hbc)
      have Hqx_9 := Lib.hid (Hqx_8.out.below (Nat.le_refl _) hbc)
      have Hqy_9 := Lib.hid (Hqy_8.out.below (Nat.le_refl _) hbc)
      have Hqa_9 := Lib.hid (Hqa_8.out.below (Nat.le_refl _) hbc)
      have Hqb_9 := Lib.hid (Hqb_8.out.below (Nat.le_refl _) hbc)
      have Hqc_9 := Lib.hid (Hqc_8.out.below (Nat.le_refl _) hbc)
      clear He_8 Hbb_8 Hbox_8 Hqx_8 Hqy_8 Hqa_8 Hqb_8 Hqc_8
      clear HHY hbc
      have hby : ∀ s, s < N → ub s = vecB ys s := GrO.unique Hub.out (GrO.self ((hldB_iff H0y.out).1 Hbh.out))
      have HEy := HEq.out _ qb cb ub _ N (vecB ys) Hqb_9.out Hqy_9.out
      rw [any_same hby] at HEy
      have HEY := Lib.hid HEy
      clear HEy hby
      obtain ⟨_, z0, z1, z2⟩ := Hbox_9.out
      go_wp2_with fail
      clear z0 z1 z2
      refine (HEY.out).mono ?_
      rintro e y10 ⟨rfl, hbc⟩
      dsimp only
      have He_10 := Lib.hid (SlAt.mono He_9.out (Nat.le_refl _) hbc)
      have Hbb_10 := Lib.hid (Hbb_9.out.trans (hbc.mono Hbb_9.out.size))
      have Hbox_10 := Lib.hid (Hbox_9.out.below hbc)
      have Hqx_10 := Lib.hid (Hqx_9.out.below (Nat.le_refl _) hbc)
      have Hqy_10 := Lib.hid (Hqy_9.out.below (Nat.le_refl _) hbc)
      have Hqa_10 := Lib.hid (Hqa_9.out.below (Nat.le_refl _) hbc)
      have Hqb_10 := Lib.hid (Hqb_9.out.below (Nat.le_refl _) hbc)
      have Hqc_10 := Lib.hid (Hqc_9.out.below (Nat.le_refl _) hbc)
      clear He_9 Hbb_9 Hbox_9 Hqx_9 Hqy_9 Hqa_9 Hqb_9 Hqc_9
      clear HEY hbc
      cases bb
      · obtain ⟨_, z0, z1, z2⟩ := Hbox_10.out
        go_wp2_with fail
        clear z0 z1 z2
        refine (HBb.out _ _ Hqb_10.out Hqx_10.out).mono ?_
        rintro e y11 ⟨rfl, hbc⟩
        dsimp only
        have He_11 := Lib.hid (SlAt.mono He_10.out (Nat.le_refl _) hbc)
        have Hbb_11 := Lib.hid (Hbb_10.out.trans (hbc.mono Hbb_10.out.size))
        have Hbox_11 := Lib.hid (Hbox_10.out.below hbc)
        have Hqx_11 := Lib.hid (Hqx_10.out.below (Nat.le_refl _) hbc)
        have Hqy_11 := Lib.hid (Hqy_10.out.below (Nat.le_refl _) hbc)
        have Hqa_11 := Lib.hid (Hqa_10.out.below (Nat.le_refl _) hbc)
        have Hqb_11 := Lib.hid (Hqb_10.out.below (Nat.le_refl _) hbc)
        have Hqc_11 := Lib.hid (Hqc_10.out.below (Nat.le_refl _) hbc)
        clear He_10 Hbb_10 Hbox_10 Hqx_10 Hqy_10 Hqa_10 Hqb_10 Hqc_10
        clear hbc
        obtain ⟨_, z0, z1, z2⟩ := Hbox_11.out
        go_wp2_with fail
        clear z0 z1 z2
        refine (evAwake_any _).mono ?_
        rintro e y12 ⟨rfl, hbc⟩
        dsimp only
        have He_12 := Lib.hid (SlAt.mono He_11.out (Nat.le_refl _) hbc)
        have Hbb_12 := Lib.hid (Hbb_11.out.trans (hbc.mono Hbb_11.out.size))
        have Hbox_12 := Lib.hid (Hbox_11.out.below hbc)
        have Hqx_12 := Lib.hid (Hqx_11.out.below (Nat.le_refl _) hbc)
        have Hqy_12 := Lib.hid (Hqy_11.out.below (Nat.le_refl _) hbc)
        have Hqa_12 := Lib.hid (Hqa_11.out.below (Nat.le_refl _) hbc)
        have Hqb_12 := Lib.hid (Hqb_11.out.below (Nat.le_refl _) hbc)
        have Hqc_12 := Lib.hid (Hqc_11.out.below (Nat.le_refl _) hbc)
        clear He_11 Hbb_11 Hbox_11 Hqx_11 Hqy_11 Hqa_11 Hqb_11 Hqc_11
        go_wp2
        go_ret
        exact ⟨rfl, Hbb_12.out⟩
      · obtain ⟨_, z0, z1, z2⟩ := Hbox_10.out
        go_wp2_with fail
        clear z0 z1 z2
        refine (HBb.out _ _ Hqb_10.out Hqx_10.out).mono ?_
        rintro e y11 ⟨rfl, hbc⟩
        dsimp only
        have He_11 := Lib.hid (SlAt.mono He_10.out (Nat.le_refl _) hbc)
        have Hbb_11 := Lib.hid (Hbb_10.out.trans (hbc.mono Hbb_10.out.size))
        have Hbox_11 := Lib.hid (Hbox_10.out.below hbc)
        have Hqx_11 := Lib.hid (Hqx_10.out.below (Nat.le_refl _) hbc)
        have Hqy_11 := Lib.hid (Hqy_10.out.below (Nat.le_refl _) hbc)
        have Hqa_11 := Lib.hid (Hqa_10.out.below (Nat.le_refl _) hbc)
        have Hqb_11 := Lib.hid (Hqb_10.out.below (Nat.le_refl _) hbc)
        have Hqc_11 := Lib.hid (Hqc_10.out.below (Nat.le_refl _) hbc)
        clear He_10 Hbb_10 Hbox_10 Hqx_10 Hqy_10 Hqa_10 Hqb_10 Hqc_10
        clear hbc
        have hle : ∀ s, s < N → ub s ≤ ua s := by
          have h1 := Hbl.out
          rw [Bool.not_eq_true', anyN_false] at h1
          refine Hua.out.2.2 ub Hub.out.2.1 (fun s hs => ?_)
          have := of_decide_eq_false (h1 s hs)
          omega
        have HBc := HBe.out _ qb cb ub qa ca ua Hqb_11.out Hqa_11.out
        rw [any_le hle] at HBc
        have HBC := Lib.hid HBc
        clear HBc hle
        obtain ⟨_, z0, z1, z2⟩ := Hbox_11.out
        go_wp2_with fail
        clear z0 z1 z2
        refine (HBC.out).mono ?_
        rintro e y12 ⟨rfl, hbc⟩
        dsimp only
        have He_12 := Lib.hid (SlAt.mono He_11.out (Nat.le_refl _) hbc)
        have Hbb_12 := Lib.hid (Hbb_11.out.trans (hbc.mono Hbb_11.out.size))
        have Hbox_12 := Lib.hid (Hbox_11.out.below hbc)
        have Hqx_12 := Lib.hid (Hqx_11.out.below (Nat.le_refl _) hbc)
        have Hqy_12 := Lib.hid (Hqy_11.out.below (Nat.le_refl _) hbc)
        have Hqa_12 := Lib.hid (Hqa_11.out.below (Nat.le_refl _) hbc)
        have Hqb_12 := Lib.hid (Hqb_11.out.below (Nat.le_refl _) hbc)
        have Hqc_12 := Lib.hid (Hqc_11.out.below (Nat.le_refl _) hbc)
        clear He_11 Hbb_11 Hbox_11 Hqx_11 Hqy_11 Hqa_11 Hqb_11 Hqc_11
        clear HBC hbc
        obtain ⟨_, z0, z1, z2⟩ := Hbox_12.out
        go_wp2_with fail
        clear z0 z1 z2
        refine (evAwake_any _).mono ?_
        rintro e y13 ⟨rfl, hbc⟩
        dsimp only
        have He_13 := Lib.hid (SlAt.mono He_12.out (Nat.le_refl _) hbc)
        have Hbb_13 := Lib.hid (Hbb_12.out.trans (hbc.mono Hbb_12.out.size))
        have Hbox_13 := Lib.hid (Hbox_12.out.below hbc)
        have Hqx_13 := Lib.hid (Hqx_12.out.below (Nat.le_refl _) hbc)
        have Hqy_13 := Lib.hid (Hqy_12.out.below (Nat.le_refl _) hbc)
        have Hqa_13 := Lib.hid (Hqa_12.out.below (Nat.le_refl _) hbc)
        have Hqb_13 := Lib.hid (Hqb_12.out.below (Nat.le_refl _) hbc)
        have Hqc_13 := Lib.hid (Hqc_12.out.below (Nat.le_refl _) hbc)
        clear He_12 Hbb_12 Hbox_12 Hqx_12 Hqy_12 Hqa_12 Hqb_12 Hqc_12
        go_wp2
        go_ret
        exact ⟨rfl, Hbb_13.out⟩
end Go.Proofs.Ytlaoijfphkhchaa
