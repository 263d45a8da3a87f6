/- EigenvectorCombines: the walk. -/
import Derived.Test.YtlaoijfphkhchaaBEvy
namespace Go.Proofs.Ytlaoijfphkhchaa
open Go.RowKit Go.Shelf
def mxI (a b : Int) : Int := if b > a then b else a
theorem mxI_ge (a b : Int) : a ≤ mxI a b ∧ b ≤ mxI a b := by unfold mxI; split <;> omega
theorem mxI_or (a b : Int) : mxI a b = a ∨ mxI a b = b := by unfold mxI; split <;> simp
theorem maxI2 {P : Program} (ts : Array TypeId) (t : TypeId) (w : World) (a b : Int) : (Builtin.max_ ts t #[.int .i64 a, .int .i64 b]).run P w = .ok (.int .i64 (mxI a b)) w := rfl
theorem Hld.max {fr te : Nat → Nat} {n N m : Nat} {u v : Nat → Int} (ht : ∀ e, e < n → te e < N) (hu : Hld fr te n N m u) (hv : Hld fr te n N m v) : Hld fr te n N m (fun s => mxI (u s) (v s)) := fun s hs => by
  have h1 := hu s hs
  have h2 := hv s hs
  have a := smE_mono (fr := fr) ht (fun t _ => (mxI_ge (u t) (v t)).1) s
  have b := smE_mono (fr := fr) ht (fun t _ => (mxI_ge (u t) (v t)).2) s
  rcases mxI_or (u s) (v s) with e | e
  · dsimp only at *; rw [e]; omega
  · dsimp only at *; rw [e]; omega
theorem Hld.times {fr te : Nat → Nat} {n N m : Nat} {u : Nat → Int} (k : Nat) (hu : Hld fr te n N m u) : Hld fr te n N m (fun s => u s * (k : Int)) := fun s hs => by
  have h1 := hu s hs
  have e : smE fr te (fun s => u s * (k : Int)) n s = smE fr te u n s * (k : Int) := by
    unfold smE
    rw [← dotN_mul_right]
    exact dotN_congr fun j _ => by split <;> simp
  refine ⟨Int.mul_nonneg h1.1 (by omega), ?_⟩
  rw [e, ← Int.mul_assoc]
  exact Int.mul_le_mul_of_nonneg_right h1.2 (by omega)
set_option maxRecDepth 100000 in
set_option maxHeartbeats 16000000 in
theorem lawCombines (LL S : Int) (n : Nat) (E : Nat → Nat → Int) (p : Option Addr) (c : Nat) (px : Option Addr) (cx : Nat) (xs : List Nat) (py : Option Addr) (cy : Nat) (ys : List Nat) (mi : Int) (kk : Nat) (w : World) (hE : EdgAt w p n E) (hXxs : ByteAt w px xs) (hxxs : ∀ x ∈ xs, x < 256) (hlxs : xs.length ≤ maxLen) (hXys : ByteAt w py ys) (hxys : ∀ x ∈ ys, x < 256) (hlys : ys.length ≤ maxLen) (hkk : kk ≤ 255) :
    Calls Try.prog 6 #[.agg #[.int .i64 LL, .int .i64 S, .slice p n c], .slice px xs.length cx, .slice py ys.length cy, .int .i64 mi, .int .u8 (kk : Int)] w (RetB true w) := by
  unfold maxLen at hlxs hlys
  obtain ⟨W0, hW0⟩ : ∃ W, w.alloc (.cells #[.int .i64 LL, .int .i64 S, .slice p n c] 24) = W := ⟨_, rfl⟩
  have hb0 : Below w.heap.size w W0 := by rw [← hW0]; exact (Below.refl _ _).alloc (Nat.le_refl _) _
  have hbx : BoxAt3 W0 w.heap.size (.int .i64 LL) (.int .i64 S) (.slice p n c) := by rw [← hW0]; exact BoxAt3.new w _ _ _ _
  have He := Lib.hid (show EdgAt W0 p n E from hE.mono (Nat.le_refl _) hb0)
  have Hxs := Lib.hid (show ByteAt W0 px xs from hXxs.below (Nat.le_refl _) hb0)
  have Hbxs := Lib.hid hxxs
  have Hys := Lib.hid (show ByteAt W0 py ys from hXys.below (Nat.le_refl _) hb0)
  have Hbys := Lib.hid hxys
  have HF := Lib.hid (fine23_any LL S n E p c mi W0 He.out)
  have Hbb := Lib.hid hb0
  have Hbox := Lib.hid hbx
  obtain ⟨_, c0, c1, c2⟩ := hbx
  clear hE hb0 hXxs hxxs hXys hxys
  obtain ⟨ff, hff⟩ : ∃ b, fine23 LL S n E mi = b := ⟨_, rfl⟩
  rw [hff] at HF
  cases ff
  · clear hff
    go_enter Try.func6, Try.ntmps6
    go_wp2_with fail
    try rw [hW0]
    refine (HF.out).mono ?_
    rintro e y1 ⟨rfl, hbc⟩
    dsimp only
    have He_1 := Lib.hid (SlAt.mono He.out (Nat.le_refl _) hbc)
    have Hbb_1 := Lib.hid (Hbb.out.trans (hbc.mono Hbb.out.size))
    have Hbox_1 := Lib.hid (Hbox.out.below hbc)
    have Hxs_1 := Lib.hid (Hxs.out.below (Nat.le_refl _) hbc)
    have Hys_1 := Lib.hid (Hys.out.below (Nat.le_refl _) hbc)
    clear He Hbb Hbox Hxs Hys
    clear HF c0 c1 c2 hW0
    obtain ⟨_, z0, z1, z2⟩ := Hbox_1.out
    go_wp2_with fail
    clear z0 z1 z2
    refine (evAwake_any _).mono ?_
    rintro e y2 ⟨rfl, hbc⟩
    dsimp only
    have He_2 := Lib.hid (SlAt.mono He_1.out (Nat.le_refl _) hbc)
    have Hbb_2 := Lib.hid (Hbb_1.out.trans (hbc.mono Hbb_1.out.size))
    have Hbox_2 := Lib.hid (Hbox_1.out.below hbc)
    have Hxs_2 := Lib.hid (Hxs_1.out.below (Nat.le_refl _) hbc)
    have Hys_2 := Lib.hid (Hys_1.out.below (Nat.le_refl _) hbc)
    clear He_1 Hbb_1 Hbox_1 Hxs_1 Hys_1
    go_wp2
    go_ret
    exact ⟨rfl, Hbb_2.out⟩
  obtain ⟨hg, hS1, hS6, hn, hm1, hm2⟩ := fine23_true hff
  clear hff
  obtain ⟨N, rfl⟩ : ∃ N : Nat, S = N := ⟨S.toNat, by omega⟩
  obtain ⟨m, rfl⟩ : ∃ m : Nat, mi = m := ⟨mi.toNat, by omega⟩
  have h0 : 0 < N := by omega
  have hok : EdOk N n E := by have := gChk_ok hg; simpa using this
  have Hok := Lib.hid hok
  have Hg := Lib.hid hg
  have HVxs := Lib.hid (fun W (hW : ByteAt W px xs) => vector_any LL N n p c xs px cx (by omega) Hbxs.out W hW)
  have hvxs : vChk LL N n E m N (vecB xs) = 0 := vChk_ok hg (by omega) (by omega) rfl (fun k _ => by have := vecB_le xs k; omega)
  have HGxs := Lib.hid (fun W q cq (hW : EdgAt W p n E) (hq : VRow W q N (vecB xs)) => Greatest_ok LL N n m E p c (vecB xs) q cq hvxs W hW hq)
  have HVys := Lib.hid (fun W (hW : ByteAt W py ys) => vector_any LL N n p c ys py cy (by omega) Hbys.out W hW)
  have hvys : vChk LL N n E m N (vecB ys) = 0 := vChk_ok hg (by omega) (by omega) rfl (fun k _ => by have := vecB_le ys k; omega)
  have HGys := Lib.hid (fun W q cq (hW : EdgAt W p n E) (hq : VRow W q N (vecB ys)) => Greatest_ok LL N n m E p c (vecB ys) q cq hvys W hW hq)
  have HZe := Lib.hid (fun W q cq u (hq : VRow W q N u) => lawZero_any N q cq u (by omega) W hq)
  have nN : ((N : Int) != (N : Int)) = false := by simp
  have Hvb := Lib.hid (fun (u v : Nat → Int) (hv : ∀ s, s < N → v s ≤ 30) (hu : GrO (frE E) (toE E) n N m v u) (s : Nat) (hs : s < N) => show 0 ≤ u s ∧ u s ≤ 30 from ⟨hu.nonneg s hs, Int.le_trans (hu.1 s hs) (hv s hs)⟩)
  have HCk := Lib.hid (fun W q cq u (hW : EdgAt W p n E) (hq : VRow W q N u) (hu : ∀ s, s < N → 0 ≤ u s ∧ u s ≤ 4096) => EvCheck_ok LL N n m E p c u q cq (vChk_of Hg.out (by omega) (by omega) hu) W hW hq)
  have HCl := Lib.hid (fun W q cq u (hq : VRow W q N u) => clone_any N q cq u (by omega) W hq)
  obtain ⟨k0, hk0⟩ : ∃ k, kk % 9 = k := ⟨_, rfl⟩
  obtain ⟨K, hK⟩ : ∃ k, k0 + 1 = k := ⟨_, rfl⟩
  have hk1 : 0 < K := by omega
  have hk9 : K ≤ 9 := by omega
  have hkx : ((kk : Int) % 9) = (k0 : Int) := by omega
  have wx : IntKind.i64.wrap (kk : Int) = (kk : Int) := IntWalk.i64_in _ (by omega)
  have wk : IntKind.i64.wrap (k0 : Int) = (k0 : Int) := IntWalk.i64_in _ (by omega)
  have wk1 : IntKind.i64.wrap ((k0 : Int) + 1) = (K : Int) := (IntWalk.i64_in _ (by omega)).trans (by omega)
  have Hwx := Lib.hid (show ((kk : Int) % 9) = (k0 : Int) ∧ IntKind.i64.wrap (kk : Int) = (kk : Int) ∧ IntKind.i64.wrap (k0 : Int) = (k0 : Int) ∧ IntKind.i64.wrap ((k0 : Int) + 1) = (K : Int) from ⟨hkx, wx, wk, wk1⟩)
  clear hk0 hK hkx wx wk wk1
  clear hg hok hvxs hvys
  go_enter Try.func6, Try.ntmps6
  go_wp2_with fail
  try rw [hW0]
  refine (HF.out).mono ?_
  rintro e y1 ⟨rfl, hbc⟩
  dsimp only
  have He_1 := Lib.hid (SlAt.mono He.out (Nat.le_refl _) hbc)
  have Hbb_1 := Lib.hid (Hbb.out.trans (hbc.mono Hbb.out.size))
  have Hbox_1 := Lib.hid (Hbox.out.below hbc)
  have Hxs_1 := Lib.hid (Hxs.out.below (Nat.le_refl _) hbc)
  have Hys_1 := Lib.hid (Hys.out.below (Nat.le_refl _) hbc)
  clear He Hbb Hbox Hxs Hys
  clear HF c0 c1 c2 hW0
  obtain ⟨g0, hg0⟩ : ∃ g, w.heap.size = g := ⟨_, rfl⟩
  rw [hg0] at Hbox_1
  try rw [hg0]
  have Hg0 := Lib.hid hg0
  clear hg0
  obtain ⟨_, z0, z1, z2⟩ := Hbox_1.out
  go_upto_region 3 with (fail)
  clear z0 z1 z2
  obtain ⟨X, hX⟩ : ∃ Z, y1 = Z := ⟨_, rfl⟩
  rw [hX] at He_1 Hbb_1 Hbox_1 Hxs_1 Hys_1 ⊢
  clear hX
  go_upto_region 3 with (fail)
  obtain ⟨SS, hSe⟩ : ∃ SS : World → Prop, SS = fun W => W.cell? ⟨g0, 0, none⟩ = some (.int .i64 LL) ∧ W.cell? ⟨g0, 1, none⟩ = some (.int .i64 (N : Int)) ∧ W.cell? ⟨g0, 2, none⟩ = some (.slice p n c) := ⟨_, rfl⟩
  have HS : Hid (∀ W, Below X.heap.size X W → SS W) := Lib.hid (fun W hW => by
    obtain ⟨_, b0, b1, b2⟩ := Hbox_1.out.below hW
    rw [hSe]; exact ⟨b0, b1, b2⟩)
  have hd : Below X.heap.size X X.drew := (Below.refl _ _).drew
  refine wp_region_held_drew (S := SS) (by kernel_rfl) (HS.out _ hd) (fun hSS => ?_)
  refine wpAnyH_take (i := 0) (v := ?_) rfl (by kernel_rfl) (by kernel_rfl) (by kernel_rfl) (fun _ _ _ h => h) (Or.inl ⟨by rfl, ?_⟩) (HS.out _ hd) ?_
  rotate_left 1
  next => intro w hSw; rw [hSe] at hSw; obtain ⟨s1, s2, s3⟩ := hSw; go_simp; try with_reducible rfl
  try simp only [Act.put, List.getElem_toArray, List.getElem_cons_zero, List.getElem_cons_succ, List.setIfInBounds_toArray, List.set_cons_zero, List.set_cons_succ]
  refine wpAnyH_take (i := 1) (v := ?_) rfl (by kernel_rfl) (by kernel_rfl) (by kernel_rfl) (fun _ _ _ h => h) (Or.inl ⟨by rfl, ?_⟩) (HS.out _ hd) ?_
  rotate_left 1
  next => intro w hSw; rw [hSe] at hSw; obtain ⟨s1, s2, s3⟩ := hSw; go_simp; try with_reducible rfl
  try simp only [Act.put, List.getElem_toArray, List.getElem_cons_zero, List.getElem_cons_succ, List.setIfInBounds_toArray, List.set_cons_zero, List.set_cons_succ]
  refine wpAnyH_take (i := 2) (v := ?_) rfl (by kernel_rfl) (by kernel_rfl) (by kernel_rfl) (fun _ _ _ h => h) (Or.inl ⟨by rfl, ?_⟩) (HS.out _ hd) ?_
  rotate_left 1
  next => intro w hSw; rw [hSe] at hSw; obtain ⟨s1, s2, s3⟩ := hSw; go_simp; try with_reducible rfl
  try simp only [Act.put, List.getElem_toArray, List.getElem_cons_zero, List.getElem_cons_succ, List.setIfInBounds_toArray, List.set_cons_zero, List.set_cons_succ]
  refine wpAnyH_take (i := 4) (v := ?_) rfl (by kernel_rfl) (by kernel_rfl) (by kernel_rfl) (fun _ _ _ h => h) (Or.inl ⟨by rfl, ?_⟩) (HS.out _ hd) ?_
  rotate_left 1
  next => intro w hSw; rw [hSe] at hSw; obtain ⟨s1, s2, s3⟩ := hSw; go_simp; try with_reducible rfl
  try simp only [Act.put, List.getElem_toArray, List.getElem_cons_zero, List.getElem_cons_succ, List.setIfInBounds_toArray, List.set_cons_zero, List.set_cons_succ]
  try simp only [Act.put, List.getElem_toArray, List.getElem_cons_zero, List.getElem_cons_succ, List.setIfInBounds_toArray, List.set_cons_zero, List.set_cons_succ]
  refine wpAnyH_ready (rs := [3]) (by kernel_rfl) (by simp) ?_
  refine AllReadyH.cons rfl (fun K hK => ?_) AllReadyH.nil
  go_simp
  refine (HVxs.out _ (Hxs_1.out.below (Nat.le_refl _) hd)).mono ?_
  rintro e w1 ⟨g1, rfl, hz1, _, hbc⟩
  have hb1 : Below X.heap.size X w1 := hd.trans (hbc.mono hd.size)
  dsimp only
  refine hK.out _ _ (HS.out _ hb1) (fun _ => ?_)
  clear hK K hbc
  try simp only [Act.put, List.getElem_toArray, List.getElem_cons_zero, List.getElem_cons_succ, List.setIfInBounds_toArray, List.set_cons_zero, List.set_cons_succ]
  refine wpAnyH_ready (rs := [5]) (by kernel_rfl) (by simp) ?_
  refine AllReadyH.cons rfl (fun K hK => ?_) AllReadyH.nil
  go_simp
  refine (HGxs.out _ _ N (SlAt.mono He_1.out (Nat.le_refl _) hb1) hz1.row).mono ?_
  rintro e w2 ⟨uv, qv, cv, hu, rfl, hq, hbc⟩
  have hb2 : Below X.heap.size X w2 := hb1.trans (hbc.mono hb1.size)
  dsimp only
  refine hK.out _ _ (HS.out _ hb2) (fun _ => ?_)
  clear hK K hbc
  refine wpAnyH_take (i := 6) (v := ?_) rfl (by kernel_rfl) (by kernel_rfl) (by kernel_rfl) (fun _ _ _ h => h) (Or.inl ⟨by rfl, ?_⟩) (HS.out _ hb2) ?_
  rotate_left 1
  next => intro w hSw; rw [hSe] at hSw; obtain ⟨s1, s2, s3⟩ := hSw; go_simp; try with_reducible rfl
  try simp only [Act.put, List.getElem_toArray, List.getElem_cons_zero, List.getElem_cons_succ, List.setIfInBounds_toArray, List.set_cons_zero, List.set_cons_succ]
  refine wpAnyH_take (i := 7) (v := ?_) rfl (by kernel_rfl) (by kernel_rfl) (by kernel_rfl) (fun _ _ _ h => h) (Or.inl ⟨by rfl, ?_⟩) (HS.out _ hb2) ?_
  rotate_left 1
  next => intro w hSw; rw [hSe] at hSw; obtain ⟨s1, s2, s3⟩ := hSw; go_simp; try with_reducible rfl
  try simp only [Act.put, List.getElem_toArray, List.getElem_cons_zero, List.getElem_cons_succ, List.setIfInBounds_toArray, List.set_cons_zero, List.set_cons_succ]
  refine wpAnyH_take (i := 8) (v := ?_) rfl (by kernel_rfl) (by kernel_rfl) (by kernel_rfl) (fun _ _ _ h => h) (Or.inl ⟨by rfl, ?_⟩) (HS.out _ hb2) ?_
  rotate_left 1
  next => intro w hSw; rw [hSe] at hSw; obtain ⟨s1, s2, s3⟩ := hSw; go_simp; try with_reducible rfl
  try simp only [Act.put, List.getElem_toArray, List.getElem_cons_zero, List.getElem_cons_succ, List.setIfInBounds_toArray, List.set_cons_zero, List.set_cons_succ]
  refine wpAnyH_take (i := 9) (v := ?_) rfl (by kernel_rfl) (by kernel_rfl) (by kernel_rfl) (fun _ _ _ h => h) (Or.inl ⟨by rfl, ?_⟩) (HS.out _ hb2) ?_
  rotate_left 1
  next => intro w hSw; rw [hSe] at hSw; obtain ⟨s1, s2, s3⟩ := hSw; go_simp; try with_reducible rfl
  try simp only [Act.put, List.getElem_toArray, List.getElem_cons_zero, List.getElem_cons_succ, List.setIfInBounds_toArray, List.set_cons_zero, List.set_cons_succ]
  refine wpAnyH_take (i := 10) (v := ?_) rfl (by kernel_rfl) (by kernel_rfl) (by kernel_rfl) (fun _ _ _ h => h) (Or.inl ⟨by rfl, ?_⟩) (HS.out _ hb2) ?_
  rotate_left 1
  next => intro w hSw; rw [hSe] at hSw; obtain ⟨s1, s2, s3⟩ := hSw; go_simp; try with_reducible rfl
  try simp only [Act.put, List.getElem_toArray, List.getElem_cons_zero, List.getElem_cons_succ, List.setIfInBounds_toArray, List.set_cons_zero, List.set_cons_succ]
  refine wpAnyH_done (by kernel_rfl) ?_ _
  have hbc := hb2
  have Huv := Lib.hid hu
  have Hqv := Lib.hid hq.row
  have He_2 := Lib.hid (SlAt.mono He_1.out (Nat.le_refl _) hbc)
  have Hbb_2 := Lib.hid (Hbb_1.out.trans (hbc.mono Hbb_1.out.size))
  have Hbox_2 := Lib.hid (Hbox_1.out.below hbc)
  have Hxs_2 := Lib.hid (Hxs_1.out.below (Nat.le_refl _) hbc)
  have Hys_2 := Lib.hid (Hys_1.out.below (Nat.le_refl _) hbc)
  clear He_1 Hbb_1 Hbox_1 Hxs_1 Hys_1
  clear hbc hu hq hz1 HS hSe hSS hd hb2
  obtain ⟨_, z0, z1, z2⟩ := Hbox_2.out
  go_upto_region 4 with (fail)
  clear z0 z1 z2
  obtain ⟨X, hX⟩ : ∃ Z, w2 = Z := ⟨_, rfl⟩
  rw [hX] at He_2 Hbb_2 Hbox_2 Hxs_2 Hys_2 Hqv ⊢
  clear hX
  go_upto_region 4 with (fail)
  obtain ⟨SS, hSe⟩ : ∃ SS : World → Prop, SS = fun W => W.cell? ⟨g0, 0, none⟩ = some (.int .i64 LL) ∧ W.cell? ⟨g0, 1, none⟩ = some (.int .i64 (N : Int)) ∧ W.cell? ⟨g0, 2, none⟩ = some (.slice p n c) := ⟨_, rfl⟩
  have HS : Hid (∀ W, Below X.heap.size X W → SS W) := Lib.hid (fun W hW => by
    obtain ⟨_, b0, b1, b2⟩ := Hbox_2.out.below hW
    rw [hSe]; exact ⟨b0, b1, b2⟩)
  have hd : Below X.heap.size X X.drew := (Below.refl _ _).drew
  refine wp_region_held_drew (S := SS) (by kernel_rfl) (HS.out _ hd) (fun hSS => ?_)
  refine wpAnyH_take (i := 0) (v := ?_) rfl (by kernel_rfl) (by kernel_rfl) (by kernel_rfl) (fun _ _ _ h => h) (Or.inl ⟨by rfl, ?_⟩) (HS.out _ hd) ?_
  rotate_left 1
  next => intro w hSw; rw [hSe] at hSw; obtain ⟨s1, s2, s3⟩ := hSw; go_simp; try with_reducible rfl
  try simp only [Act.put, List.getElem_toArray, List.getElem_cons_zero, List.getElem_cons_succ, List.setIfInBounds_toArray, List.set_cons_zero, List.set_cons_succ]
  refine wpAnyH_take (i := 1) (v := ?_) rfl (by kernel_rfl) (by kernel_rfl) (by kernel_rfl) (fun _ _ _ h => h) (Or.inl ⟨by rfl, ?_⟩) (HS.out _ hd) ?_
  rotate_left 1
  next => intro w hSw; rw [hSe] at hSw; obtain ⟨s1, s2, s3⟩ := hSw; go_simp; try with_reducible rfl
  try simp only [Act.put, List.getElem_toArray, List.getElem_cons_zero, List.getElem_cons_succ, List.setIfInBounds_toArray, List.set_cons_zero, List.set_cons_succ]
  refine wpAnyH_take (i := 2) (v := ?_) rfl (by kernel_rfl) (by kernel_rfl) (by kernel_rfl) (fun _ _ _ h => h) (Or.inl ⟨by rfl, ?_⟩) (HS.out _ hd) ?_
  rotate_left 1
  next => intro w hSw; rw [hSe] at hSw; obtain ⟨s1, s2, s3⟩ := hSw; go_simp; try with_reducible rfl
  try simp only [Act.put, List.getElem_toArray, List.getElem_cons_zero, List.getElem_cons_succ, List.setIfInBounds_toArray, List.set_cons_zero, List.set_cons_succ]
  refine wpAnyH_take (i := 4) (v := ?_) rfl (by kernel_rfl) (by kernel_rfl) (by kernel_rfl) (fun _ _ _ h => h) (Or.inl ⟨by rfl, ?_⟩) (HS.out _ hd) ?_
  rotate_left 1
  next => intro w hSw; rw [hSe] at hSw; obtain ⟨s1, s2, s3⟩ := hSw; go_simp; try with_reducible rfl
  try simp only [Act.put, List.getElem_toArray, List.getElem_cons_zero, List.getElem_cons_succ, List.setIfInBounds_toArray, List.set_cons_zero, List.set_cons_succ]
  try simp only [Act.put, List.getElem_toArray, List.getElem_cons_zero, List.getElem_cons_succ, List.setIfInBounds_toArray, List.set_cons_zero, List.set_cons_succ]
  refine wpAnyH_ready (rs := [3]) (by kernel_rfl) (by simp) ?_
  refine AllReadyH.cons rfl (fun K hK => ?_) AllReadyH.nil
  go_simp
  refine (HVys.out _ (Hys_2.out.below (Nat.le_refl _) hd)).mono ?_
  rintro e w3 ⟨g1, rfl, hz1, _, hbc⟩
  have hb3 : Below X.heap.size X w3 := hd.trans (hbc.mono hd.size)
  dsimp only
  refine hK.out _ _ (HS.out _ hb3) (fun _ => ?_)
  clear hK K hbc
  try simp only [Act.put, List.getElem_toArray, List.getElem_cons_zero, List.getElem_cons_succ, List.setIfInBounds_toArray, List.set_cons_zero, List.set_cons_succ]
  refine wpAnyH_ready (rs := [5]) (by kernel_rfl) (by simp) ?_
  refine AllReadyH.cons rfl (fun K hK => ?_) AllReadyH.nil
  go_simp
  refine (HGys.out _ _ N (SlAt.mono He_2.out (Nat.le_refl _) hb3) hz1.row).mono ?_
  rintro e w4 ⟨uu, qu, cu, hu, rfl, hq, hbc⟩
  have hb4 : Below X.heap.size X w4 := hb3.trans (hbc.mono hb3.size)
  dsimp only
  refine hK.out _ _ (HS.out _ hb4) (fun _ => ?_)
  clear hK K hbc
  refine wpAnyH_take (i := 6) (v := ?_) rfl (by kernel_rfl) (by kernel_rfl) (by kernel_rfl) (fun _ _ _ h => h) (Or.inl ⟨by rfl, ?_⟩) (HS.out _ hb4) ?_
  rotate_left 1
  next => intro w hSw; rw [hSe] at hSw; obtain ⟨s1, s2, s3⟩ := hSw; go_simp; try with_reducible rfl
  try simp only [Act.put, List.getElem_toArray, List.getElem_cons_zero, List.getElem_cons_succ, List.setIfInBounds_toArray, List.set_cons_zero, List.set_cons_succ]
  refine wpAnyH_take (i := 7) (v := ?_) rfl (by kernel_rfl) (by kernel_rfl) (by kernel_rfl) (fun _ _ _ h => h) (Or.inl ⟨by rfl, ?_⟩) (HS.out _ hb4) ?_
  rotate_left 1
  next => intro w hSw; rw [hSe] at hSw; obtain ⟨s1, s2, s3⟩ := hSw; go_simp; try with_reducible rfl
  try simp only [Act.put, List.getElem_toArray, List.getElem_cons_zero, List.getElem_cons_succ, List.setIfInBounds_toArray, List.set_cons_zero, List.set_cons_succ]
  refine wpAnyH_take (i := 8) (v := ?_) rfl (by kernel_rfl) (by kernel_rfl) (by kernel_rfl) (fun _ _ _ h => h) (Or.inl ⟨by rfl, ?_⟩) (HS.out _ hb4) ?_
  rotate_left 1
  next => intro w hSw; rw [hSe] at hSw; obtain ⟨s1, s2, s3⟩ := hSw; go_simp; try with_reducible rfl
  try simp only [Act.put, List.getElem_toArray, List.getElem_cons_zero, List.getElem_cons_succ, List.setIfInBounds_toArray, List.set_cons_zero, List.set_cons_succ]
  refine wpAnyH_take (i := 9) (v := ?_) rfl (by kernel_rfl) (by kernel_rfl) (by kernel_rfl) (fun _ _ _ h => h) (Or.inl ⟨by rfl, ?_⟩) (HS.out _ hb4) ?_
  rotate_left 1
  next => intro w hSw; rw [hSe] at hSw; obtain ⟨s1, s2, s3⟩ := hSw; go_simp; try with_reducible rfl
  try simp only [Act.put, List.getElem_toArray, List.getElem_cons_zero, List.getElem_cons_succ, List.setIfInBounds_toArray, List.set_cons_zero, List.set_cons_succ]
  refine wpAnyH_take (i := 10) (v := ?_) rfl (by kernel_rfl) (by kernel_rfl) (by kernel_rfl) (fun _ _ _ h => h) (Or.inl ⟨by rfl, ?_⟩) (HS.out _ hb4) ?_
  rotate_left 1
  next => intro w hSw; rw [hSe] at hSw; obtain ⟨s1, s2, s3⟩ := hSw; go_simp; try with_reducible rfl
  try simp only [Act.put, List.getElem_toArray, List.getElem_cons_zero, List.getElem_cons_succ, List.setIfInBounds_toArray, List.set_cons_zero, List.set_cons_succ]
  refine wpAnyH_done (by kernel_rfl) ?_ _
  have hbc := hb4
  have Huu := Lib.hid hu
  have Hqu := Lib.hid hq.row
  have He_3 := Lib.hid (SlAt.mono He_2.out (Nat.le_refl _) hbc)
  have Hbb_3 := Lib.hid (Hbb_2.out.trans (hbc.mono Hbb_2.out.size))
  have Hbox_3 := Lib.hid (Hbox_2.out.below hbc)
  have Hxs_3 := Lib.hid (Hxs_2.out.below (Nat.le_refl _) hbc)
  have Hys_3 := Lib.hid (Hys_2.out.below (Nat.le_refl _) hbc)
  have Hqv_3 := Lib.hid (Hqv.out.below (Nat.le_refl _) hbc)
  clear He_2 Hbb_2 Hbox_2 Hxs_2 Hys_2 Hqv
  clear hbc hu hq hz1 HS hSe hSS hd hb4
  obtain ⟨bz, hbz⟩ : ∃ b, anyN (fun k => uv k != 0) N = b := ⟨_, rfl⟩
  have Hbz := Lib.hid hbz
  clear hbz
  have hmx := @maxI2 Try.prog
  have hm0 : mxI 0 0 = 0 := rfl
  have HZz := Lib.hid (HZe.out _ qv cv uv Hqv_3.out)
  rw [Hbz.out] at HZz
  cases bz
  · obtain ⟨_, z0, z1, z2⟩ := Hbox_3.out
    go_wp2_with fail
    clear z0 z1 z2
    refine (HZz.out).mono ?_
    rintro e y4 ⟨rfl, hbc⟩
    dsimp only
    have He_4 := Lib.hid (SlAt.mono He_3.out (Nat.le_refl _) hbc)
    have Hbb_4 := Lib.hid (Hbb_3.out.trans (hbc.mono Hbb_3.out.size))
    have Hbox_4 := Lib.hid (Hbox_3.out.below hbc)
    have Hxs_4 := Lib.hid (Hxs_3.out.below (Nat.le_refl _) hbc)
    have Hys_4 := Lib.hid (Hys_3.out.below (Nat.le_refl _) hbc)
    clear He_3 Hbb_3 Hbox_3 Hxs_3 Hys_3 Hqv_3 Hqu
    obtain ⟨_, z0, z1, z2⟩ := Hbox_4.out
    go_wp2_with fail
    clear z0 z1 z2
    refine (evAwake_any _).mono ?_
    rintro e y5 ⟨rfl, hbc⟩
    dsimp only
    have He_5 := Lib.hid (SlAt.mono He_4.out (Nat.le_refl _) hbc)
    have Hbb_5 := Lib.hid (Hbb_4.out.trans (hbc.mono Hbb_4.out.size))
    have Hbox_5 := Lib.hid (Hbox_4.out.below hbc)
    have Hxs_5 := Lib.hid (Hxs_4.out.below (Nat.le_refl _) hbc)
    have Hys_5 := Lib.hid (Hys_4.out.below (Nat.le_refl _) hbc)
    clear He_4 Hbb_4 Hbox_4 Hxs_4 Hys_4
    go_wp2
    go_ret
    exact ⟨rfl, Hbb_5.out⟩
  · obtain ⟨_, z0, z1, z2⟩ := Hbox_3.out
    go_wp2_with fail
    clear z0 z1 z2
    refine (HZz.out).mono ?_
    rintro e y4 ⟨rfl, hbc⟩
    dsimp only
    have He_4 := Lib.hid (SlAt.mono He_3.out (Nat.le_refl _) hbc)
    have Hbb_4 := Lib.hid (Hbb_3.out.trans (hbc.mono Hbb_3.out.size))
    have Hbox_4 := Lib.hid (Hbox_3.out.below hbc)
    have Hxs_4 := Lib.hid (Hxs_3.out.below (Nat.le_refl _) hbc)
    have Hys_4 := Lib.hid (Hys_3.out.below (Nat.le_refl _) hbc)
    have Hqv_4 := Lib.hid (Hqv_3.out.below (Nat.le_refl _) hbc)
    have Hqu_4 := Lib.hid (Hqu.out.below (Nat.le_refl _) hbc)
    clear He_3 Hbb_3 Hbox_3 Hxs_3 Hys_3 Hqv_3 Hqu
    clear hmx hm0
    obtain ⟨Y, hY⟩ : ∃ Z, y4 = Z := ⟨_, rfl⟩
    rw [hY] at He_4 Hbb_4 Hbox_4 Hxs_4 Hys_4 Hqv_4 Hqu_4 ⊢
    clear hY
    have HY : Hid (∀ W, Below Y.heap.size Y W → EdgAt W p n E ∧ VRow W qv N uv ∧ VRow W qu N uu ∧ BoxAt3 W g0 (.int .i64 LL) (.int .i64 (N : Int)) (.slice p n c) ∧ Below w.heap.size w W) := Lib.hid (fun W hW => ⟨SlAt.mono He_4.out (Nat.le_refl _) hW, Hqv_4.out.below (Nat.le_refl _) hW, Hqu_4.out.below (Nat.le_refl _) hW, Hbox_4.out.below hW, Hbb_4.out.trans (hW.mono Hbb_4.out.size)⟩)
    have HC1 := Lib.hid (HCl.out _ qv cv uv Hqv_4.out)
    clear He_4 Hbb_4 Hbox_4 Hxs_4 Hys_4 Hqv_4 Hqu_4
    have hvl : ∀ s, s < N → 0 ≤ uv s ∧ uv s ≤ 30 := fun s hs => Hvb.out uv (vecB xs) (fun s _ => (vecB_le xs s).2) Huv.out s hs
    have hul : ∀ s, s < N → 0 ≤ uu s ∧ uu s ≤ 30 := fun s hs => Hvb.out uu (vecB ys) (fun s _ => (vecB_le ys s).2) Huu.out s hs
    have Hvl := Lib.hid hvl
    have Hul := Lib.hid hul
    have hne : ∃ s, s < N ∧ uv s ≠ 0 := by
      obtain ⟨s, hs, h⟩ := anyN_true.1 Hbz.out
      exact ⟨s, hs, by simpa using h⟩
    have Hne := Lib.hid hne
    clear hvl hul hne
    go_wp2_with fail
    refine HC1.out.mono ?_
    rintro e W1 ⟨qa, ca, rfl, hqa, hb1⟩
    dsimp only
    rcases hqa with h | ⟨gA, rfl, hgA, hva⟩
    · omega
    have HC2 := Lib.hid (HCl.out W1 qv cv uv (HY.out _ hb1).2.1)
    have HvA := Lib.hid hva
    have Hb1 := Lib.hid hb1
    clear hva hb1 HC1
    go_wp2_with fail
    refine HC2.out.mono ?_
    rintro e W2 ⟨qb, cb, rfl, hqb, hb2⟩
    dsimp only
    rcases hqb with h | ⟨gB, rfl, hgB, hvb⟩
    · omega
    have hAB : gA < gB := Nat.lt_of_lt_of_le HvA.out.1 hgB
    have hYB : Y.heap.size ≤ gB := Nat.le_trans hgA (Nat.le_of_lt hAB)
    have FA : Hid (VAt W2 gA N (fun s => if s < 0 then mxI (uv s) (uu s) else uv s)) := Lib.hid ((HvA.out.below hb2 HvA.out.1).congr fun s _ => (if_neg (Nat.not_lt_zero s)).symm)
    have FB : Hid (VAt W2 gB N (fun s => if s < 0 then uv s * (K : Int) else uv s)) := Lib.hid (hvb.congr fun s _ => (if_neg (Nat.not_lt_zero s)).symm)
    have FY : Hid (Below Y.heap.size Y W2) := Lib.hid (Hb1.out.trans (hb2.mono Hb1.out.size))
    clear hvb hb2 HC2 HvA Hb1 HCl hgB
    go_wp2_with fail
    go_loopw [90] (fun tv wr => ∃ i : Nat, i ≤ N ∧ tv = .int .i64 (i : Nat) ∧ Hid (VAt wr gA N (fun s => if s < i then mxI (uv s) (uu s) else uv s)) ∧ Hid (VAt wr gB N (fun s => if s < i then uv s * (K : Int) else uv s)) ∧ Hid (Below Y.heap.size Y wr)) (fun tv _ => N - (intOf tv).toNat)
    case atStart => exact ⟨0, by omega, by go_num, FA, FB, FY⟩
    case round =>
      clear FA FB FY
      obtain ⟨i, hi, rfl, FA, FB, FY⟩ := hrel
      by_cases hil : i < N
      · have i3 : (i : Int) < (N : Int) := by omega
        have i4 : (0 : Int) ≤ (i : Int) := by omega
        obtain ⟨_, hqv, hqu, _, _⟩ := HY.out _ FY.out
        obtain ⟨vb, vo, hev, hvl, hvc⟩ := VRow.cells hqv hil
        obtain ⟨ub, uo, heu, hul, huc⟩ := VRow.cells hqu hil
        have y0 := hvc i hil
        have x0 := huc i hil
        have hvY : vb < Y.heap.size := by
          rcases (HY.out _ (Below.refl _ _)).2.1 with h | ⟨b', o', he, hl, _⟩
          · omega
          · rw [hev] at he; cases he; exact hl
        have huY : ub < Y.heap.size := by
          rcases (HY.out _ (Below.refl _ _)).2.2.1 with h | ⟨b', o', he, hl, _⟩
          · omega
          · rw [heu] at he; cases he; exact hl
        have hvi := Hvl.out i hil
        obtain ⟨xv, hxv⟩ : ∃ z, uv i = z := ⟨_, rfl⟩
        obtain ⟨xu, hxu⟩ : ∃ z, uu i = z := ⟨_, rfl⟩
        rw [hxv] at y0 hvi
        rw [hxu] at x0
        have Hxv := Lib.hid hxv
        have Hxu := Lib.hid hxu
        have hn1 : ¬ vb = gA ∧ ¬ ub = gA ∧ ¬ vb = gB := ⟨by omega, by omega, by omega⟩
        have Hn1 := Lib.hid hn1
        have hd : Below wr.heap.size wr wr.drew := (Below.refl _ _).drew
        obtain ⟨SS, hSe⟩ : ∃ SS : World → Prop, SS = fun W => W.cell? ⟨vb, vo + i, none⟩ = some (.int .i64 xv) ∧ W.cell? ⟨ub, uo + i, none⟩ = some (.int .i64 xu) := ⟨_, rfl⟩
        have HS : Hid (∀ W, Below wr.heap.size wr W → SS W) := Lib.hid (fun W hW => by rw [hSe]; exact ⟨cell_below hW y0, cell_below hW x0⟩)
        have hmul : 0 ≤ xv * (K : Int) ∧ xv * (K : Int) ≤ 270 := ⟨Int.mul_nonneg hvi.1 (by omega), by
          have := Int.mul_le_mul hvi.2 (show (K : Int) ≤ 9 by omega) (by omega) (by omega)
          omega⟩
        have Hmul := Lib.hid hmul
        subst hev heu
        have Hgl := Lib.hid (show gA < wr.heap.size ∧ gB < wr.heap.size from ⟨FA.out.1, FB.out.1⟩)
        clear hqv hqu hvc huc hvl hul hxv hxu hn1 y0 x0 hvi hmul hvY huY
        have hmx2 := @maxI2 Try.prog
        go_upto_region 11 with (fail)
        refine wp_region_held_drew (S := SS) (by kernel_rfl) (HS.out _ hd) (fun hSS => ?_)
        refine wpAnyH_take (i := 0) (v := ?_) rfl (by kernel_rfl) (by kernel_rfl) (by kernel_rfl) (fun _ _ _ h => h) (Or.inl ⟨by rfl, ?_⟩) (HS.out _ hd) ?_
        rotate_left 1
        next => intro w hSw; rw [hSe] at hSw; obtain ⟨s1, s2⟩ := hSw; go_simp; try with_reducible rfl
        try simp only [Act.put, List.getElem_toArray, List.getElem_cons_zero, List.getElem_cons_succ, List.setIfInBounds_toArray, List.set_cons_zero, List.set_cons_succ]
        refine wpAnyH_take (i := 1) (v := ?_) rfl (by kernel_rfl) (by kernel_rfl) (by kernel_rfl) (fun _ _ _ h => h) (Or.inl ⟨by rfl, ?_⟩) (HS.out _ hd) ?_
        rotate_left 1
        next => intro w hSw; rw [hSe] at hSw; obtain ⟨s1, s2⟩ := hSw; go_simp; try with_reducible rfl
        try simp only [Act.put, List.getElem_toArray, List.getElem_cons_zero, List.getElem_cons_succ, List.setIfInBounds_toArray, List.set_cons_zero, List.set_cons_succ]
        refine wpAnyH_take (i := 2) (v := ?_) rfl (by kernel_rfl) (by kernel_rfl) (by kernel_rfl) (fun _ _ _ h => h) (Or.inl ⟨by rfl, ?_⟩) (HS.out _ hd) ?_
        rotate_left 1
        next => intro w hSw; rw [hSe] at hSw; obtain ⟨s1, s2⟩ := hSw; go_simp; try with_reducible rfl
        try simp only [Act.put, List.getElem_toArray, List.getElem_cons_zero, List.getElem_cons_succ, List.setIfInBounds_toArray, List.set_cons_zero, List.set_cons_succ]
        refine wpAnyH_take (i := 3) (v := ?_) rfl (by kernel_rfl) (by kernel_rfl) (by kernel_rfl) (fun _ _ _ h => h) (Or.inl ⟨by rfl, ?_⟩) (HS.out _ hd) ?_
        rotate_left 1
        next => intro w hSw; rw [hSe] at hSw; obtain ⟨s1, s2⟩ := hSw; go_simp; try with_reducible rfl
        try simp only [Act.put, List.getElem_toArray, List.getElem_cons_zero, List.getElem_cons_succ, List.setIfInBounds_toArray, List.set_cons_zero, List.set_cons_succ]
        refine wpAnyH_take (i := 4) (v := ?_) rfl (by kernel_rfl) (by kernel_rfl) (by kernel_rfl) (fun _ _ _ h => h) (Or.inl ⟨by rfl, ?_⟩) (HS.out _ hd) ?_
        rotate_left 1
        next => intro w hSw; rw [hSe] at hSw; obtain ⟨s1, s2⟩ := hSw; go_simp; try with_reducible rfl
        try simp only [Act.put, List.getElem_toArray, List.getElem_cons_zero, List.getElem_cons_succ, List.setIfInBounds_toArray, List.set_cons_zero, List.set_cons_succ]
        refine wpAnyH_take (i := 5) (v := ?_) rfl (by kernel_rfl) (by kernel_rfl) (by kernel_rfl) (fun _ _ _ h => h) (Or.inl ⟨by rfl, ?_⟩) (HS.out _ hd) ?_
        rotate_left 1
        next => intro w hSw; rw [hSe] at hSw; obtain ⟨s1, s2⟩ := hSw; go_simp; try with_reducible rfl
        try simp only [Act.put, List.getElem_toArray, List.getElem_cons_zero, List.getElem_cons_succ, List.setIfInBounds_toArray, List.set_cons_zero, List.set_cons_succ]
        refine wpAnyH_take (i := 6) (v := ?_) rfl (by kernel_rfl) (by kernel_rfl) (by kernel_rfl) (fun _ _ _ h => h) (Or.inl ⟨by rfl, ?_⟩) (HS.out _ hd) ?_
        rotate_left 1
        next => intro w hSw; rw [hSe] at hSw; obtain ⟨s1, s2⟩ := hSw; go_simp; try with_reducible rfl
        try simp only [Act.put, List.getElem_toArray, List.getElem_cons_zero, List.getElem_cons_succ, List.setIfInBounds_toArray, List.set_cons_zero, List.set_cons_succ]
        refine wpAnyH_take (i := 7) (v := ?_) rfl (by kernel_rfl) (by kernel_rfl) (by kernel_rfl) (fun _ _ _ h => h) (Or.inl ⟨by rfl, ?_⟩) (HS.out _ hd) ?_
        rotate_left 1
        next => intro w hSw; rw [hSe] at hSw; obtain ⟨s1, s2⟩ := hSw; go_simp; try with_reducible rfl
        try simp only [Act.put, List.getElem_toArray, List.getElem_cons_zero, List.getElem_cons_succ, List.setIfInBounds_toArray, List.set_cons_zero, List.set_cons_succ]
        refine wpAnyH_take (i := 8) (v := ?_) rfl (by kernel_rfl) (by kernel_rfl) (by kernel_rfl) (fun _ _ _ h => h) (Or.inl ⟨by rfl, ?_⟩) (HS.out _ hd) ?_
        rotate_left 1
        next => intro w hSw; rw [hSe] at hSw; obtain ⟨s1, s2⟩ := hSw; go_simp; try with_reducible rfl
        try simp only [Act.put, List.getElem_toArray, List.getElem_cons_zero, List.getElem_cons_succ, List.setIfInBounds_toArray, List.set_cons_zero, List.set_cons_succ]
        refine wpAnyH_take (i := 9) (v := ?_) rfl (by kernel_rfl) (by kernel_rfl) (by kernel_rfl) (fun _ _ _ h => h) (Or.inl ⟨by rfl, ?_⟩) (HS.out _ hd) ?_
        rotate_left 1
        next => intro w hSw; rw [hSe] at hSw; obtain ⟨s1, s2⟩ := hSw; go_simp; try with_reducible rfl
        try simp only [Act.put, List.getElem_toArray, List.getElem_cons_zero, List.getElem_cons_succ, List.setIfInBounds_toArray, List.set_cons_zero, List.set_cons_succ]
        try simp only [Act.put, List.getElem_toArray, List.getElem_cons_zero, List.getElem_cons_succ, List.setIfInBounds_toArray, List.set_cons_zero, List.set_cons_succ]
        refine wpAnyH_ready (rs := [10]) (by kernel_rfl) (by simp) ?_
        refine AllReadyH.cons rfl (fun K hK => ?_) AllReadyH.nil
        go_simp
        refine hK.out _ _ (HS.out _ hd) (fun _ => ?_)
        clear hK K
        refine wpAnyH_take (i := 11) (v := ?_) rfl (by kernel_rfl) (by kernel_rfl) (by kernel_rfl) (fun _ _ _ h => h) (Or.inl ⟨by rfl, ?_⟩) (HS.out _ hd) ?_
        rotate_left 1
        next => intro w hSw; rw [hSe] at hSw; obtain ⟨s1, s2⟩ := hSw; go_simp; try with_reducible rfl
        try simp only [Act.put, List.getElem_toArray, List.getElem_cons_zero, List.getElem_cons_succ, List.setIfInBounds_toArray, List.set_cons_zero, List.set_cons_succ]
        try simp only [Act.put, List.getElem_toArray, List.getElem_cons_zero, List.getElem_cons_succ, List.setIfInBounds_toArray, List.set_cons_zero, List.set_cons_succ]
        refine wpAnyH_ready (rs := [12]) (by kernel_rfl) (by simp) ?_
        refine AllReadyH.cons rfl (fun K hK => ?_) AllReadyH.nil
        have hv1 := FA.out.below hd Hgl.out.1
        obtain ⟨z0, z1⟩ := hv1.2 i hil
        have hss := HS.out _ hd
        have hs2 : SS (wr.drew.setCell ⟨gA, i, none⟩ (.int .i64 (mxI xv xu))) := by
          rw [hSe] at hss ⊢
          obtain ⟨s1, s2⟩ := hss
          refine ⟨?_, ?_⟩
          · rw [World.cell?_setCell_other _ _ _ _ (by intro hh; injection hh with h1 _; exact Hn1.out.1 (by first | exact h1 | exact h1.symm))]; exact s1
          · rw [World.cell?_setCell_other _ _ _ _ (by intro hh; injection hh with h1 _; exact Hn1.out.2.1 (by first | exact h1 | exact h1.symm))]; exact s2
        have F1 := Lib.hid ((hv1.set (k := i) (mxI xv xu)).congr (h := fun s => if s < i + 1 then mxI (uv s) (uu s) else uv s) fun k _ => by
          by_cases e : k = i
          · rw [if_pos e, if_pos (by omega), e, Hxv.out, Hxu.out]
          · rw [if_neg e]
            by_cases e2 : k < i
            · rw [if_pos e2, if_pos (by omega)]
            · rw [if_neg e2, if_neg (by omega)])
        have F2 := Lib.hid ((FB.out.below hd Hgl.out.2).other ⟨gA, i, none⟩ (.int .i64 (mxI xv xu)) (by dsimp only; omega))
        have F3 := Lib.hid (FY.out.drew.setCell (p := ⟨gA, i, none⟩) hgA (.int .i64 (mxI xv xu)))
        have Hs2 := Lib.hid hs2
        go_simp
        refine hK.out _ _ hs2 (fun _ => ?_)
        clear hK K z0 z1 hss hs2 hv1
        refine wpAnyH_done (by kernel_rfl) ?_ _
        clear hmx2 FA FB FY HS hd
        rw [World.setCell_drew] at F1 F2 F3 Hs2
        generalize (wr.setCell ⟨gA, i, none⟩ (.int .i64 (mxI xv xu))).drew = X at *
        have hs2 := Hs2.out
        rw [hSe] at hs2
        obtain ⟨y0, _⟩ := hs2
        clear hSe hSS Hs2
        obtain ⟨z0, z1⟩ := F2.out.2 i hil
        dsimp only at z0
        rw [if_neg (Nat.lt_irrefl i), Hxv.out] at z0
        obtain ⟨wa, wb, wc, wd⟩ := Hwx.out
        obtain ⟨pv, hpv⟩ : ∃ z, xv * (K : Int) = z := ⟨_, rfl⟩
        have hm1 := Hmul.out
        rw [hpv] at hm1
        have wm1 : wrap64 (xv * (K : Int)) = pv := (IntWalk.wrap64_in _ (by omega)).trans hpv
        have wm2 : IntKind.i64.wrap (xv * (K : Int)) = pv := (IntWalk.i64_in _ (by omega)).trans hpv
        have G1 := Lib.hid (F1.out.other ⟨gB, i, none⟩ (.int .i64 pv) (by dsimp only; omega))
        have G2 := Lib.hid ((F2.out.set (k := i) pv).congr (h := fun s => if s < i + 1 then uv s * (K : Int) else uv s) fun k _ => by
          by_cases e : k = i
          · rw [if_pos e, if_pos (by omega), e, Hxv.out, hpv]
          · rw [if_neg e]
            by_cases e2 : k < i
            · rw [if_pos e2, if_pos (by omega)]
            · rw [if_neg e2, if_neg (by omega)])
        have G3 := Lib.hid (F3.out.setCell (p := ⟨gB, i, none⟩) hYB (.int .i64 pv))
        clear hpv F1 F2 F3
        go_wp2_with fail
        go_roundw
        case rel =>
          (repeat apply Exists.intro)
          exact ⟨⟨i + 1, by omega, by go_num, G1, G2, G3⟩, rfl⟩
        case measure => simp [intOf]; omega
      · have i3 : ¬ (i : Int) < (N : Int) := by omega
        have hie : i = N := by omega
        rw [hie] at FA FB
        have hra : VRow wr (some ⟨gA, 0, none⟩) N (fun s => mxI (uv s) (uu s)) := (FA.out.congr fun s hs => if_pos hs).row
        have hrb : VRow wr (some ⟨gB, 0, none⟩) N (fun s => uv s * (K : Int)) := (FB.out.congr fun s hs => if_pos hs).row
        obtain ⟨hed, _, _, hbx, hbw⟩ := HY.out _ FY.out
        have hka := HCk.out wr _ ca _ hed hra (fun s hs => by
          have a := Hvl.out s hs
          have b := Hul.out s hs
          rcases mxI_or (uv s) (uu s) with e | e <;> rw [e] <;> omega)
        rw [ckV_ok (any_ne (by
          obtain ⟨s, hs, h⟩ := Hne.out
          refine ⟨s, hs, ?_⟩
          have a := Hvl.out s hs
          have b := (mxI_ge (uv s) (uu s)).1
          omega)) (Hld.max (fun e he => (edOk_nat Hok.out e he).2.2.2) Huv.out.2.1 Huu.out.2.1)] at hka
        have hkb := fun W (hW : Below wr.heap.size wr W) => HCk.out W _ cb _ (SlAt.mono hed (Nat.le_refl _) hW) (hrb.below (Nat.le_refl _) hW) (fun s hs => by
          have a := Hvl.out s hs
          have b := Int.mul_le_mul a.2 (show (K : Int) ≤ 9 by omega) (by omega) (by omega)
          have d := Int.mul_nonneg a.1 (show (0 : Int) ≤ (K : Int) by omega)
          omega)
        rw [ckV_ok (any_ne (by
          obtain ⟨s, hs, h⟩ := Hne.out
          refine ⟨s, hs, ?_⟩
          have a := Hvl.out s hs
          have := Int.mul_pos (show 0 < uv s by omega) (show (0 : Int) < (K : Int) by omega)
          omega)) (Hld.times K Huv.out.2.1)] at hkb
        have HKa := Lib.hid hka
        have HKb := Lib.hid hkb
        have Hbx := Lib.hid hbx
        have Hbw := Lib.hid hbw
        clear hra hrb hed hbx hbw hka hkb hie FA FB FY
        obtain ⟨_, z0, z1, z2⟩ := Hbx.out
        go_wp2_with fail
        clear z0 z1 z2
        refine HKa.out.mono ?_
        rintro e W8 ⟨rfl, hb8⟩
        dsimp only
        have HKc := Lib.hid (HKb.out _ hb8)
        have Hbw8 := Lib.hid (Hbw.out.trans (hb8.mono Hbw.out.size))
        have Hbx8 := Lib.hid (Hbx.out.below hb8)
        clear hb8 HKa HKb Hbw Hbx
        obtain ⟨_, z0, z1, z2⟩ := Hbx8.out
        go_wp2_with fail
        clear z0 z1 z2
        refine HKc.out.mono ?_
        rintro e W9 ⟨rfl, hb9⟩
        dsimp only
        have Hbw9 := Lib.hid (Hbw8.out.trans (hb9.mono Hbw8.out.size))
        clear hb9 HKc Hbw8 Hbx8
        go_wp2_with fail
        refine (evAwake_any _).mono ?_
        rintro e Wa ⟨rfl, hba⟩
        dsimp only
        have Hbwa := Lib.hid (Hbw9.out.trans (hba.mono Hbw9.out.size))
        clear hba Hbw9
        go_wp2
        go_ret
        exact ⟨rfl, Hbwa.out⟩
end Go.Proofs.Ytlaoijfphkhchaa
