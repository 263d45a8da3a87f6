/- EigenvectorSupports: the walk. -/
import Derived.Test.YtlaoijfphkhchaaBEvy
import Derived.Test.YtlaoijfphkhchaaBSpl
import Derived.Test.YtlaoijfphkhchaaBKee
namespace Go.Proofs.Ytlaoijfphkhchaa
open Go.RowKit Go.Shelf
def parL (v : Nat → Int) (N : Nat) : Nat → List Int
  | 0 => []
  | i + 1 => parL v N i ++ [parV v N i]
theorem parL_len (v : Nat → Int) (N i : Nat) : (parL v N i).length = i := by
  induction i with
  | zero => rfl
  | succ i ih => rw [parL, List.length_append, ih]; rfl
theorem parL_get (v : Nat → Int) (N i k : Nat) (hk : k < i) : (parL v N i).getD k 0 = parV v N k := by
  induction i with
  | zero => omega
  | succ i ih =>
    rw [parL, List.getD_eq_getElem?_getD]
    by_cases e : k = i
    · subst e
      rw [List.getElem?_append_right (by rw [parL_len]; exact Nat.le_refl _), parL_len, Nat.sub_self]; rfl
    · rw [List.getElem?_append_left (by rw [parL_len]; omega), ← List.getD_eq_getElem?_getD]
      exact ih (by omega)
def RetSup (v : Nat → Int) (N : Nat) (w : World) (e : Ending) (w' : World) : Prop := ∃ ps cs, e = .returned (.slice ps (supL v N).length cs) ∧ IntsAt w' ps (supL v N) ∧ Below w.heap.size w w'
theorem Support_row (N : Nat) (v : Nat → Int) (pv : Option Addr) (cv : Nat) (hN : N ≤ 1000000) (w : World) (hV : VRow w pv N v) : Calls Try.prog 35 #[.slice pv N cv] w (RetSup v N w) := by
  refine (Support_any N v pv cv hN w hV).mono ?_
  rintro e w' ⟨vv, rfl, ho, hb⟩
  obtain ⟨ps, cs, rfl, _, hr, _⟩ := ho.form
  exact ⟨ps, cs, rfl, hr, hb⟩
theorem own_parts {w : World} {B : Nat} {vv : Value} {v : Nat → Int} {N len : Nat} (h : OwnInts w B vv (parL v N len)) : ∃ pp cp, vv = .slice pp len cp ∧ VRow w pp len (parV v N) := by
  obtain ⟨pp, cp, rfl, _, hr, _⟩ := h.form
  have h2 := VRow.of_ints hr
  rw [parL_len] at h2 ⊢
  exact ⟨pp, cp, rfl, h2.congr fun k hk => parL_get v N len k hk⟩
theorem sup_in {v : Nat → Int} {N k : Nat} (hk : k < (supL v N).length) : 0 ≤ (supL v N).getD k 0 ∧ (supL v N).getD k 0 < (N : Int) := by
  obtain ⟨s, h1, _, _, h4⟩ := supL_at hk
  rw [h4]; omega
theorem part_check (LL : Int) (N n m : Nat) (E : Nat → Nat → Int) (hg : gChk LL N n E = 0) (hm0 : 1 ≤ m) (hm : m ≤ 256) (u : Nat → Int) (hld : Hld (frE E) (toE E) n N m u) (hu : ∀ s, s < N → 0 ≤ u s ∧ u s ≤ 30) (hne : 0 < (supL u N).length) (q : Option Addr) (cq : Nat) (r : Option Addr) (cr : Nat) (W : World)
    (hq : EdgAt W q (kepL (supL u N) E n).length (edOf (kepL (supL u N) E n))) (hr : VRow W r (supL u N).length (parV u N)) :
    Calls Try.prog 27 #[.agg #[.int .i64 LL, .int .i64 ((supL u N).length : Nat), .slice q (kepL (supL u N) E n).length cq], .slice r (supL u N).length cr, .int .i64 (m : Int)] W (RetInt 0 W) := by
  have hok : EdOk N n E := by have := gChk_ok hg; simpa using this
  have h := EvCheck_ok LL (supL u N).length (kepL (supL u N) E n).length m (edOf (kepL (supL u N) E n)) q cq (parV u N) r cr (vChk_of (kep_chk hg) hm0 hm fun k hk => by
    obtain ⟨s, h1, h2, h3, _⟩ := supL_at hk
    rw [← h3, parV_rk h1 h2]
    have := hu s h1
    omega) W hq hr
  rw [ckV_ok (par_any hne) (kep_hld hok hld)] at h
  exact h
set_option maxRecDepth 100000 in
set_option maxHeartbeats 16000000 in
theorem lawSupports (LL S : Int) (n : Nat) (E : Nat → Nat → Int) (p : Option Addr) (c : Nat) (px : Option Addr) (cx : Nat) (xs : List Nat) (mi : Int) (w : World) (hE : EdgAt w p n E) (hXxs : ByteAt w px xs) (hxxs : ∀ x ∈ xs, x < 256) (hlxs : xs.length ≤ maxLen) :
    Calls Try.prog 9 #[.agg #[.int .i64 LL, .int .i64 S, .slice p n c], .slice px xs.length cx, .int .i64 mi] w (RetB true w) := by
  unfold maxLen at hlxs
  obtain ⟨W0, hW0⟩ : ∃ W, w.alloc (.cells #[.int .i64 LL, .int .i64 S, .slice p n c] 24) = W := ⟨_, rfl⟩
  have hb0 : Below w.heap.size w W0 := by rw [← hW0]; exact (Below.refl _ _).alloc (Nat.le_refl _) _
  have hbx : BoxAt3 W0 w.heap.size (.int .i64 LL) (.int .i64 S) (.slice p n c) := by rw [← hW0]; exact BoxAt3.new w _ _ _ _
  have He := Lib.hid (show EdgAt W0 p n E from hE.mono (Nat.le_refl _) hb0)
  have Hxs := Lib.hid (show ByteAt W0 px xs from hXxs.below (Nat.le_refl _) hb0)
  have Hbxs := Lib.hid hxxs
  have HF := Lib.hid (fine23_any LL S n E p c mi W0 He.out)
  have Hbb := Lib.hid hb0
  have Hbox := Lib.hid hbx
  obtain ⟨_, c0, c1, c2⟩ := hbx
  clear hE hb0 hXxs hxxs
  obtain ⟨ff, hff⟩ : ∃ b, fine23 LL S n E mi = b := ⟨_, rfl⟩
  rw [hff] at HF
  cases ff
  · clear hff
    go_enter Try.func9, Try.ntmps9
    go_wp2_with fail
    try rw [hW0]
    refine (HF.out).mono ?_
    rintro e y1 ⟨rfl, hbc⟩
    dsimp only
    have He_1 := Lib.hid (SlAt.mono He.out (Nat.le_refl _) hbc)
    have Hbb_1 := Lib.hid (Hbb.out.trans (hbc.mono Hbb.out.size))
    have Hbox_1 := Lib.hid (Hbox.out.below hbc)
    have Hxs_1 := Lib.hid (Hxs.out.below (Nat.le_refl _) hbc)
    clear He Hbb Hbox Hxs
    clear HF c0 c1 c2 hW0
    obtain ⟨_, z0, z1, z2⟩ := Hbox_1.out
    go_wp2_with fail
    clear z0 z1 z2
    refine (evAwake_any _).mono ?_
    rintro e y2 ⟨rfl, hbc⟩
    dsimp only
    have He_2 := Lib.hid (SlAt.mono He_1.out (Nat.le_refl _) hbc)
    have Hbb_2 := Lib.hid (Hbb_1.out.trans (hbc.mono Hbb_1.out.size))
    have Hbox_2 := Lib.hid (Hbox_1.out.below hbc)
    have Hxs_2 := Lib.hid (Hxs_1.out.below (Nat.le_refl _) hbc)
    clear He_1 Hbb_1 Hbox_1 Hxs_1
    go_wp2
    go_ret
    exact ⟨rfl, Hbb_2.out⟩
  obtain ⟨hg, hS1, hS6, hn, hm1, hm2⟩ := fine23_true hff
  clear hff
  obtain ⟨N, rfl⟩ : ∃ N : Nat, S = N := ⟨S.toNat, by omega⟩
  obtain ⟨m, rfl⟩ : ∃ m : Nat, mi = m := ⟨mi.toNat, by omega⟩
  have h0 : 0 < N := by omega
  have hok : EdOk N n E := by have := gChk_ok hg; simpa using this
  have Hok := Lib.hid hok
  have Hg := Lib.hid hg
  have HVxs := Lib.hid (fun W (hW : ByteAt W px xs) => vector_any LL N n p c xs px cx (by omega) Hbxs.out W hW)
  have hvxs : vChk LL N n E m N (vecB xs) = 0 := vChk_ok hg (by omega) (by omega) rfl (fun k _ => by have := vecB_le xs k; omega)
  have HGxs := Lib.hid (fun W q cq (hW : EdgAt W p n E) (hq : VRow W q N (vecB xs)) => Greatest_ok LL N n m E p c (vecB xs) q cq hvxs W hW hq)
  have HZe := Lib.hid (fun W q cq u (hq : VRow W q N u) => lawZero_any N q cq u (by omega) W hq)
  have nN : ((N : Int) != (N : Int)) = false := by simp
  have Hvb := Lib.hid (fun (u v : Nat → Int) (hv : ∀ s, s < N → v s ≤ 30) (hu : GrO (frE E) (toE E) n N m v u) (s : Nat) (hs : s < N) => show 0 ≤ u s ∧ u s ≤ 30 from ⟨hu.nonneg s hs, Int.le_trans (hu.1 s hs) (hv s hs)⟩)
  have HSu := Lib.hid (fun W q cq u M (hM : M ≤ 1000000) (hq : VRow W q M u) => Support_row M u q cq hM W hq)
  have HKe := Lib.hid (fun W (u : Nat → Int) b off cs (hne : 0 < (supL u N).length) (hW : EdgAt W p n E) (hq : IntsAt W (some ⟨b, off, none⟩) (supL u N)) => Keep_ok LL N n E p c (supL u N) b off cs hg (supL_sorted u N) (fun k hk => sup_in hk) hne (Nat.le_trans (supL_len u N) (by omega)) (by omega) W hW hq)
  have HCk := Lib.hid (fun W (u : Nat → Int) (hld : Hld (frE E) (toE E) n N m u) (hu : ∀ s, s < N → 0 ≤ u s ∧ u s ≤ 30) (hne : 0 < (supL u N).length) q cq r cr (hq : EdgAt W q (kepL (supL u N) E n).length (edOf (kepL (supL u N) E n))) (hr : VRow W r (supL u N).length (parV u N)) => part_check LL N n m E hg (by omega) (by omega) u hld hu hne q cq r cr W hq hr)
  clear hg hok hvxs
  go_enter Try.func9, Try.ntmps9
  go_wp2_with fail
  try rw [hW0]
  refine (HF.out).mono ?_
  rintro e y1 ⟨rfl, hbc⟩
  dsimp only
  have He_1 := Lib.hid (SlAt.mono He.out (Nat.le_refl _) hbc)
  have Hbb_1 := Lib.hid (Hbb.out.trans (hbc.mono Hbb.out.size))
  have Hbox_1 := Lib.hid (Hbox.out.below hbc)
  have Hxs_1 := Lib.hid (Hxs.out.below (Nat.le_refl _) hbc)
  clear He Hbb Hbox Hxs
  clear HF c0 c1 c2 hW0
  obtain ⟨g0, hg0⟩ : ∃ g, w.heap.size = g := ⟨_, rfl⟩
  rw [hg0] at Hbox_1
  try rw [hg0]
  have Hg0 := Lib.hid hg0
  clear hg0
  obtain ⟨_, z0, z1, z2⟩ := Hbox_1.out
  go_upto_region 3 with (fail)
  clear z0 z1 z2
  obtain ⟨X, hX⟩ : ∃ Z, y1 = Z := ⟨_, rfl⟩
  rw [hX] at He_1 Hbb_1 Hbox_1 Hxs_1 ⊢
  clear hX
  go_upto_region 3 with (fail)
  obtain ⟨SS, hSe⟩ : ∃ SS : World → Prop, SS = fun W => W.cell? ⟨g0, 0, none⟩ = some (.int .i64 LL) ∧ W.cell? ⟨g0, 1, none⟩ = some (.int .i64 (N : Int)) ∧ W.cell? ⟨g0, 2, none⟩ = some (.slice p n c) := ⟨_, rfl⟩
  have HS : Hid (∀ W, Below X.heap.size X W → SS W) := Lib.hid (fun W hW => by
    obtain ⟨_, b0, b1, b2⟩ := Hbox_1.out.below hW
    rw [hSe]; exact ⟨b0, b1, b2⟩)
  have hd : Below X.heap.size X X.drew := (Below.refl _ _).drew
  refine wp_region_held_drew (S := SS) (by kernel_rfl) (HS.out _ hd) (fun hSS => ?_)
  refine wpAnyH_take (i := 0) (v := ?_) rfl (by kernel_rfl) (by kernel_rfl) (by kernel_rfl) (fun _ _ _ h => h) (Or.inl ⟨by rfl, ?_⟩) (HS.out _ hd) ?_
  rotate_left 1
  next => intro w hSw; rw [hSe] at hSw; obtain ⟨s1, s2, s3⟩ := hSw; go_simp; try with_reducible rfl
  try simp only [Act.put, List.getElem_toArray, List.getElem_cons_zero, List.getElem_cons_succ, List.setIfInBounds_toArray, List.set_cons_zero, List.set_cons_succ]
  refine wpAnyH_take (i := 1) (v := ?_) rfl (by kernel_rfl) (by kernel_rfl) (by kernel_rfl) (fun _ _ _ h => h) (Or.inl ⟨by rfl, ?_⟩) (HS.out _ hd) ?_
  rotate_left 1
  next => intro w hSw; rw [hSe] at hSw; obtain ⟨s1, s2, s3⟩ := hSw; go_simp; try with_reducible rfl
  try simp only [Act.put, List.getElem_toArray, List.getElem_cons_zero, List.getElem_cons_succ, List.setIfInBounds_toArray, List.set_cons_zero, List.set_cons_succ]
  refine wpAnyH_take (i := 2) (v := ?_) rfl (by kernel_rfl) (by kernel_rfl) (by kernel_rfl) (fun _ _ _ h => h) (Or.inl ⟨by rfl, ?_⟩) (HS.out _ hd) ?_
  rotate_left 1
  next => intro w hSw; rw [hSe] at hSw; obtain ⟨s1, s2, s3⟩ := hSw; go_simp; try with_reducible rfl
  try simp only [Act.put, List.getElem_toArray, List.getElem_cons_zero, List.getElem_cons_succ, List.setIfInBounds_toArray, List.set_cons_zero, List.set_cons_succ]
  refine wpAnyH_take (i := 4) (v := ?_) rfl (by kernel_rfl) (by kernel_rfl) (by kernel_rfl) (fun _ _ _ h => h) (Or.inl ⟨by rfl, ?_⟩) (HS.out _ hd) ?_
  rotate_left 1
  next => intro w hSw; rw [hSe] at hSw; obtain ⟨s1, s2, s3⟩ := hSw; go_simp; try with_reducible rfl
  try simp only [Act.put, List.getElem_toArray, List.getElem_cons_zero, List.getElem_cons_succ, List.setIfInBounds_toArray, List.set_cons_zero, List.set_cons_succ]
  try simp only [Act.put, List.getElem_toArray, List.getElem_cons_zero, List.getElem_cons_succ, List.setIfInBounds_toArray, List.set_cons_zero, List.set_cons_succ]
  refine wpAnyH_ready (rs := [3]) (by kernel_rfl) (by simp) ?_
  refine AllReadyH.cons rfl (fun K hK => ?_) AllReadyH.nil
  go_simp
  refine (HVxs.out _ (Hxs_1.out.below (Nat.le_refl _) hd)).mono ?_
  rintro e w1 ⟨g1, rfl, hz1, _, hbc⟩
  have hb1 : Below X.heap.size X w1 := hd.trans (hbc.mono hd.size)
  dsimp only
  refine hK.out _ _ (HS.out _ hb1) (fun _ => ?_)
  clear hK K hbc
  try simp only [Act.put, List.getElem_toArray, List.getElem_cons_zero, List.getElem_cons_succ, List.setIfInBounds_toArray, List.set_cons_zero, List.set_cons_succ]
  refine wpAnyH_ready (rs := [5]) (by kernel_rfl) (by simp) ?_
  refine AllReadyH.cons rfl (fun K hK => ?_) AllReadyH.nil
  go_simp
  refine (HGxs.out _ _ N (SlAt.mono He_1.out (Nat.le_refl _) hb1) hz1.row).mono ?_
  rintro e w2 ⟨uv, qv, cv, hu, rfl, hq, hbc⟩
  have hb2 : Below X.heap.size X w2 := hb1.trans (hbc.mono hb1.size)
  dsimp only
  refine hK.out _ _ (HS.out _ hb2) (fun _ => ?_)
  clear hK K hbc
  refine wpAnyH_take (i := 6) (v := ?_) rfl (by kernel_rfl) (by kernel_rfl) (by kernel_rfl) (fun _ _ _ h => h) (Or.inl ⟨by rfl, ?_⟩) (HS.out _ hb2) ?_
  rotate_left 1
  next => intro w hSw; rw [hSe] at hSw; obtain ⟨s1, s2, s3⟩ := hSw; go_simp; try with_reducible rfl
  try simp only [Act.put, List.getElem_toArray, List.getElem_cons_zero, List.getElem_cons_succ, List.setIfInBounds_toArray, List.set_cons_zero, List.set_cons_succ]
  refine wpAnyH_take (i := 7) (v := ?_) rfl (by kernel_rfl) (by kernel_rfl) (by kernel_rfl) (fun _ _ _ h => h) (Or.inl ⟨by rfl, ?_⟩) (HS.out _ hb2) ?_
  rotate_left 1
  next => intro w hSw; rw [hSe] at hSw; obtain ⟨s1, s2, s3⟩ := hSw; go_simp; try with_reducible rfl
  try simp only [Act.put, List.getElem_toArray, List.getElem_cons_zero, List.getElem_cons_succ, List.setIfInBounds_toArray, List.set_cons_zero, List.set_cons_succ]
  refine wpAnyH_take (i := 8) (v := ?_) rfl (by kernel_rfl) (by kernel_rfl) (by kernel_rfl) (fun _ _ _ h => h) (Or.inl ⟨by rfl, ?_⟩) (HS.out _ hb2) ?_
  rotate_left 1
  next => intro w hSw; rw [hSe] at hSw; obtain ⟨s1, s2, s3⟩ := hSw; go_simp; try with_reducible rfl
  try simp only [Act.put, List.getElem_toArray, List.getElem_cons_zero, List.getElem_cons_succ, List.setIfInBounds_toArray, List.set_cons_zero, List.set_cons_succ]
  refine wpAnyH_take (i := 9) (v := ?_) rfl (by kernel_rfl) (by kernel_rfl) (by kernel_rfl) (fun _ _ _ h => h) (Or.inl ⟨by rfl, ?_⟩) (HS.out _ hb2) ?_
  rotate_left 1
  next => intro w hSw; rw [hSe] at hSw; obtain ⟨s1, s2, s3⟩ := hSw; go_simp; try with_reducible rfl
  try simp only [Act.put, List.getElem_toArray, List.getElem_cons_zero, List.getElem_cons_succ, List.setIfInBounds_toArray, List.set_cons_zero, List.set_cons_succ]
  refine wpAnyH_take (i := 10) (v := ?_) rfl (by kernel_rfl) (by kernel_rfl) (by kernel_rfl) (fun _ _ _ h => h) (Or.inl ⟨by rfl, ?_⟩) (HS.out _ hb2) ?_
  rotate_left 1
  next => intro w hSw; rw [hSe] at hSw; obtain ⟨s1, s2, s3⟩ := hSw; go_simp; try with_reducible rfl
  try simp only [Act.put, List.getElem_toArray, List.getElem_cons_zero, List.getElem_cons_succ, List.setIfInBounds_toArray, List.set_cons_zero, List.set_cons_succ]
  refine wpAnyH_done (by kernel_rfl) ?_ _
  have hbc := hb2
  have Huv := Lib.hid hu
  have Hqv := Lib.hid hq.row
  have He_2 := Lib.hid (SlAt.mono He_1.out (Nat.le_refl _) hbc)
  have Hbb_2 := Lib.hid (Hbb_1.out.trans (hbc.mono Hbb_1.out.size))
  have Hbox_2 := Lib.hid (Hbox_1.out.below hbc)
  have Hxs_2 := Lib.hid (Hxs_1.out.below (Nat.le_refl _) hbc)
  clear He_1 Hbb_1 Hbox_1 Hxs_1
  clear hbc hu hq hz1 HS hSe hSS hd hb2
  have hv30 := Hvb.out uv (vecB xs) (fun s _ => (vecB_le xs s).2) Huv.out
  have Hv30 := Lib.hid hv30
  have Hup : Hid (∀ k, k < (supL uv N).length → ∃ s : Nat, s < N ∧ (supL uv N).getD k 0 = (s : Int) ∧ 0 < uv s ∧ parV uv N k = uv s) := Lib.hid (fun k hk => by
    obtain ⟨s, h1, h2, h3, h4⟩ := supL_at hk
    exact ⟨s, h1, h4, h2, by rw [← h3]; exact parV_rk h1 h2⟩)
  have Hul := Lib.hid (Nat.le_trans (supL_len uv N) (show N ≤ 64 by omega))
  clear hv30
  obtain ⟨_, z0, z1, z2⟩ := Hbox_2.out
  go_wp2_with fail
  clear z0 z1 z2
  refine (HSu.out _ qv cv uv N (by omega) Hqv.out).mono ?_
  rintro e y3 ⟨ps, cs, rfl, hsr, hbc⟩
  dsimp only
  have He_3 := Lib.hid (SlAt.mono He_2.out (Nat.le_refl _) hbc)
  have Hbb_3 := Lib.hid (Hbb_2.out.trans (hbc.mono Hbb_2.out.size))
  have Hbox_3 := Lib.hid (Hbox_2.out.below hbc)
  have Hxs_3 := Lib.hid (Hxs_2.out.below (Nat.le_refl _) hbc)
  have Hqv_3 := Lib.hid (Hqv.out.below (Nat.le_refl _) hbc)
  clear He_2 Hbb_2 Hbox_2 Hxs_2 Hqv
  have Hsr_3 := Lib.hid (hsr)
  clear hsr hbc
  obtain ⟨Y, hY⟩ : ∃ Z, y3 = Z := ⟨_, rfl⟩
  rw [hY] at He_3 Hbb_3 Hbox_3 Hxs_3 Hqv_3 Hsr_3 ⊢
  clear hY
  obtain ⟨len, hlen⟩ : ∃ z, (supL uv N).length = z := ⟨_, rfl⟩
  have Hlen := Lib.hid hlen
  rw [hlen] at Hup Hul ⊢
  have hl64 := Hul.out
  clear hlen
  obtain ⟨_, z0, z1, z2⟩ := Hbox_3.out
  go_wp2_with fail
  clear z0 z1 z2
  go_loopw [10, 42] (fun ov iv wr => ∃ i : Nat, i ≤ len ∧ iv = .int .i64 (i : Nat) ∧ Hid (OwnInts wr Y.heap.size ov (parL uv N i)) ∧ Hid (Below Y.heap.size Y wr)) (fun _ iv _ => len - (intOf iv).toNat)
  case atStart => exact ⟨0, by omega, by go_num, Lib.hid (OwnInts.nil _ _), Lib.hid (Below.refl _ _)⟩
  case round =>
    obtain ⟨i, hi, rfl, Ho, Hb⟩ := hrel
    by_cases hil : i < len
    · have i3 : (i : Int) < (len : Int) := by omega
      have i4 : (0 : Int) ≤ (i : Int) := by omega
      obtain ⟨s, hs, hse, hsp, hpv⟩ := Hup.out i hil
      obtain ⟨sb, so, rfl, hsb, hsc⟩ := IntsAt.cells Hsr_3.out (by rw [Hlen.out]; exact hil)
      have x0 := (Hb.out.cell (p := ⟨sb, so + i, none⟩) hsb).trans (hsc i (by rw [Hlen.out]; exact hil))
      rw [hse] at x0
      obtain ⟨vb, vo, rfl, hvb, hvc⟩ := VRow.cells Hqv_3.out hs
      have y0 := (Hb.out.cell (p := ⟨vb, vo + s, none⟩) hvb).trans (hvc s hs)
      have Hn : Hid (parL uv N (i + 1) = parL uv N i ++ [uv s]) := Lib.hid (by rw [parL, hpv])
      have HL : Hid ((parL uv N i).length ≤ 64) := Lib.hid (by rw [parL_len]; omega)
      obtain ⟨y, hy⟩ : ∃ y, uv s = y := ⟨_, rfl⟩
      rw [hy] at y0 hsp Hn
      have hsz := Hb.out.size
      have s1 : (0 : Int) ≤ (s : Int) := by omega
      have s2 : ¬ (s : Int) < 0 := by omega
      have s3 : ¬ (s : Int) ≥ (N : Int) := by omega
      have s4 : (s : Int) < (N : Int) := by omega
      have s5 : ¬ y ≤ 0 := by omega
      obtain ⟨PL, hPL⟩ : ∃ L, parL uv N i = L := ⟨_, rfl⟩
      rw [hPL] at Ho Hn HL
      clear hsc hvc hse hpv hy hPL hsp hvb hsb
      go_wp2_with (at_builtin; refine wpList_append_int rfl _ _ rfl Y.heap.size _ _ rfl (Ho.out.alloc _) wr.heap.size 1 y rfl (cell_new0 _ _ _) (by have := HL.out; omega) (by simp; omega) ?_)
      intro v' w1 hown' hgrow
      have hbn := below_append (Hb.out.alloc hsz (.cells #[.int .i64 y] 3)) (Ho.out.alloc _) hgrow (by simp; omega) (Nat.le_refl _)
      have Hown := Lib.hid hown'
      have Hbn := Lib.hid hbn
      clear hown' hgrow hbn
      go_wp2_with fail
      go_roundw
      case rel => exact ⟨i + 1, by omega, by go_num, by rw [Hn.out]; exact Hown, Hbn⟩
      case measure => simp [intOf]; omega
    · have i3 : ¬ (i : Int) < (len : Int) := by omega
      have hie : i = len := by omega
      rw [hie] at Ho
      obtain ⟨pp, cp, rfl, hpr⟩ := own_parts Ho.out
      have Hpr := Lib.hid hpr
      have hbc := Hb.out
      clear hie Ho Hb hpr i3 hi
  
      have He_4 := Lib.hid (SlAt.mono He_3.out (Nat.le_refl _) hbc)
      have Hbb_4 := Lib.hid (Hbb_3.out.trans (hbc.mono Hbb_3.out.size))
      have Hbox_4 := Lib.hid (Hbox_3.out.below hbc)
      have Hxs_4 := Lib.hid (Hxs_3.out.below (Nat.le_refl _) hbc)
      have Hqv_4 := Lib.hid (Hqv_3.out.below (Nat.le_refl _) hbc)
      have Hsr_4 := Lib.hid (Hsr_3.out.below (Nat.le_refl _) hbc)
      clear He_3 Hbb_3 Hbox_3 Hxs_3 Hqv_3 Hsr_3
      clear hbc
      obtain ⟨bz, hbz⟩ : ∃ b, anyN (fun k => uv k != 0) N = b := ⟨_, rfl⟩
      have HZz := Lib.hid (HZe.out _ qv cv uv Hqv_4.out)
      rw [hbz] at HZz
      have Hbz := Lib.hid hbz
      clear hbz
      cases bz
      · have hl0 : len = 0 := by rw [← Hlen.out, sup_none Hbz.out]; rfl
        rw [hl0]
        obtain ⟨_, z0, z1, z2⟩ := Hbox_4.out
        go_wp2_with fail
        clear z0 z1 z2
        refine (HZz.out).mono ?_
        rintro e y5 ⟨rfl, hbc⟩
        dsimp only
        have He_5 := Lib.hid (SlAt.mono He_4.out (Nat.le_refl _) hbc)
        have Hbb_5 := Lib.hid (Hbb_4.out.trans (hbc.mono Hbb_4.out.size))
        have Hbox_5 := Lib.hid (Hbox_4.out.below hbc)
        have Hxs_5 := Lib.hid (Hxs_4.out.below (Nat.le_refl _) hbc)
        have Hpr_5 := Lib.hid (Hpr.out.below (Nat.le_refl _) hbc)
        clear He_4 Hbb_4 Hbox_4 Hxs_4 Hqv_4 Hsr_4 Hpr
        clear HZz hbc
        obtain ⟨_, z0, z1, z2⟩ := Hbox_5.out
        go_wp2_with fail
        clear z0 z1 z2
        refine (evAwake_any _).mono ?_
        rintro e y6 ⟨rfl, hbc⟩
        dsimp only
        have He_6 := Lib.hid (SlAt.mono He_5.out (Nat.le_refl _) hbc)
        have Hbb_6 := Lib.hid (Hbb_5.out.trans (hbc.mono Hbb_5.out.size))
        have Hbox_6 := Lib.hid (Hbox_5.out.below hbc)
        have Hxs_6 := Lib.hid (Hxs_5.out.below (Nat.le_refl _) hbc)
        have Hpr_6 := Lib.hid (Hpr_5.out.below (Nat.le_refl _) hbc)
        clear He_5 Hbb_5 Hbox_5 Hxs_5 Hpr_5
        go_wp2
        go_ret
        exact ⟨rfl, Hbb_6.out⟩
      · have hne := sup_ne (fun s hs => (Hv30.out s hs).1) Hbz.out
        have Hne := Lib.hid hne
        obtain ⟨sb, so, rfl, _, _⟩ := IntsAt.cells Hsr_4.out hne
        clear hne
        obtain ⟨_, z0, z1, z2⟩ := Hbox_4.out
        go_wp2_with fail
        clear z0 z1 z2
        refine (HZz.out).mono ?_
        rintro e y5 ⟨rfl, hbc⟩
        dsimp only
        have He_5 := Lib.hid (SlAt.mono He_4.out (Nat.le_refl _) hbc)
        have Hbb_5 := Lib.hid (Hbb_4.out.trans (hbc.mono Hbb_4.out.size))
        have Hbox_5 := Lib.hid (Hbox_4.out.below hbc)
        have Hxs_5 := Lib.hid (Hxs_4.out.below (Nat.le_refl _) hbc)
        have Hqv_5 := Lib.hid (Hqv_4.out.below (Nat.le_refl _) hbc)
        have Hsr_5 := Lib.hid (Hsr_4.out.below (Nat.le_refl _) hbc)
        have Hpr_5 := Lib.hid (Hpr.out.below (Nat.le_refl _) hbc)
        clear He_4 Hbb_4 Hbox_4 Hxs_4 Hqv_4 Hsr_4 Hpr
        clear HZz hbc
        have HKK := Lib.hid (HKe.out _ uv sb so cs Hne.out He_5.out Hsr_5.out)
        rw [Hlen.out] at HKK
        obtain ⟨_, z0, z1, z2⟩ := Hbox_5.out
        go_wp2_with fail
        clear z0 z1 z2
        refine (HKK.out).mono ?_
        rintro e y6 ⟨qk, ck, rfl, hed, hbc⟩
        dsimp only
        have He_6 := Lib.hid (SlAt.mono He_5.out (Nat.le_refl _) hbc)
        have Hbb_6 := Lib.hid (Hbb_5.out.trans (hbc.mono Hbb_5.out.size))
        have Hbox_6 := Lib.hid (Hbox_5.out.below hbc)
        have Hxs_6 := Lib.hid (Hxs_5.out.below (Nat.le_refl _) hbc)
        have Hqv_6 := Lib.hid (Hqv_5.out.below (Nat.le_refl _) hbc)
        have Hpr_6 := Lib.hid (Hpr_5.out.below (Nat.le_refl _) hbc)
        clear He_5 Hbb_5 Hbox_5 Hxs_5 Hqv_5 Hsr_5 Hpr_5
        have Hed_6 := Lib.hid (hed)
        clear HKK hbc hed
        obtain ⟨kn, hkn⟩ : ∃ z, (kepL (supL uv N) E n).length = z := ⟨_, rfl⟩
        have HCC := Lib.hid (fun W r cr q cq => HCk.out W uv Huv.out.2.1 Hv30.out Hne.out q cq r cr)
        rw [Hlen.out, hkn] at HCC
        rw [hkn] at Hed_6 ⊢
        rw [Hlen.out]
        clear hkn
        obtain ⟨_, z0, z1, z2⟩ := Hbox_6.out
        go_upto_region 18 with (fail)
        clear z0 z1 z2
        have hbc := (Below.refl y6.heap.size y6).alloc (Nat.le_refl _) (.cells #[.int .i64 LL, .int .i64 (len : Int), .slice qk kn ck] 24)
        have hbh := BoxAt3.new y6 (.int .i64 LL) (.int .i64 (len : Int)) (.slice qk kn ck) 24
        obtain ⟨gh, hgh⟩ : ∃ g, y6.heap.size = g := ⟨_, rfl⟩
        rw [hgh] at hbh ⊢
        try rw [hgh]
        generalize hX : y6.alloc (.cells #[.int .i64 LL, .int .i64 (len : Int), .slice qk kn ck] 24) = X at *
        clear hX hgh
        have hbh2 := hbh
        have hbcx := hbc
        have He_7 := Lib.hid (SlAt.mono He_6.out (Nat.le_refl _) hbc)
        have Hbb_7 := Lib.hid (Hbb_6.out.trans (hbc.mono Hbb_6.out.size))
        have Hbox_7 := Lib.hid (Hbox_6.out.below hbc)
        have Hxs_7 := Lib.hid (Hxs_6.out.below (Nat.le_refl _) hbc)
        have Hqv_7 := Lib.hid (Hqv_6.out.below (Nat.le_refl _) hbc)
        have Hpr_7 := Lib.hid (Hpr_6.out.below (Nat.le_refl _) hbc)
        have Hed_7 := Lib.hid (SlAt.mono Hed_6.out (Nat.le_refl _) hbc)
        clear He_6 Hbb_6 Hbox_6 Hxs_6 Hqv_6 Hpr_6 Hed_6
        obtain ⟨_, h0', h1', h2'⟩ := hbh
        clear hbc hbcx hbh2
        obtain ⟨_, z0, z1, z2⟩ := Hbox_7.out
        go_wp2_with fail
        clear z0 z1 z2
        refine (HCC.out _ _ _ _ _ Hed_7.out Hpr_7.out).mono ?_
        rintro e y8 ⟨rfl, hbc⟩
        dsimp only
        have Hbb_8 := Lib.hid (Hbb_7.out.trans (hbc.mono Hbb_7.out.size))
        have Hbox_8 := Lib.hid (Hbox_7.out.below hbc)
        have Hxs_8 := Lib.hid (Hxs_7.out.below (Nat.le_refl _) hbc)
        have Hpr_8 := Lib.hid (Hpr_7.out.below (Nat.le_refl _) hbc)
        clear He_7 Hbb_7 Hbox_7 Hxs_7 Hqv_7 Hpr_7 Hed_7
        clear HCC hbc h0' h1' h2'
        have HSS := Lib.hid (HSu.out _ pp cp (parV uv N) len (by omega) Hpr_8.out)
        obtain ⟨_, z0, z1, z2⟩ := Hbox_8.out
        go_wp2_with fail
        clear z0 z1 z2
        refine (HSS.out).mono ?_
        rintro e y9 ⟨p9, c9, rfl, _, hbc⟩
        dsimp only
        have Hbb_9 := Lib.hid (Hbb_8.out.trans (hbc.mono Hbb_8.out.size))
        have Hbox_9 := Lib.hid (Hbox_8.out.below hbc)
        have Hxs_9 := Lib.hid (Hxs_8.out.below (Nat.le_refl _) hbc)
        clear Hbb_8 Hbox_8 Hxs_8 Hpr_8
        clear HSS hbc
        have hall : (supL (parV uv N) len).length = len := sup_all fun k hk => parV_at (by rw [Hlen.out]; exact hk)
        rw [hall]
        clear hall
        obtain ⟨_, z0, z1, z2⟩ := Hbox_9.out
        go_wp2_with fail
        clear z0 z1 z2
        refine (evAwake_any _).mono ?_
        rintro e y10 ⟨rfl, hbc⟩
        dsimp only
        have Hbb_10 := Lib.hid (Hbb_9.out.trans (hbc.mono Hbb_9.out.size))
        have Hbox_10 := Lib.hid (Hbox_9.out.below hbc)
        have Hxs_10 := Lib.hid (Hxs_9.out.below (Nat.le_refl _) hbc)
        clear Hbb_9 Hbox_9 Hxs_9
        go_wp2
        go_ret
        exact ⟨rfl, Hbb_10.out⟩
end Go.Proofs.Ytlaoijfphkhchaa
