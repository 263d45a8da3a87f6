/- EigenvectorChecks: the walk. -/
import Derived.Test.YtlaoijfphkhchaaGreatB32
import Derived.Test.YtlaoijfphkhchaaGreatB17
import Derived.Test.YtlaoijfphkhchaaGreatB37
import Derived.Test.YtlaoijfphkhchaaGreatB44
namespace Go.Proofs.YtlaoijfphkhchaaGreat
open Go.RowKit Go.Shelf
/-- What both Greatest answer. -/
def RetGG (r : Int) (NN : Nat) (P : (Nat → Int) → Prop) (w : World) (e : Ending) (w' : World) : Prop := ∃ u q cq, P u ∧ e = .returned (.tuple #[.slice q NN cq, .int .i64 r]) ∧ VRow w' q NN u ∧ Below w.heap.size w w'
theorem both_greatest (LL S : Int) (n : Nat) (E : Nat → Nat → Int) (p : Option Addr) (c : Nat) (m : Int) (N : Nat) (v : Nat → Int) (pv : Option Addr) (cv : Nat) (hN : N ≤ 1000) (hpc : pv = none → cv = 0) :
    ∃ r NN P, (∀ W, EdgAt W p n E → VRow W pv N v → Calls Tryz.prog 8 #[.agg #[.int .i64 LL, .int .i64 S, .slice p n c], .slice pv N cv, .int .i64 m] W (RetGG r NN P W)) ∧
      (∀ W, EdgAt W p n E → VRow W pv N v → Calls Tryz.prog 9 #[.agg #[.int .i64 LL, .int .i64 S, .slice p n c], .slice pv N cv, .int .i64 m] W (RetGG r NN P W)) ∧ NN ≤ 1000000 ∧ ∀ u x, P u → P x → ∀ s, s < NN → u s = x s := by
  by_cases hr : vChk LL S n E m N v = 0
  · obtain ⟨hg, hm1, hm2, hS, hv⟩ := vChk_zero hr
    obtain ⟨M, rfl⟩ : ∃ M : Nat, m = M := ⟨m.toNat, by omega⟩
    subst hS
    refine ⟨0, N, GrO (frE E) (toE E) n N M v, fun W hW hq => ?_, fun W hW hq => ?_, by omega, fun u x h1 h2 => h1.unique h2⟩
    · refine (Greatest_ok LL N n M E p c v pv cv hr W hW hq).mono ?_
      rintro e w' ⟨u, q, cq, h1, h2, h3, h4⟩
      exact ⟨u, q, cq, h1, h2, h3.row, h4⟩
    · refine (rGreatest_ok LL N n M E p c v pv cv hr hpc W hW hq).mono ?_
      rintro e w' ⟨u, q, cq, h1, h2, h3, h4⟩
      exact ⟨u, q, cq, h1, h2, h3.row, h4⟩
  · refine ⟨vChk LL S n E m N v, 0, fun _ => True, fun W hW hq => ?_, fun W hW hq => ?_, by omega, fun _ _ _ _ s hs => by omega⟩
    · refine (Greatest_err LL S n E p c m N v pv cv (by omega) _ rfl hr W hW hq).mono ?_
      rintro e w' ⟨h1, h2⟩
      exact ⟨v, none, 0, trivial, h1, .inl rfl, h2⟩
    · refine (rGreatest_err LL S n E p c m N v pv cv (by omega) _ rfl hr W hW hq).mono ?_
      rintro e w' ⟨h1, h2⟩
      exact ⟨v, none, 0, trivial, h1, .inl rfl, h2⟩
theorem both_check (LL S : Int) (n : Nat) (E : Nat → Nat → Int) (p : Option Addr) (c : Nat) (m : Int) (N : Nat) (v : Nat → Int) (pv : Option Addr) (cv : Nat) (hN : N ≤ 1000) :
    ∃ r, (∀ W, EdgAt W p n E → VRow W pv N v → Calls Tryz.prog 10 #[.agg #[.int .i64 LL, .int .i64 S, .slice p n c], .slice pv N cv, .int .i64 m] W (RetInt r W)) ∧
      (∀ W, EdgAt W p n E → VRow W pv N v → Calls Tryz.prog 11 #[.agg #[.int .i64 LL, .int .i64 S, .slice p n c], .slice pv N cv, .int .i64 m] W (RetInt r W)) := by
  by_cases hr : vChk LL S n E m N v = 0
  · obtain ⟨hg, hm1, hm2, hS, hv⟩ := vChk_zero hr
    obtain ⟨M, rfl⟩ : ∃ M : Nat, m = M := ⟨m.toNat, by omega⟩
    subst hS
    exact ⟨_, fun W hW hq => EvCheck_ok LL N n M E p c v pv cv hr W hW hq, fun W hW hq => rCheck_ok LL N n M E p c v pv cv hr W hW hq⟩
  · exact ⟨_, fun W hW hq => EvCheck_err LL S n E p c m N v pv cv (by omega) _ rfl hr W hW hq, fun W hW hq => rCheck_err LL S n E p c m N v pv cv (by omega) _ rfl hr W hW hq⟩
theorem own_ints {w : World} {B : Nat} {v : Value} {xs : List Int} (h : OwnInts w B v xs) : ∃ q cap, v = .slice q xs.length cap ∧ VRow w q xs.length (fun k => xs.getD k 0) := by
  have e : vecL (fun k => xs.getD k 0) xs.length = xs := by
    refine List.ext_getElem (by rw [vecL_len]) fun i h1 h2 => ?_
    simp [vecL, List.getD_eq_getElem?_getD, h2]
  have h2 : OwnInts w B v (vecL (fun k => xs.getD k 0) xs.length) := by rw [e]; exact h
  obtain ⟨q, cap, h3, h4⟩ := own_vec h2
  exact ⟨q, cap, h3, h4.row⟩
theorem equal_same (n : Nat) (f g : Nat → Int) (pa pb : Option Addr) (ca cb : Nat) (w : World) (hA : VRow w pa n f) (hB : VRow w pb n g) (hla : n < 1000000000000) (h : ∀ s, s < n → f s = g s) :
    Calls Tryz.prog 12 #[.slice pa n ca, .slice pb n cb] w (RetB true w) := by
  have hh := sameV_any n f g pa pb ca cb w hA hB hla
  rw [anyN_false.2 fun k hk => by rw [h k hk]; simp] at hh
  exact hh
theorem hvyB_no {v : Nat → Int} {k : Int} {N : Nat} (h : hvyB v k N = false) : N ≤ 10 := by
  unfold hvyB at h
  rw [Bool.or_eq_false_iff] at h
  have := of_decide_eq_false h.2
  omega
theorem longB_no {n : Nat} {Z : Nat → ZI} (h : longB n Z = false) : n ≤ 10 ∧ ∀ k, k < n → (Z k).mag.size ≤ 16 := by
  unfold longB at h
  rw [Bool.or_eq_false_iff] at h
  refine ⟨by have := of_decide_eq_false h.2; omega, fun k hk => ?_⟩
  have := of_decide_eq_false (anyN_false.1 h.1 k hk)
  omega
set_option maxRecDepth 100000 in
set_option maxHeartbeats 16000000 in
theorem lawChecks (LL S : Int) (n : Nat) (E : Nat → Nat → Int) (p : Option Addr) (c : Nat) (pv : Option Addr) (N : Nat) (cv : Nat) (v : Nat → Int) (m : Int) (pz : Option Addr) (nz : Nat) (cz : Nat) (Z : Nat → ZI) (w : World) (hE : EdgAt w p n E) (hV : VRow w pv N v) (hN : N ≤ maxLen) (hpc : pv = none → cv = 0) (hZ : GRow w pz nz Z) (hnz : nz ≤ maxLen) (hz : ∀ k, k < nz → (Z k).mag.size ≤ maxLen) :
    Calls Tryz.prog 3 #[.agg #[.int .i64 LL, .int .i64 S, .slice p n c], .slice pv N cv, .int .i64 m, .slice pz nz cz] w (RetB true w) := by
  unfold maxLen at hN hnz hz
  obtain ⟨W0, hW0⟩ : ∃ W, w.alloc (.cells #[.int .i64 LL, .int .i64 S, .slice p n c] 24) = W := ⟨_, rfl⟩
  have hb0 : Below w.heap.size w W0 := by rw [← hW0]; exact (Below.refl _ _).alloc (Nat.le_refl _) _
  have hbx : BoxAt3 W0 w.heap.size (.int .i64 LL) (.int .i64 S) (.slice p n c) := by rw [← hW0]; exact BoxAt3.new w _ _ _ _
  have He := Lib.hid (show EdgAt W0 p n E from hE.mono (Nat.le_refl _) hb0)
  have HV := Lib.hid (show VRow W0 pv N v from hV.below (Nat.le_refl _) hb0)
  have HZ := Lib.hid (show GRow W0 pz nz Z from SlAt.mono hZ (Nat.le_refl _) hb0)
  have HGr := Lib.hid (gGreat_any LL S n p c W0)
  have HHv := Lib.hid (fun W (h : VRow W pv N v) => rHeavy_any N v pv cv 200 (by omega) W h)
  have HLg := Lib.hid (fun W (h : GRow W pz nz Z) => refLong_any nz Z pz cz (by omega) (fun k hk => by have := hz k hk; omega) W h)
  have Hpc := Lib.hid hpc
  have Hbb := Lib.hid hb0
  have Hbox := Lib.hid hbx
  obtain ⟨_, c0, c1, c2⟩ := hbx
  obtain ⟨bg, hbg⟩ : ∃ b, gGreatB S n = b := ⟨_, rfl⟩
  obtain ⟨bh, hbh⟩ : ∃ b, hvyB v 200 N = b := ⟨_, rfl⟩
  obtain ⟨bl, hbl⟩ : ∃ b, longB nz Z = b := ⟨_, rfl⟩
  rw [hbg] at HGr
  rw [hbh] at HHv
  rw [hbl] at HLg
  have Hbh := Lib.hid hbh
  have Hbl := Lib.hid hbl
  clear hE hV hZ hb0 hpc hbg hbh hbl hN hnz hz
  cases bg
  rotate_left 1
  · go_enter Tryz.func3, Tryz.ntmps3
    go_wp2_with fail
    try rw [hW0]
    refine (HGr.out).mono ?_
    rintro e y1 ⟨rfl, hbc⟩
    dsimp only
    have He_1 := Lib.hid (SlAt.mono He.out (Nat.le_refl _) hbc)
    have HV_1 := Lib.hid (HV.out.below (Nat.le_refl _) hbc)
    have HZ_1 := Lib.hid (SlAt.mono HZ.out (Nat.le_refl _) hbc)
    have Hbb_1 := Lib.hid (Hbb.out.trans (hbc.mono Hbb.out.size))
    have Hbox_1 := Lib.hid (Hbox.out.below hbc)
    clear He HV HZ Hbb Hbox
    clear HGr c0 c1 c2 hW0
    obtain ⟨_, z0, z1, z2⟩ := Hbox_1.out
    go_wp2_with fail
    clear z0 z1 z2
    refine (evAwake_any _).mono ?_
    rintro e y2 ⟨rfl, hbc⟩
    dsimp only
    have He_2 := Lib.hid (SlAt.mono He_1.out (Nat.le_refl _) hbc)
    have HV_2 := Lib.hid (HV_1.out.below (Nat.le_refl _) hbc)
    have HZ_2 := Lib.hid (SlAt.mono HZ_1.out (Nat.le_refl _) hbc)
    have Hbb_2 := Lib.hid (Hbb_1.out.trans (hbc.mono Hbb_1.out.size))
    have Hbox_2 := Lib.hid (Hbox_1.out.below hbc)
    clear He_1 HV_1 HZ_1 Hbb_1 Hbox_1
    go_wp2
    go_ret
    exact ⟨rfl, Hbb_2.out⟩
  cases bh
  rotate_left 1
  · go_enter Tryz.func3, Tryz.ntmps3
    go_wp2_with fail
    try rw [hW0]
    refine (HGr.out).mono ?_
    rintro e y1 ⟨rfl, hbc⟩
    dsimp only
    have He_1 := Lib.hid (SlAt.mono He.out (Nat.le_refl _) hbc)
    have HV_1 := Lib.hid (HV.out.below (Nat.le_refl _) hbc)
    have HZ_1 := Lib.hid (SlAt.mono HZ.out (Nat.le_refl _) hbc)
    have Hbb_1 := Lib.hid (Hbb.out.trans (hbc.mono Hbb.out.size))
    have Hbox_1 := Lib.hid (Hbox.out.below hbc)
    clear He HV HZ Hbb Hbox
    clear HGr c0 c1 c2 hW0
    obtain ⟨_, z0, z1, z2⟩ := Hbox_1.out
    go_wp2_with fail
    clear z0 z1 z2
    refine (HHv.out _ HV_1.out).mono ?_
    rintro e y2 ⟨rfl, hbc⟩
    dsimp only
    have He_2 := Lib.hid (SlAt.mono He_1.out (Nat.le_refl _) hbc)
    have HV_2 := Lib.hid (HV_1.out.below (Nat.le_refl _) hbc)
    have HZ_2 := Lib.hid (SlAt.mono HZ_1.out (Nat.le_refl _) hbc)
    have Hbb_2 := Lib.hid (Hbb_1.out.trans (hbc.mono Hbb_1.out.size))
    have Hbox_2 := Lib.hid (Hbox_1.out.below hbc)
    clear He_1 HV_1 HZ_1 Hbb_1 Hbox_1
    obtain ⟨_, z0, z1, z2⟩ := Hbox_2.out
    go_wp2_with fail
    clear z0 z1 z2
    refine (evAwake_any _).mono ?_
    rintro e y3 ⟨rfl, hbc⟩
    dsimp only
    have He_3 := Lib.hid (SlAt.mono He_2.out (Nat.le_refl _) hbc)
    have HV_3 := Lib.hid (HV_2.out.below (Nat.le_refl _) hbc)
    have HZ_3 := Lib.hid (SlAt.mono HZ_2.out (Nat.le_refl _) hbc)
    have Hbb_3 := Lib.hid (Hbb_2.out.trans (hbc.mono Hbb_2.out.size))
    have Hbox_3 := Lib.hid (Hbox_2.out.below hbc)
    clear He_2 HV_2 HZ_2 Hbb_2 Hbox_2
    go_wp2
    go_ret
    exact ⟨rfl, Hbb_3.out⟩
  have hN10 := hvyB_no Hbh.out
  cases bl
  rotate_left 1
  · go_enter Tryz.func3, Tryz.ntmps3
    go_wp2_with fail
    try rw [hW0]
    refine (HGr.out).mono ?_
    rintro e y1 ⟨rfl, hbc⟩
    dsimp only
    have He_1 := Lib.hid (SlAt.mono He.out (Nat.le_refl _) hbc)
    have HV_1 := Lib.hid (HV.out.below (Nat.le_refl _) hbc)
    have HZ_1 := Lib.hid (SlAt.mono HZ.out (Nat.le_refl _) hbc)
    have Hbb_1 := Lib.hid (Hbb.out.trans (hbc.mono Hbb.out.size))
    have Hbox_1 := Lib.hid (Hbox.out.below hbc)
    clear He HV HZ Hbb Hbox
    clear HGr c0 c1 c2 hW0
    obtain ⟨_, z0, z1, z2⟩ := Hbox_1.out
    go_wp2_with fail
    clear z0 z1 z2
    refine (HHv.out _ HV_1.out).mono ?_
    rintro e y2 ⟨rfl, hbc⟩
    dsimp only
    have He_2 := Lib.hid (SlAt.mono He_1.out (Nat.le_refl _) hbc)
    have HV_2 := Lib.hid (HV_1.out.below (Nat.le_refl _) hbc)
    have HZ_2 := Lib.hid (SlAt.mono HZ_1.out (Nat.le_refl _) hbc)
    have Hbb_2 := Lib.hid (Hbb_1.out.trans (hbc.mono Hbb_1.out.size))
    have Hbox_2 := Lib.hid (Hbox_1.out.below hbc)
    clear He_1 HV_1 HZ_1 Hbb_1 Hbox_1
    obtain ⟨_, z0, z1, z2⟩ := Hbox_2.out
    go_wp2_with fail
    clear z0 z1 z2
    refine (HLg.out _ HZ_2.out).mono ?_
    rintro e y9 ⟨rfl, rfl⟩
    dsimp only
    obtain ⟨_, z0, z1, z2⟩ := Hbox_2.out
    go_wp2_with fail
    clear z0 z1 z2
    refine (evAwake_any _).mono ?_
    rintro e y3 ⟨rfl, hbc⟩
    dsimp only
    have He_3 := Lib.hid (SlAt.mono He_2.out (Nat.le_refl _) hbc)
    have HV_3 := Lib.hid (HV_2.out.below (Nat.le_refl _) hbc)
    have HZ_3 := Lib.hid (SlAt.mono HZ_2.out (Nat.le_refl _) hbc)
    have Hbb_3 := Lib.hid (Hbb_2.out.trans (hbc.mono Hbb_2.out.size))
    have Hbox_3 := Lib.hid (Hbox_2.out.below hbc)
    clear He_2 HV_2 HZ_2 Hbb_2 Hbox_2
    go_wp2
    go_ret
    exact ⟨rfl, Hbb_3.out⟩
  obtain ⟨hz10, hz16⟩ := longB_no Hbl.out
  obtain ⟨rg, NN, P, hg1, hg2, hNN, hP⟩ := both_greatest LL S n E p c m N v pv cv (by omega) Hpc.out
  obtain ⟨rc, hc1, hc2⟩ := both_check LL S n E p c m N v pv cv (by omega)
  obtain ⟨rr, hrr⟩ : ∃ r, crV LL S n E m nz Z = r := ⟨_, rfl⟩
  have HR1 := Lib.hid (fun W (h1 : EdgAt W p n E) (h2 : GRow W pz nz Z) => CheckRefute_any LL S n E p c m nz Z pz cz (by omega) (fun k hk => by have := hz16 k hk; omega) W h1 h2)
  have HR2 := Lib.hid (fun W (h1 : EdgAt W p n E) (h2 : GRow W pz nz Z) => rCheckRefute_any LL S n E p c m nz Z pz cz (by omega) (fun k hk => by have := hz16 k hk; omega) W h1 h2)
  rw [hrr] at HR1 HR2
  have HG1 := Lib.hid hg1
  have HG2 := Lib.hid hg2
  have HC1 := Lib.hid hc1
  have HC2 := Lib.hid hc2
  have HP := Lib.hid hP
  have HS1 := Lib.hid (fun W (h : VRow W pv N v) => Support_any N v pv cv (by omega) W h)
  have HS2 := Lib.hid (fun W (h : VRow W pv N v) => rSupport_any N v pv cv (by omega) W h)
  have hll : (supL v N).length ≤ 10 := Nat.le_trans (supL_len v N) hN10
  obtain ⟨Ls, hLs⟩ : ∃ L, supL v N = L := ⟨_, rfl⟩
  rw [hLs] at HS1 HS2 hll
  have Hll := Lib.hid hll
  have HNN := Lib.hid hNN
  have q1 : (rg == rg) = true := by simp
  have q2 : (rc == rc) = true := by simp
  have q3 : (rr == rr) = true := by simp
  clear hg1 hg2 hc1 hc2 hP hrr hLs hll hNN hz10 hz16 hN10
  go_enter Tryz.func3, Tryz.ntmps3
  go_wp2_with fail
  try rw [hW0]
  refine (HGr.out).mono ?_
  rintro e y1 ⟨rfl, hbc⟩
  dsimp only
  have He_1 := Lib.hid (SlAt.mono He.out (Nat.le_refl _) hbc)
  have HV_1 := Lib.hid (HV.out.below (Nat.le_refl _) hbc)
  have HZ_1 := Lib.hid (SlAt.mono HZ.out (Nat.le_refl _) hbc)
  have Hbb_1 := Lib.hid (Hbb.out.trans (hbc.mono Hbb.out.size))
  have Hbox_1 := Lib.hid (Hbox.out.below hbc)
  clear He HV HZ Hbb Hbox
  clear HGr c0 c1 c2 hW0
  obtain ⟨_, z0, z1, z2⟩ := Hbox_1.out
  go_wp2_with fail
  clear z0 z1 z2
  refine (HHv.out _ HV_1.out).mono ?_
  rintro e y2 ⟨rfl, hbc⟩
  dsimp only
  have He_2 := Lib.hid (SlAt.mono He_1.out (Nat.le_refl _) hbc)
  have HV_2 := Lib.hid (HV_1.out.below (Nat.le_refl _) hbc)
  have HZ_2 := Lib.hid (SlAt.mono HZ_1.out (Nat.le_refl _) hbc)
  have Hbb_2 := Lib.hid (Hbb_1.out.trans (hbc.mono Hbb_1.out.size))
  have Hbox_2 := Lib.hid (Hbox_1.out.below hbc)
  clear He_1 HV_1 HZ_1 Hbb_1 Hbox_1
  obtain ⟨_, z0, z1, z2⟩ := Hbox_2.out
  go_wp2_with fail
  clear z0 z1 z2
  refine (HLg.out _ HZ_2.out).mono ?_
  rintro e y9 ⟨rfl, rfl⟩
  dsimp only
  obtain ⟨g0, hg0⟩ : ∃ g, w.heap.size = g := ⟨_, rfl⟩
  rw [hg0] at Hbox_2
  try rw [hg0]
  have Hg0 := Lib.hid hg0
  clear hg0 HHv HLg Hbh Hbl Hpc
  obtain ⟨_, z0, z1, z2⟩ := Hbox_2.out
  go_wp2_with fail
  clear z0 z1 z2
  refine (HG1.out _ He_2.out HV_2.out).mono ?_
  rintro e y3 ⟨ua, qa, ca, hua, rfl, hqa, hbc⟩
  dsimp only
  have He_3 := Lib.hid (SlAt.mono He_2.out (Nat.le_refl _) hbc)
  have HV_3 := Lib.hid (HV_2.out.below (Nat.le_refl _) hbc)
  have HZ_3 := Lib.hid (SlAt.mono HZ_2.out (Nat.le_refl _) hbc)
  have Hbb_3 := Lib.hid (Hbb_2.out.trans (hbc.mono Hbb_2.out.size))
  have Hbox_3 := Lib.hid (Hbox_2.out.below hbc)
  clear He_2 HV_2 HZ_2 Hbb_2 Hbox_2
  have Hqa_3 := Lib.hid (hqa)
  have Hua := Lib.hid hua
  clear hua hqa hbc HG1
  obtain ⟨_, z0, z1, z2⟩ := Hbox_3.out
  go_wp2_with fail
  clear z0 z1 z2
  refine (HG2.out _ He_3.out HV_3.out).mono ?_
  rintro e y4 ⟨ub, qb, cb, hub, rfl, hqb, hbc⟩
  dsimp only
  have He_4 := Lib.hid (SlAt.mono He_3.out (Nat.le_refl _) hbc)
  have HV_4 := Lib.hid (HV_3.out.below (Nat.le_refl _) hbc)
  have HZ_4 := Lib.hid (SlAt.mono HZ_3.out (Nat.le_refl _) hbc)
  have Hbb_4 := Lib.hid (Hbb_3.out.trans (hbc.mono Hbb_3.out.size))
  have Hbox_4 := Lib.hid (Hbox_3.out.below hbc)
  have Hqa_4 := Lib.hid (Hqa_3.out.below (Nat.le_refl _) hbc)
  clear He_3 HV_3 HZ_3 Hbb_3 Hbox_3 Hqa_3
  have Hqb_4 := Lib.hid (hqb)
  have Hub := Lib.hid hub
  clear hub hqb hbc HG2
  obtain ⟨_, z0, z1, z2⟩ := Hbox_4.out
  go_upto_region 5 with (fail)
  clear z0 z1 z2
  obtain ⟨X, hX⟩ : ∃ Z, y4 = Z := ⟨_, rfl⟩
  rw [hX] at He_4 HV_4 HZ_4 Hbb_4 Hbox_4 Hqa_4 Hqb_4 ⊢
  clear hX
  have HX : Hid (∀ W, Below X.heap.size X W → EdgAt W p n E ∧ VRow W pv N v ∧ GRow W pz nz Z ∧ VRow W qa NN ua ∧ VRow W qb NN ub ∧ Below w.heap.size w W) := Lib.hid (fun W hW => ⟨SlAt.mono He_4.out (Nat.le_refl _) hW, HV_4.out.below (Nat.le_refl _) hW, SlAt.mono HZ_4.out (Nat.le_refl _) hW, Hqa_4.out.below (Nat.le_refl _) hW, Hqb_4.out.below (Nat.le_refl _) hW, Hbb_4.out.trans (hW.mono Hbb_4.out.size)⟩)
  obtain ⟨SS, hSe⟩ : ∃ SS : World → Prop, SS = fun W => W.cell? ⟨g0, 0, none⟩ = some (.int .i64 LL) ∧ W.cell? ⟨g0, 1, none⟩ = some (.int .i64 S) ∧ W.cell? ⟨g0, 2, none⟩ = some (.slice p n c) := ⟨_, rfl⟩
  have HS : Hid (∀ W, Below X.heap.size X W → SS W) := Lib.hid (fun W hW => by
    obtain ⟨_, b0, b1, b2⟩ := Hbox_4.out.below hW
    rw [hSe]; exact ⟨b0, b1, b2⟩)
  have hd : Below X.heap.size X X.drew := (Below.refl _ _).drew
  clear He_4 HV_4 HZ_4 Hbb_4 Hbox_4 Hqa_4 Hqb_4
  refine wp_region_held_drew (S := SS) (by kernel_rfl) (HS.out _ hd) (fun hSS => ?_)
  refine wpAnyH_take (i := 0) (v := ?_) rfl (by kernel_rfl) (by kernel_rfl) (by kernel_rfl) (fun _ _ _ h => h) (Or.inl ⟨by rfl, ?_⟩) (HS.out _ hd) ?_
  rotate_left 1
  next => intro w hSw; rw [hSe] at hSw; obtain ⟨s1, s2, s3⟩ := hSw; go_simp; try with_reducible rfl
  try simp only [Act.put, List.getElem_toArray, List.getElem_cons_zero, List.getElem_cons_succ, List.setIfInBounds_toArray, List.set_cons_zero, List.set_cons_succ]
  refine wpAnyH_take (i := 1) (v := ?_) rfl (by kernel_rfl) (by kernel_rfl) (by kernel_rfl) (fun _ _ _ h => h) (Or.inl ⟨by rfl, ?_⟩) (HS.out _ hd) ?_
  rotate_left 1
  next => intro w hSw; rw [hSe] at hSw; obtain ⟨s1, s2, s3⟩ := hSw; go_simp; try with_reducible rfl
  try simp only [Act.put, List.getElem_toArray, List.getElem_cons_zero, List.getElem_cons_succ, List.setIfInBounds_toArray, List.set_cons_zero, List.set_cons_succ]
  refine wpAnyH_take (i := 2) (v := ?_) rfl (by kernel_rfl) (by kernel_rfl) (by kernel_rfl) (fun _ _ _ h => h) (Or.inl ⟨by rfl, ?_⟩) (HS.out _ hd) ?_
  rotate_left 1
  next => intro w hSw; rw [hSe] at hSw; obtain ⟨s1, s2, s3⟩ := hSw; go_simp; try with_reducible rfl
  try simp only [Act.put, List.getElem_toArray, List.getElem_cons_zero, List.getElem_cons_succ, List.setIfInBounds_toArray, List.set_cons_zero, List.set_cons_succ]
  refine wpAnyH_take (i := 4) (v := ?_) rfl (by kernel_rfl) (by kernel_rfl) (by kernel_rfl) (fun _ _ _ h => h) (Or.inl ⟨by rfl, ?_⟩) (HS.out _ hd) ?_
  rotate_left 1
  next => intro w hSw; rw [hSe] at hSw; obtain ⟨s1, s2, s3⟩ := hSw; go_simp; try with_reducible rfl
  try simp only [Act.put, List.getElem_toArray, List.getElem_cons_zero, List.getElem_cons_succ, List.setIfInBounds_toArray, List.set_cons_zero, List.set_cons_succ]
  refine wpAnyH_take (i := 5) (v := ?_) rfl (by kernel_rfl) (by kernel_rfl) (by kernel_rfl) (fun _ _ _ h => h) (Or.inl ⟨by rfl, ?_⟩) (HS.out _ hd) ?_
  rotate_left 1
  next => intro w hSw; rw [hSe] at hSw; obtain ⟨s1, s2, s3⟩ := hSw; go_simp; try with_reducible rfl
  try simp only [Act.put, List.getElem_toArray, List.getElem_cons_zero, List.getElem_cons_succ, List.setIfInBounds_toArray, List.set_cons_zero, List.set_cons_succ]
  refine wpAnyH_take (i := 6) (v := ?_) rfl (by kernel_rfl) (by kernel_rfl) (by kernel_rfl) (fun _ _ _ h => h) (Or.inl ⟨by rfl, ?_⟩) (HS.out _ hd) ?_
  rotate_left 1
  next => intro w hSw; rw [hSe] at hSw; obtain ⟨s1, s2, s3⟩ := hSw; go_simp; try with_reducible rfl
  try simp only [Act.put, List.getElem_toArray, List.getElem_cons_zero, List.getElem_cons_succ, List.setIfInBounds_toArray, List.set_cons_zero, List.set_cons_succ]
  try simp only [Act.put, List.getElem_toArray, List.getElem_cons_zero, List.getElem_cons_succ, List.setIfInBounds_toArray, List.set_cons_zero, List.set_cons_succ]
  refine wpAnyH_ready (rs := [3]) (by kernel_rfl) (by simp) ?_
  refine AllReadyH.cons rfl (fun K hK => ?_) AllReadyH.nil
  go_simp
  refine (HC1.out _ (HX.out _ hd).1 (HX.out _ hd).2.1).mono ?_
  rintro e w1 ⟨rfl, hbc⟩
  have hb1 : Below X.heap.size X w1 := hd.trans (hbc.mono hd.size)
  dsimp only
  refine hK.out _ _ (HS.out _ hb1) (fun _ => ?_)
  clear hK K hbc
  try simp only [Act.put, List.getElem_toArray, List.getElem_cons_zero, List.getElem_cons_succ, List.setIfInBounds_toArray, List.set_cons_zero, List.set_cons_succ]
  refine wpAnyH_ready (rs := [7]) (by kernel_rfl) (by simp) ?_
  refine AllReadyH.cons rfl (fun K hK => ?_) AllReadyH.nil
  go_simp
  refine (HC2.out _ (HX.out _ hb1).1 (HX.out _ hb1).2.1).mono ?_
  rintro e w2 ⟨rfl, hbc⟩
  have hb2 : Below X.heap.size X w2 := hb1.trans (hbc.mono hb1.size)
  dsimp only
  refine hK.out _ _ (HS.out _ hb2) (fun _ => ?_)
  clear hK K hbc
  refine wpAnyH_take (i := 8) (v := ?_) rfl (by kernel_rfl) (by kernel_rfl) (by kernel_rfl) (fun _ _ _ h => h) (Or.inl ⟨by rfl, ?_⟩) (HS.out _ hb2) ?_
  rotate_left 1
  next => intro w hSw; rw [hSe] at hSw; obtain ⟨s1, s2, s3⟩ := hSw; go_simp; try with_reducible rfl
  try simp only [Act.put, List.getElem_toArray, List.getElem_cons_zero, List.getElem_cons_succ, List.setIfInBounds_toArray, List.set_cons_zero, List.set_cons_succ]
  refine wpAnyH_take (i := 9) (v := ?_) rfl (by kernel_rfl) (by kernel_rfl) (by kernel_rfl) (fun _ _ _ h => h) (Or.inl ⟨by rfl, ?_⟩) (HS.out _ hb2) ?_
  rotate_left 1
  next => intro w hSw; rw [hSe] at hSw; obtain ⟨s1, s2, s3⟩ := hSw; go_simp; try with_reducible rfl
  try simp only [Act.put, List.getElem_toArray, List.getElem_cons_zero, List.getElem_cons_succ, List.setIfInBounds_toArray, List.set_cons_zero, List.set_cons_succ]
  refine wpAnyH_take (i := 10) (v := ?_) rfl (by kernel_rfl) (by kernel_rfl) (by kernel_rfl) (fun _ _ _ h => h) (Or.inl ⟨by rfl, ?_⟩) (HS.out _ hb2) ?_
  rotate_left 1
  next => intro w hSw; rw [hSe] at hSw; obtain ⟨s1, s2, s3⟩ := hSw; go_simp; try with_reducible rfl
  try simp only [Act.put, List.getElem_toArray, List.getElem_cons_zero, List.getElem_cons_succ, List.setIfInBounds_toArray, List.set_cons_zero, List.set_cons_succ]
  refine wpAnyH_take (i := 11) (v := ?_) rfl (by kernel_rfl) (by kernel_rfl) (by kernel_rfl) (fun _ _ _ h => h) (Or.inl ⟨by rfl, ?_⟩) (HS.out _ hb2) ?_
  rotate_left 1
  next => intro w hSw; rw [hSe] at hSw; obtain ⟨s1, s2, s3⟩ := hSw; go_simp; try with_reducible rfl
  try simp only [Act.put, List.getElem_toArray, List.getElem_cons_zero, List.getElem_cons_succ, List.setIfInBounds_toArray, List.set_cons_zero, List.set_cons_succ]
  try simp only [Act.put, List.getElem_toArray, List.getElem_cons_zero, List.getElem_cons_succ, List.setIfInBounds_toArray, List.set_cons_zero, List.set_cons_succ]
  refine wpAnyH_ready (rs := [12]) (by kernel_rfl) (by simp) ?_
  refine AllReadyH.cons rfl (fun K hK => ?_) AllReadyH.nil
  go_simp
  refine (equal_same NN ua ub qa qb ca cb _ (HX.out _ hb2).2.2.2.1 (HX.out _ hb2).2.2.2.2.1 (by have := HNN.out; omega) (HP.out _ _ Hua.out Hub.out)).mono ?_
  rintro e w3 ⟨rfl, hbc⟩
  have hb3 : Below X.heap.size X w3 := hb2.trans (hbc.mono hb2.size)
  dsimp only
  refine hK.out _ _ (HS.out _ hb3) (fun _ => ?_)
  clear hK K hbc
  refine wpAnyH_take (i := 13) (v := ?_) rfl (by kernel_rfl) (by kernel_rfl) (by kernel_rfl) (fun _ _ _ h => h) (Or.inl ⟨by rfl, ?_⟩) (HS.out _ hb3) ?_
  rotate_left 1
  next => intro w hSw; rw [hSe] at hSw; obtain ⟨s1, s2, s3⟩ := hSw; go_simp; try with_reducible rfl
  try simp only [Act.put, List.getElem_toArray, List.getElem_cons_zero, List.getElem_cons_succ, List.setIfInBounds_toArray, List.set_cons_zero, List.set_cons_succ]
  refine wpAnyH_take (i := 14) (v := ?_) rfl (by kernel_rfl) (by kernel_rfl) (by kernel_rfl) (fun _ _ _ h => h) (Or.inl ⟨by rfl, ?_⟩) (HS.out _ hb3) ?_
  rotate_left 1
  next => intro w hSw; rw [hSe] at hSw; obtain ⟨s1, s2, s3⟩ := hSw; go_simp; try with_reducible rfl
  try simp only [Act.put, List.getElem_toArray, List.getElem_cons_zero, List.getElem_cons_succ, List.setIfInBounds_toArray, List.set_cons_zero, List.set_cons_succ]
  refine wpAnyH_take (i := 15) (v := ?_) rfl (by kernel_rfl) (by kernel_rfl) (by kernel_rfl) (fun _ _ _ h => h) (Or.inl ⟨by rfl, ?_⟩) (HS.out _ hb3) ?_
  rotate_left 1
  next => intro w hSw; rw [hSe] at hSw; obtain ⟨s1, s2, s3⟩ := hSw; go_simp; try with_reducible rfl
  try simp only [Act.put, List.getElem_toArray, List.getElem_cons_zero, List.getElem_cons_succ, List.setIfInBounds_toArray, List.set_cons_zero, List.set_cons_succ]
  refine wpAnyH_take (i := 16) (v := ?_) rfl (by kernel_rfl) (by kernel_rfl) (by kernel_rfl) (fun _ _ _ h => h) (Or.inl ⟨by rfl, ?_⟩) (HS.out _ hb3) ?_
  rotate_left 1
  next => intro w hSw; rw [hSe] at hSw; obtain ⟨s1, s2, s3⟩ := hSw; go_simp; try with_reducible rfl
  try simp only [Act.put, List.getElem_toArray, List.getElem_cons_zero, List.getElem_cons_succ, List.setIfInBounds_toArray, List.set_cons_zero, List.set_cons_succ]
  refine wpAnyH_take (i := 17) (v := ?_) rfl (by kernel_rfl) (by kernel_rfl) (by kernel_rfl) (fun _ _ _ h => h) (Or.inl ⟨by rfl, ?_⟩) (HS.out _ hb3) ?_
  rotate_left 1
  next => intro w hSw; rw [hSe] at hSw; obtain ⟨s1, s2, s3⟩ := hSw; go_simp; try with_reducible rfl
  try simp only [Act.put, List.getElem_toArray, List.getElem_cons_zero, List.getElem_cons_succ, List.setIfInBounds_toArray, List.set_cons_zero, List.set_cons_succ]
  refine wpAnyH_take (i := 18) (v := ?_) rfl (by kernel_rfl) (by kernel_rfl) (by kernel_rfl) (fun _ _ _ h => h) (Or.inl ⟨by rfl, ?_⟩) (HS.out _ hb3) ?_
  rotate_left 1
  next => intro w hSw; rw [hSe] at hSw; obtain ⟨s1, s2, s3⟩ := hSw; go_simp; try with_reducible rfl
  try simp only [Act.put, List.getElem_toArray, List.getElem_cons_zero, List.getElem_cons_succ, List.setIfInBounds_toArray, List.set_cons_zero, List.set_cons_succ]
  refine wpAnyH_take (i := 19) (v := ?_) rfl (by kernel_rfl) (by kernel_rfl) (by kernel_rfl) (fun _ _ _ h => h) (Or.inl ⟨by rfl, ?_⟩) (HS.out _ hb3) ?_
  rotate_left 1
  next => intro w hSw; rw [hSe] at hSw; obtain ⟨s1, s2, s3⟩ := hSw; go_simp; try with_reducible rfl
  try simp only [Act.put, List.getElem_toArray, List.getElem_cons_zero, List.getElem_cons_succ, List.setIfInBounds_toArray, List.set_cons_zero, List.set_cons_succ]
  refine wpAnyH_take (i := 20) (v := ?_) rfl (by kernel_rfl) (by kernel_rfl) (by kernel_rfl) (fun _ _ _ h => h) (Or.inl ⟨by rfl, ?_⟩) (HS.out _ hb3) ?_
  rotate_left 1
  next => intro w hSw; rw [hSe] at hSw; obtain ⟨s1, s2, s3⟩ := hSw; go_simp; try with_reducible rfl
  try simp only [Act.put, List.getElem_toArray, List.getElem_cons_zero, List.getElem_cons_succ, List.setIfInBounds_toArray, List.set_cons_zero, List.set_cons_succ]
  refine wpAnyH_take (i := 21) (v := ?_) rfl (by kernel_rfl) (by kernel_rfl) (by kernel_rfl) (fun _ _ _ h => h) (Or.inl ⟨by rfl, ?_⟩) (HS.out _ hb3) ?_
  rotate_left 1
  next => intro w hSw; rw [hSe] at hSw; obtain ⟨s1, s2, s3⟩ := hSw; go_simp; try with_reducible rfl
  try simp only [Act.put, List.getElem_toArray, List.getElem_cons_zero, List.getElem_cons_succ, List.setIfInBounds_toArray, List.set_cons_zero, List.set_cons_succ]
  refine wpAnyH_take (i := 22) (v := ?_) rfl (by kernel_rfl) (by kernel_rfl) (by kernel_rfl) (fun _ _ _ h => h) (Or.inl ⟨by rfl, ?_⟩) (HS.out _ hb3) ?_
  rotate_left 1
  next => intro w hSw; rw [hSe] at hSw; obtain ⟨s1, s2, s3⟩ := hSw; go_simp; try with_reducible rfl
  try simp only [Act.put, List.getElem_toArray, List.getElem_cons_zero, List.getElem_cons_succ, List.setIfInBounds_toArray, List.set_cons_zero, List.set_cons_succ]
  refine wpAnyH_take (i := 24) (v := ?_) rfl (by kernel_rfl) (by kernel_rfl) (by kernel_rfl) (fun _ _ _ h => h) (Or.inl ⟨by rfl, ?_⟩) (HS.out _ hb3) ?_
  rotate_left 1
  next => intro w hSw; rw [hSe] at hSw; obtain ⟨s1, s2, s3⟩ := hSw; go_simp; try with_reducible rfl
  try simp only [Act.put, List.getElem_toArray, List.getElem_cons_zero, List.getElem_cons_succ, List.setIfInBounds_toArray, List.set_cons_zero, List.set_cons_succ]
  refine wpAnyH_take (i := 25) (v := ?_) rfl (by kernel_rfl) (by kernel_rfl) (by kernel_rfl) (fun _ _ _ h => h) (Or.inl ⟨by rfl, ?_⟩) (HS.out _ hb3) ?_
  rotate_left 1
  next => intro w hSw; rw [hSe] at hSw; obtain ⟨s1, s2, s3⟩ := hSw; go_simp; try with_reducible rfl
  try simp only [Act.put, List.getElem_toArray, List.getElem_cons_zero, List.getElem_cons_succ, List.setIfInBounds_toArray, List.set_cons_zero, List.set_cons_succ]
  refine wpAnyH_take (i := 26) (v := ?_) rfl (by kernel_rfl) (by kernel_rfl) (by kernel_rfl) (fun _ _ _ h => h) (Or.inl ⟨by rfl, ?_⟩) (HS.out _ hb3) ?_
  rotate_left 1
  next => intro w hSw; rw [hSe] at hSw; obtain ⟨s1, s2, s3⟩ := hSw; go_simp; try with_reducible rfl
  try simp only [Act.put, List.getElem_toArray, List.getElem_cons_zero, List.getElem_cons_succ, List.setIfInBounds_toArray, List.set_cons_zero, List.set_cons_succ]
  try simp only [Act.put, List.getElem_toArray, List.getElem_cons_zero, List.getElem_cons_succ, List.setIfInBounds_toArray, List.set_cons_zero, List.set_cons_succ]
  refine wpAnyH_ready (rs := [23]) (by kernel_rfl) (by simp) ?_
  refine AllReadyH.cons rfl (fun K hK => ?_) AllReadyH.nil
  go_simp
  refine (HR1.out _ (HX.out _ hb3).1 (HX.out _ hb3).2.2.1).mono ?_
  rintro e w4 ⟨rfl, hbc⟩
  have hb4 : Below X.heap.size X w4 := hb3.trans (hbc.mono hb3.size)
  dsimp only
  refine hK.out _ _ (HS.out _ hb4) (fun _ => ?_)
  clear hK K hbc
  try simp only [Act.put, List.getElem_toArray, List.getElem_cons_zero, List.getElem_cons_succ, List.setIfInBounds_toArray, List.set_cons_zero, List.set_cons_succ]
  refine wpAnyH_ready (rs := [27]) (by kernel_rfl) (by simp) ?_
  refine AllReadyH.cons rfl (fun K hK => ?_) AllReadyH.nil
  go_simp
  refine (HR2.out _ (HX.out _ hb4).1 (HX.out _ hb4).2.2.1).mono ?_
  rintro e w5 ⟨rfl, hbc⟩
  have hb5 : Below X.heap.size X w5 := hb4.trans (hbc.mono hb4.size)
  dsimp only
  refine hK.out _ _ (HS.out _ hb5) (fun _ => ?_)
  clear hK K hbc
  refine wpAnyH_take (i := 28) (v := ?_) rfl (by kernel_rfl) (by kernel_rfl) (by kernel_rfl) (fun _ _ _ h => h) (Or.inl ⟨by rfl, ?_⟩) (HS.out _ hb5) ?_
  rotate_left 1
  next => intro w hSw; rw [hSe] at hSw; obtain ⟨s1, s2, s3⟩ := hSw; go_simp; try with_reducible rfl
  try simp only [Act.put, List.getElem_toArray, List.getElem_cons_zero, List.getElem_cons_succ, List.setIfInBounds_toArray, List.set_cons_zero, List.set_cons_succ]
  refine wpAnyH_take (i := 29) (v := ?_) rfl (by kernel_rfl) (by kernel_rfl) (by kernel_rfl) (fun _ _ _ h => h) (Or.inl ⟨by rfl, ?_⟩) (HS.out _ hb5) ?_
  rotate_left 1
  next => intro w hSw; rw [hSe] at hSw; obtain ⟨s1, s2, s3⟩ := hSw; go_simp; try with_reducible rfl
  try simp only [Act.put, List.getElem_toArray, List.getElem_cons_zero, List.getElem_cons_succ, List.setIfInBounds_toArray, List.set_cons_zero, List.set_cons_succ]
  refine wpAnyH_take (i := 30) (v := ?_) rfl (by kernel_rfl) (by kernel_rfl) (by kernel_rfl) (fun _ _ _ h => h) (Or.inl ⟨by rfl, ?_⟩) (HS.out _ hb5) ?_
  rotate_left 1
  next => intro w hSw; rw [hSe] at hSw; obtain ⟨s1, s2, s3⟩ := hSw; go_simp; try with_reducible rfl
  try simp only [Act.put, List.getElem_toArray, List.getElem_cons_zero, List.getElem_cons_succ, List.setIfInBounds_toArray, List.set_cons_zero, List.set_cons_succ]
  refine wpAnyH_take (i := 31) (v := ?_) rfl (by kernel_rfl) (by kernel_rfl) (by kernel_rfl) (fun _ _ _ h => h) (Or.inl ⟨by rfl, ?_⟩) (HS.out _ hb5) ?_
  rotate_left 1
  next => intro w hSw; rw [hSe] at hSw; obtain ⟨s1, s2, s3⟩ := hSw; go_simp; try with_reducible rfl
  try simp only [Act.put, List.getElem_toArray, List.getElem_cons_zero, List.getElem_cons_succ, List.setIfInBounds_toArray, List.set_cons_zero, List.set_cons_succ]
  refine wpAnyH_take (i := 33) (v := ?_) rfl (by kernel_rfl) (by kernel_rfl) (by kernel_rfl) (fun _ _ _ h => h) (Or.inl ⟨by rfl, ?_⟩) (HS.out _ hb5) ?_
  rotate_left 1
  next => intro w hSw; rw [hSe] at hSw; obtain ⟨s1, s2, s3⟩ := hSw; go_simp; try with_reducible rfl
  try simp only [Act.put, List.getElem_toArray, List.getElem_cons_zero, List.getElem_cons_succ, List.setIfInBounds_toArray, List.set_cons_zero, List.set_cons_succ]
  try simp only [Act.put, List.getElem_toArray, List.getElem_cons_zero, List.getElem_cons_succ, List.setIfInBounds_toArray, List.set_cons_zero, List.set_cons_succ]
  refine wpAnyH_ready (rs := [32]) (by kernel_rfl) (by simp) ?_
  refine AllReadyH.cons rfl (fun K hK => ?_) AllReadyH.nil
  go_simp
  refine (HS1.out _ (HX.out _ hb5).2.1).mono ?_
  rintro e w6 ⟨v1, rfl, ho1, hbc⟩
  have hb6 : Below X.heap.size X w6 := hb5.trans (hbc.mono hb5.size)
  dsimp only
  obtain ⟨p1, k1, rfl, hr1⟩ := own_ints ho1
  clear ho1
  refine hK.out _ _ (HS.out _ hb6) (fun _ => ?_)
  clear hK K hbc
  try simp only [Act.put, List.getElem_toArray, List.getElem_cons_zero, List.getElem_cons_succ, List.setIfInBounds_toArray, List.set_cons_zero, List.set_cons_succ]
  refine wpAnyH_ready (rs := [34]) (by kernel_rfl) (by simp) ?_
  refine AllReadyH.cons rfl (fun K hK => ?_) AllReadyH.nil
  go_simp
  refine (HS2.out _ (HX.out _ hb6).2.1).mono ?_
  rintro e w7 ⟨v2, rfl, ho2, hbc⟩
  have hb7 : Below X.heap.size X w7 := hb6.trans (hbc.mono hb6.size)
  dsimp only
  obtain ⟨p2, k2, rfl, hr2⟩ := own_ints ho2
  have hr3 := hr1.below (Nat.le_refl _) hbc
  clear ho2
  refine hK.out _ _ (HS.out _ hb7) (fun _ => ?_)
  clear hK K hbc
  try simp only [Act.put, List.getElem_toArray, List.getElem_cons_zero, List.getElem_cons_succ, List.setIfInBounds_toArray, List.set_cons_zero, List.set_cons_succ]
  refine wpAnyH_ready (rs := [35]) (by kernel_rfl) (by simp) ?_
  refine AllReadyH.cons rfl (fun K hK => ?_) AllReadyH.nil
  go_simp
  refine (equal_same Ls.length _ _ p1 p2 k1 k2 _ hr3 hr2 (by have := Hll.out; omega) (fun _ _ => rfl)).mono ?_
  rintro e w8 ⟨rfl, hbc⟩
  have hb8 : Below X.heap.size X w8 := hb7.trans (hbc.mono hb7.size)
  dsimp only
  refine hK.out _ _ (HS.out _ hb8) (fun _ => ?_)
  clear hK K hbc
  refine wpAnyH_take (i := 36) (v := ?_) rfl (by kernel_rfl) (by kernel_rfl) (by kernel_rfl) (fun _ _ _ h => h) (Or.inl ⟨by rfl, ?_⟩) (HS.out _ hb8) ?_
  rotate_left 1
  next => intro w hSw; rw [hSe] at hSw; obtain ⟨s1, s2, s3⟩ := hSw; go_simp; try with_reducible rfl
  try simp only [Act.put, List.getElem_toArray, List.getElem_cons_zero, List.getElem_cons_succ, List.setIfInBounds_toArray, List.set_cons_zero, List.set_cons_succ]
  refine wpAnyH_take (i := 37) (v := ?_) rfl (by kernel_rfl) (by kernel_rfl) (by kernel_rfl) (fun _ _ _ h => h) (Or.inl ⟨by rfl, ?_⟩) (HS.out _ hb8) ?_
  rotate_left 1
  next => intro w hSw; rw [hSe] at hSw; obtain ⟨s1, s2, s3⟩ := hSw; go_simp; try with_reducible rfl
  try simp only [Act.put, List.getElem_toArray, List.getElem_cons_zero, List.getElem_cons_succ, List.setIfInBounds_toArray, List.set_cons_zero, List.set_cons_succ]
  try simp only [Act.put, List.getElem_toArray, List.getElem_cons_zero, List.getElem_cons_succ, List.setIfInBounds_toArray, List.set_cons_zero, List.set_cons_succ]
  refine wpAnyH_ready (rs := [38]) (by kernel_rfl) (by simp) ?_
  refine AllReadyH.cons rfl (fun K hK => ?_) AllReadyH.nil
  go_simp
  refine (evAwake_any _).mono ?_
  rintro e w9 ⟨rfl, hbc⟩
  have hb9 : Below X.heap.size X w9 := hb8.trans (hbc.mono hb8.size)
  dsimp only
  refine hK.out _ _ (HS.out _ hb9) (fun _ => ?_)
  clear hK K hbc
  refine wpAnyH_take (i := 39) (v := ?_) rfl (by kernel_rfl) (by kernel_rfl) (by kernel_rfl) (fun _ _ _ h => h) (Or.inl ⟨by rfl, ?_⟩) (HS.out _ hb9) ?_
  rotate_left 1
  next => intro w hSw; rw [hSe] at hSw; obtain ⟨s1, s2, s3⟩ := hSw; go_simp; try with_reducible rfl
  try simp only [Act.put, List.getElem_toArray, List.getElem_cons_zero, List.getElem_cons_succ, List.setIfInBounds_toArray, List.set_cons_zero, List.set_cons_succ]
  refine wpAnyH_take (i := 40) (v := ?_) rfl (by kernel_rfl) (by kernel_rfl) (by kernel_rfl) (fun _ _ _ h => h) (Or.inl ⟨by rfl, ?_⟩) (HS.out _ hb9) ?_
  rotate_left 1
  next => intro w hSw; rw [hSe] at hSw; obtain ⟨s1, s2, s3⟩ := hSw; go_simp; try with_reducible rfl
  try simp only [Act.put, List.getElem_toArray, List.getElem_cons_zero, List.getElem_cons_succ, List.setIfInBounds_toArray, List.set_cons_zero, List.set_cons_succ]
  refine wpAnyH_done (by kernel_rfl) ?_ _
  have Hbw := Lib.hid (HX.out _ hb9).2.2.2.2.2
  clear HX HS hSe hSS hd
  go_wp2
  go_ret
  exact ⟨rfl, by first | exact Hbw.out | (rw [← Hg0.out]; exact Hbw.out)⟩
end Go.Proofs.YtlaoijfphkhchaaGreat
