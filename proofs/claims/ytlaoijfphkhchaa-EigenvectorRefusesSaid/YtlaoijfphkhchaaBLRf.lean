/- EigenvectorRefuses: the walk. -/
import Derived.Test.YtlaoijfphkhchaaB42
import Derived.Test.YtlaoijfphkhchaaB43
import Derived.Test.YtlaoijfphkhchaaB44
namespace Go.Proofs.Ytlaoijfphkhchaa
open Go.RowKit Go.Shelf
def longB (nz : Nat) (Z : Nat → ZI) : Bool := anyN (fun k => decide (16 < (Z k).mag.size)) nz || decide (10 < nz)
set_option maxRecDepth 100000 in
set_option maxHeartbeats 4000000 in
theorem refLong_any (nz : Nat) (Z : Nat → ZI) (pz : Option Addr) (cz : Nat) (hnz : nz ≤ 9223372036854775807) (hz : ∀ k, k < nz → (Z k).mag.size ≤ 9223372036854775807) (w : World) (hZ : GRow w pz nz Z) :
    Calls Try.prog 32 #[.slice pz nz cz] w fun e w' => e = .returned (.bool (longB nz Z)) ∧ w = w' := by
  have HZ := Lib.hid hZ
  have Hz := Lib.hid hz
  obtain ⟨r, hr⟩ : ∃ r, longB nz Z = r := ⟨_, rfl⟩
  rw [hr]
  have HA := Lib.hid (show (∃ k, k < nz ∧ 16 < (Z k).mag.size) → true = r from fun ⟨k, hk, h⟩ => by
    rw [← hr]; unfold longB; rw [anyN_true.2 ⟨k, hk, decide_eq_true h⟩]; rfl)
  have HN := Lib.hid (show (∀ k, k < nz → ¬ 16 < (Z k).mag.size) → decide (10 < nz) = r from fun h => by
    rw [← hr]; unfold longB; rw [anyN_false.2 fun k hk => decide_eq_false (h k hk)]; rfl)
  clear hZ hz hr
  go_enter Try.func32, Try.ntmps32
  go_wp2_with fail
  go_loopw [3] (fun tv wr => ∃ i : Nat, i ≤ nz ∧ tv = .int .i64 (i : Nat) ∧ Hid (∀ k, k < i → ¬ 16 < (Z k).mag.size) ∧ w = wr) (fun tv _ => nz - (intOf tv).toNat)
  case atStart => exact ⟨0, by omega, by go_num, Lib.hid (fun k hk => by omega), rfl⟩
  case round =>
    obtain ⟨i, hi, rfl, HK, rfl⟩ := hrel
    by_cases hil : i < nz
    · have i3 : (i : Int) < (nz : Int) := by omega
      have i4 : (0 : Int) ≤ (i : Int) := by omega
      rcases HZ.out with h | ⟨ab, ao, rfl, hab, hac⟩
      · omega
      have a3 : w.cell? ⟨ab, ao + i * 2, none⟩ = some (.bool (Z i).neg) := by simpa [zg] using hac i hil 0 (by omega)
      have a4 : w.cell? ⟨ab, ao + i * 2 + 1, none⟩ = some (.string (Z i).mag) := by simpa [zg] using hac i hil 1 (by omega)
      have hzi := Hz.out i hil
      have HA1 := Lib.hid (fun (h : 16 < (Z i).mag.size) => HA.out ⟨i, hil, h⟩)
      have HK1 := Lib.hid (fun (h : ¬ 16 < (Z i).mag.size) (k : Nat) (hk : k < i + 1) => show ¬ 16 < (Z k).mag.size from by
        by_cases e : k = i
        · rw [e]; exact h
        · exact HK.out k (by omega))
      obtain ⟨z, hzz⟩ : ∃ z, Z i = z := ⟨_, rfl⟩
      rw [hzz] at a3 a4 hzi HA1 HK1
      clear hac hzz HK
      by_cases h : 16 < z.mag.size
      · have HR := Lib.hid (HA1.out h)
        have h2 : (16 : Int) < (z.mag.size : Int) := by omega
        clear HA1 HK1
        go_wp2
        go_ret
        exact ⟨by rw [← HR.out]; rfl, rfl⟩
      · have HK2 := Lib.hid (HK1.out h)
        have h2 : ¬ (16 : Int) < (z.mag.size : Int) := by omega
        clear HA1 HK1
        go_wp2
        go_roundw
        case rel => exact ⟨i + 1, by omega, by go_num, HK2, by first | rfl | trivial⟩
        case measure => simp [intOf]; omega
    · have i3 : ¬ (i : Int) < (nz : Int) := by omega
      have HR := Lib.hid (HN.out (fun k hk => HK.out k (by omega)))
      by_cases h : 10 < nz
      · have hr : true = r := by rw [← HR.out]; exact (decide_eq_true h).symm
        have HR2 := Lib.hid hr
        have h2 : (10 : Int) < (nz : Int) := by omega
        clear hr HR
        go_wp2
        go_ret
        exact ⟨by rw [← HR2.out]; rfl, rfl⟩
      · have hr : false = r := by rw [← HR.out]; exact (decide_eq_false h).symm
        have HR2 := Lib.hid hr
        have h2 : ¬ (10 : Int) < (nz : Int) := by omega
        clear hr HR
        go_wp2
        go_ret
        exact ⟨by rw [← HR2.out]; rfl, rfl⟩
theorem rfX_bn {N n m : Nat} {E : Nat → Nat → Int} (h0 : 0 < N) (h32 : N ≤ 32) (hm : m ≤ 256) (hn : n ≤ 1000000) (s : Nat) (hs : s < N) : Bn (rfX N n m E s) 1029 := by
  have hbn : BnM N N (mIA m (adjE E n)) 21 := fun i k _ _ => by
    unfold Bn mIA adjE
    have := cntE_le E n i k
    split <;> omega
  refine Bn.dot (e := 1024) (m := 5) N h32 fun k hk => ?_
  rw [← adjC_eq h0 _ s k hs hk]
  have h1 := (chrM_bn hbn (m := 5) h32 (N - 1)) s k hs hk
  have h2 : (N - 1) * (21 + 5 + 5 + 1) ≤ 31 * (21 + 5 + 5 + 1) := Nat.mul_le_mul_right _ (by omega)
  unfold adjC
  split
  · exact (h1.neg).up (by omega)
  · exact h1.up (by omega)
theorem rfsB_congr {fr te : Nat → Nat} {n N m : Nat} {u v : Nat → Int} (ht : ∀ e, e < n → te e < N) (h : ∀ s, s < N → u s = v s) : rfsB fr te n N m u = rfsB fr te n N m v := by
  unfold rfsB
  rw [anyN_congr (Q := fun s => decide (v s ≤ 0 ∨ (m : Int) * v s ≤ smE fr te v n s)) fun s hs => by rw [h s hs, smE_congr ht h]]
theorem okZ_canon (x : Int) : okZ (canon x) = true := decide_eq_true (by rw [valZ_canon])
theorem crV_own {LL : Int} {N n m : Nat} {E : Nat → Nat → Int} (hg : gChk LL N n E = 0) (h0 : 0 < N) (hm0 : 0 < m) (hm : m ≤ 256) {X : Nat → Int} (h : rfsB (frE E) (toE E) n N m X = true) : crV LL N n E m N (fun k => canon (X k)) = 0 := by
  have hok : EdOk N n E := by have := gChk_ok hg; simpa using this
  unfold crV
  rw [if_neg (show ¬ (gChk LL N n E ≠ 0) from fun h => h hg), anyN_false.2 fun k _ => by rw [okZ_canon]; rfl, if_neg (show ¬ (false = true) from Bool.false_ne_true), if_neg (by omega), if_neg (show ¬ ((N : Int) ≠ (N : Int)) from fun h => h rfl), if_neg (by omega), Int.toNat_natCast,
    rfsB_congr (v := X) (fun e he => (edOk_nat hok e he).2.2.2) (fun s _ => valZ_canon _), if_pos h]
theorem crV_none {LL : Int} {N n m nz : Nat} {E : Nat → Nat → Int} (hg : gChk LL N n E = 0) (hX : rfsB (frE E) (toE E) n N m (rfX N n m E) = false) (Z : Nat → ZI) : crV LL N n E m nz Z ≠ 0 := by
  have hok : EdOk N n E := by have := gChk_ok hg; simpa using this
  intro h
  unfold crV at h
  split at h
  · cases h
  split at h
  · cases h
  split at h
  · cases h
  split at h
  · cases h
  split at h
  · cases h
  split at h
  · rename_i h4 h5 h6
    have hn : nz = N := by omega
    subst hn
    rw [Int.toNat_natCast] at h6
    have h7 := refuse_adj (A := adjE E n) (fun s t => by unfold adjE; omega) (fun v s _ => smE_adj hok v s) (rfsB_true.1 h6) (x := rfX nz n m E) (fun i _ => rfl)
    rw [rfsB_true.2 h7] at hX
    cases hX
  · cases h
theorem not_any_zero {u : Nat → Int} {N : Nat} (h : ∀ s, s < N → u s = 0) : (!anyN (fun k => u k != 0) N) = true := by
  rw [anyN_false.2 fun k hk => by rw [h k hk]; rfl]; rfl
set_option maxRecDepth 100000 in
set_option maxHeartbeats 16000000 in
theorem lawRefuses (LL S : Int) (n : Nat) (E : Nat → Nat → Int) (p : Option Addr) (c : Nat) (px : Option Addr) (cx : Nat) (xs : List Nat) (mi : Int) (pz : Option Addr) (nz cz : Nat) (Z : Nat → ZI) (w : World) (hE : EdgAt w p n E) (hX : ByteAt w px xs) (hx : ∀ x ∈ xs, x < 256) (hxl : xs.length ≤ maxLen) (hZ : GRow w pz nz Z) (hnz : nz ≤ maxLen) (hz : ∀ k, k < nz → (Z k).mag.size ≤ maxLen) :
    Calls Try.prog 8 #[.agg #[.int .i64 LL, .int .i64 S, .slice p n c], .slice px xs.length cx, .int .i64 mi, .slice pz nz cz] w (RetB true w) := by
  unfold maxLen at hxl hnz hz
  obtain ⟨W0, hW0⟩ : ∃ W, w.alloc (.cells #[.int .i64 LL, .int .i64 S, .slice p n c] 24) = W := ⟨_, rfl⟩
  have hb0 : Below w.heap.size w W0 := by rw [← hW0]; exact (Below.refl _ _).alloc (Nat.le_refl _) _
  have hbx : BoxAt3 W0 w.heap.size (.int .i64 LL) (.int .i64 S) (.slice p n c) := by rw [← hW0]; exact BoxAt3.new w _ _ _ _
  have He := Lib.hid (show EdgAt W0 p n E from hE.mono (Nat.le_refl _) hb0)
  have Hx := Lib.hid (show ByteAt W0 px xs from hX.below (Nat.le_refl _) hb0)
  have Hzr := Lib.hid (show GRow W0 pz nz Z from SlAt.mono hZ (Nat.le_refl _) hb0)
  have HF := Lib.hid (fine23_any LL S n E p c mi W0 He.out)
  have HLg := Lib.hid (fun W (hW : GRow W pz nz Z) => refLong_any nz Z pz cz (by omega) (fun k hk => by have := hz k hk; omega) W hW)
  have Hbb := Lib.hid hb0
  have Hbox := Lib.hid hbx
  obtain ⟨_, c0, c1, c2⟩ := hbx
  have Hxb := Lib.hid hx
  clear hE hX hZ hb0 hx hz
  obtain ⟨ff, hff⟩ : ∃ b, fine23 LL S n E mi = b := ⟨_, rfl⟩
  rw [hff] at HF
  cases ff
  · clear hff
    go_enter Try.func8, Try.ntmps8
    go_wp2_with fail
    try rw [hW0]
    refine (HF.out).mono ?_
    rintro e y1 ⟨rfl, hbc⟩
    dsimp only
    have He_1 := Lib.hid (SlAt.mono He.out (Nat.le_refl _) hbc)
    have Hx_1 := Lib.hid (Hx.out.below (Nat.le_refl _) hbc)
    have Hzr_1 := Lib.hid (SlAt.mono Hzr.out (Nat.le_refl _) hbc)
    have Hbb_1 := Lib.hid (Hbb.out.trans (hbc.mono Hbb.out.size))
    have Hbox_1 := Lib.hid (Hbox.out.below hbc)
    clear He Hx Hzr Hbb Hbox
    clear HF c0 c1 c2 hW0
    obtain ⟨_, z0, z1, z2⟩ := Hbox_1.out
    go_wp2_with fail
    clear z0 z1 z2
    refine (evAwake_any _).mono ?_
    rintro e y2 ⟨rfl, hbc⟩
    dsimp only
    have He_2 := Lib.hid (SlAt.mono He_1.out (Nat.le_refl _) hbc)
    have Hx_2 := Lib.hid (Hx_1.out.below (Nat.le_refl _) hbc)
    have Hzr_2 := Lib.hid (SlAt.mono Hzr_1.out (Nat.le_refl _) hbc)
    have Hbb_2 := Lib.hid (Hbb_1.out.trans (hbc.mono Hbb_1.out.size))
    have Hbox_2 := Lib.hid (Hbox_1.out.below hbc)
    clear He_1 Hx_1 Hzr_1 Hbb_1 Hbox_1
    go_wp2
    go_ret
    exact ⟨rfl, Hbb_2.out⟩
  obtain ⟨hg, hS1, hS6, hn, hm1, hm2⟩ := fine23_true hff
  clear hff
  obtain ⟨lg, hlg⟩ : ∃ b, longB nz Z = b := ⟨_, rfl⟩
  rw [hlg] at HLg
  cases lg
  rotate_left 1
  · clear hlg hg
    go_enter Try.func8, Try.ntmps8
    go_wp2_with fail
    try rw [hW0]
    refine (HF.out).mono ?_
    rintro e y1 ⟨rfl, hbc⟩
    dsimp only
    have He_1 := Lib.hid (SlAt.mono He.out (Nat.le_refl _) hbc)
    have Hx_1 := Lib.hid (Hx.out.below (Nat.le_refl _) hbc)
    have Hzr_1 := Lib.hid (SlAt.mono Hzr.out (Nat.le_refl _) hbc)
    have Hbb_1 := Lib.hid (Hbb.out.trans (hbc.mono Hbb.out.size))
    have Hbox_1 := Lib.hid (Hbox.out.below hbc)
    clear He Hx Hzr Hbb Hbox
    clear HF c0 c1 c2 hW0
    obtain ⟨_, z0, z1, z2⟩ := Hbox_1.out
    go_wp2_with fail
    clear z0 z1 z2
    refine (HLg.out _ Hzr_1.out).mono ?_
    rintro e v1 ⟨rfl, rfl⟩
    dsimp only
    obtain ⟨_, z0, z1, z2⟩ := Hbox_1.out
    go_wp2_with fail
    clear z0 z1 z2
    refine (evAwake_any _).mono ?_
    rintro e y2 ⟨rfl, hbc⟩
    dsimp only
    have He_2 := Lib.hid (SlAt.mono He_1.out (Nat.le_refl _) hbc)
    have Hx_2 := Lib.hid (Hx_1.out.below (Nat.le_refl _) hbc)
    have Hzr_2 := Lib.hid (SlAt.mono Hzr_1.out (Nat.le_refl _) hbc)
    have Hbb_2 := Lib.hid (Hbb_1.out.trans (hbc.mono Hbb_1.out.size))
    have Hbox_2 := Lib.hid (Hbox_1.out.below hbc)
    clear He_1 Hx_1 Hzr_1 Hbb_1 Hbox_1
    go_wp2
    go_ret
    exact ⟨rfl, Hbb_2.out⟩
  unfold longB at hlg
  rw [Bool.or_eq_false_iff] at hlg
  have hz16 : ∀ k, k < nz → (Z k).mag.size ≤ 1000 := fun k hk => by have := anyN_false.1 hlg.1 k hk; rw [decide_eq_false_iff_not] at this; omega
  have hnz10 : nz ≤ 1000 := by have := hlg.2; rw [decide_eq_false_iff_not] at this; omega
  clear hlg
  obtain ⟨N, rfl⟩ : ∃ N : Nat, S = N := ⟨S.toNat, by omega⟩
  obtain ⟨m, rfl⟩ : ∃ m : Nat, mi = m := ⟨mi.toNat, by omega⟩
  have h0 : 0 < N := by omega
  have HRf := Lib.hid (fun W (hW : EdgAt W p n E) => Refute_ok LL N n m E p c hg h0 (by omega) (by omega) (by omega) W hW)
  have HVe := Lib.hid (fun W (hW : ByteAt W px xs) => vector_any LL N n p c xs px cx (by omega) Hxb.out W hW)
  have hvc : vChk LL N n E m N (vecB xs) = 0 := vChk_ok hg (by omega) (by omega) rfl (fun k _ => by have := vecB_le xs k; omega)
  have HGr := Lib.hid (fun W q cq (hW : EdgAt W p n E) (hq : VRow W q N (vecB xs)) => Greatest_ok LL N n m E p c (vecB xs) q cq hvc W hW hq)
  have HZe := Lib.hid (fun W q cq u (hq : VRow W q N u) => lawZero_any N q cq u (by omega) W hq)
  have hbn : ∀ k, k < N → (canon (rfX N n m E k)).mag.size ≤ 1000 := fun k hk => (rfX_bn h0 (by omega) (by omega) (by omega) k hk).size _ (by omega)
  have HCo := Lib.hid (fun W q cq (hW : EdgAt W p n E) (hq : RowF W q N (rfX N n m E)) => CheckRefute_any LL N n E p c m N (fun k => canon (rfX N n m E k)) q cq (by omega) hbn W hW hq)
  have HCx := Lib.hid (fun W (hW : EdgAt W p n E) (hq : GRow W pz nz Z) => CheckRefute_any LL N n E p c m nz Z pz cz hnz10 hz16 W hW hq)
  have Hg := Lib.hid hg
  have hok : EdOk N n E := by have := gChk_ok hg; simpa using this
  have Hok := Lib.hid hok
  have nN : ((N : Int) != (N : Int)) = false := by simp
  clear hg hok hbn hvc hz16
  go_enter Try.func8, Try.ntmps8
  go_wp2_with fail
  try rw [hW0]
  refine (HF.out).mono ?_
  rintro e y1 ⟨rfl, hbc⟩
  dsimp only
  have He_1 := Lib.hid (SlAt.mono He.out (Nat.le_refl _) hbc)
  have Hx_1 := Lib.hid (Hx.out.below (Nat.le_refl _) hbc)
  have Hzr_1 := Lib.hid (SlAt.mono Hzr.out (Nat.le_refl _) hbc)
  have Hbb_1 := Lib.hid (Hbb.out.trans (hbc.mono Hbb.out.size))
  have Hbox_1 := Lib.hid (Hbox.out.below hbc)
  clear He Hx Hzr Hbb Hbox
  clear HF c0 c1 c2 hW0
  obtain ⟨_, z0, z1, z2⟩ := Hbox_1.out
  go_wp2_with fail
  clear z0 z1 z2
  refine (HLg.out _ Hzr_1.out).mono ?_
  rintro e v1 ⟨rfl, rfl⟩
  dsimp only
  clear HLg
  obtain ⟨g0, hg0⟩ : ∃ g, w.heap.size = g := ⟨_, rfl⟩
  rw [hg0] at Hbox_1
  try rw [hg0]
  have Hg0 := Lib.hid hg0
  clear hg0
  obtain ⟨_, z0, z1, z2⟩ := Hbox_1.out
  go_wp2_with fail
  clear z0 z1 z2
  refine (HRf.out _ He_1.out).mono ?_
  rintro e X ⟨hbc, hr⟩
  have He_2 := Lib.hid (SlAt.mono He_1.out (Nat.le_refl _) hbc)
  have Hx_2 := Lib.hid (Hx_1.out.below (Nat.le_refl _) hbc)
  have Hzr_2 := Lib.hid (SlAt.mono Hzr_1.out (Nat.le_refl _) hbc)
  have Hbb_2 := Lib.hid (Hbb_1.out.trans (hbc.mono Hbb_1.out.size))
  have Hbox_2 := Lib.hid (Hbox_1.out.below hbc)
  clear He_1 Hx_1 Hzr_1 Hbb_1 Hbox_1
  clear HRf hbc
  obtain ⟨rb, hrb⟩ : ∃ b, rfsB (frE E) (toE E) n N m (rfX N n m E) = b := ⟨_, rfl⟩
  have HRB := Lib.hid hrb
  rw [hrb] at hr
  clear hrb
  rcases hr with ⟨hR, hr⟩ | ⟨hR, rfl⟩
  rotate_left 1
  · have HRB : Hid (rfsB (frE E) (toE E) n N m (rfX N n m E) = false) := Lib.hid (by rw [HRB.out]; exact hR)
    clear hR
    dsimp only
    go_upto_region 4 with (fail)
    obtain ⟨SS, hSe⟩ : ∃ SS : World → Prop, SS = fun W => W.cell? ⟨g0, 0, none⟩ = some (.int .i64 LL) ∧ W.cell? ⟨g0, 1, none⟩ = some (.int .i64 (N : Int)) ∧ W.cell? ⟨g0, 2, none⟩ = some (.slice p n c) := ⟨_, rfl⟩
    have HS : Hid (∀ W, Below X.heap.size X W → SS W) := Lib.hid (fun W hW => by
      obtain ⟨_, b0, b1, b2⟩ := Hbox_2.out.below hW
      rw [hSe]; exact ⟨b0, b1, b2⟩)
    have hd : Below X.heap.size X X.drew := (Below.refl _ _).drew
    refine wp_region_held_drew (S := SS) (by kernel_rfl) (HS.out _ hd) (fun hSS => ?_)
    refine wpAnyH_take (i := 0) (v := ?_) rfl (by kernel_rfl) (by kernel_rfl) (by kernel_rfl) (fun _ _ _ h => h) (Or.inl ⟨by rfl, ?_⟩) (HS.out _ hd) ?_
    rotate_left 1
    next => intro w hSw; rw [hSe] at hSw; obtain ⟨s1, s2, s3⟩ := hSw; go_simp; try with_reducible rfl
    try simp only [Act.put, List.getElem_toArray, List.getElem_cons_zero, List.getElem_cons_succ, List.setIfInBounds_toArray, List.set_cons_zero, List.set_cons_succ]
    refine wpAnyH_take (i := 1) (v := ?_) rfl (by kernel_rfl) (by kernel_rfl) (by kernel_rfl) (fun _ _ _ h => h) (Or.inl ⟨by rfl, ?_⟩) (HS.out _ hd) ?_
    rotate_left 1
    next => intro w hSw; rw [hSe] at hSw; obtain ⟨s1, s2, s3⟩ := hSw; go_simp; try with_reducible rfl
    try simp only [Act.put, List.getElem_toArray, List.getElem_cons_zero, List.getElem_cons_succ, List.setIfInBounds_toArray, List.set_cons_zero, List.set_cons_succ]
    refine wpAnyH_take (i := 2) (v := ?_) rfl (by kernel_rfl) (by kernel_rfl) (by kernel_rfl) (fun _ _ _ h => h) (Or.inl ⟨by rfl, ?_⟩) (HS.out _ hd) ?_
    rotate_left 1
    next => intro w hSw; rw [hSe] at hSw; obtain ⟨s1, s2, s3⟩ := hSw; go_simp; try with_reducible rfl
    try simp only [Act.put, List.getElem_toArray, List.getElem_cons_zero, List.getElem_cons_succ, List.setIfInBounds_toArray, List.set_cons_zero, List.set_cons_succ]
    refine wpAnyH_take (i := 4) (v := ?_) rfl (by kernel_rfl) (by kernel_rfl) (by kernel_rfl) (fun _ _ _ h => h) (Or.inl ⟨by rfl, ?_⟩) (HS.out _ hd) ?_
    rotate_left 1
    next => intro w hSw; rw [hSe] at hSw; obtain ⟨s1, s2, s3⟩ := hSw; go_simp; try with_reducible rfl
    try simp only [Act.put, List.getElem_toArray, List.getElem_cons_zero, List.getElem_cons_succ, List.setIfInBounds_toArray, List.set_cons_zero, List.set_cons_succ]
    try simp only [Act.put, List.getElem_toArray, List.getElem_cons_zero, List.getElem_cons_succ, List.setIfInBounds_toArray, List.set_cons_zero, List.set_cons_succ]
    refine wpAnyH_ready (rs := [3]) (by kernel_rfl) (by simp) ?_
    refine AllReadyH.cons rfl (fun K hK => ?_) AllReadyH.nil
    go_simp
    refine (HVe.out _ (Hx_2.out.below (Nat.le_refl _) hd)).mono ?_
    rintro e w1 ⟨g1, rfl, hz1, _, hbc⟩
    have hb1 : Below X.heap.size X w1 := hd.trans (hbc.mono hd.size)
    dsimp only
    refine hK.out _ _ (HS.out _ hb1) (fun _ => ?_)
    clear hK K hbc
    try simp only [Act.put, List.getElem_toArray, List.getElem_cons_zero, List.getElem_cons_succ, List.setIfInBounds_toArray, List.set_cons_zero, List.set_cons_succ]
    refine wpAnyH_ready (rs := [5]) (by kernel_rfl) (by simp) ?_
    refine AllReadyH.cons rfl (fun K hK => ?_) AllReadyH.nil
    go_simp
    refine (HGr.out _ _ N (SlAt.mono He_2.out (Nat.le_refl _) hb1) hz1.row).mono ?_
    rintro e w2 ⟨u, q, cq, hu, rfl, hq, hbc⟩
    have hb2 : Below X.heap.size X w2 := hb1.trans (hbc.mono hb1.size)
    dsimp only
    refine hK.out _ _ (HS.out _ hb2) (fun _ => ?_)
    clear hK K hbc
    refine wpAnyH_take (i := 6) (v := ?_) rfl (by kernel_rfl) (by kernel_rfl) (by kernel_rfl) (fun _ _ _ h => h) (Or.inl ⟨by rfl, ?_⟩) (HS.out _ hb2) ?_
    rotate_left 1
    next => intro w hSw; rw [hSe] at hSw; obtain ⟨s1, s2, s3⟩ := hSw; go_simp; try with_reducible rfl
    try simp only [Act.put, List.getElem_toArray, List.getElem_cons_zero, List.getElem_cons_succ, List.setIfInBounds_toArray, List.set_cons_zero, List.set_cons_succ]
    refine wpAnyH_take (i := 7) (v := ?_) rfl (by kernel_rfl) (by kernel_rfl) (by kernel_rfl) (fun _ _ _ h => h) (Or.inl ⟨by rfl, ?_⟩) (HS.out _ hb2) ?_
    rotate_left 1
    next => intro w hSw; rw [hSe] at hSw; obtain ⟨s1, s2, s3⟩ := hSw; go_simp; try with_reducible rfl
    try simp only [Act.put, List.getElem_toArray, List.getElem_cons_zero, List.getElem_cons_succ, List.setIfInBounds_toArray, List.set_cons_zero, List.set_cons_succ]
    refine wpAnyH_take (i := 8) (v := ?_) rfl (by kernel_rfl) (by kernel_rfl) (by kernel_rfl) (fun _ _ _ h => h) (Or.inl ⟨by rfl, ?_⟩) (HS.out _ hb2) ?_
    rotate_left 1
    next => intro w hSw; rw [hSe] at hSw; obtain ⟨s1, s2, s3⟩ := hSw; go_simp; try with_reducible rfl
    try simp only [Act.put, List.getElem_toArray, List.getElem_cons_zero, List.getElem_cons_succ, List.setIfInBounds_toArray, List.set_cons_zero, List.set_cons_succ]
    refine wpAnyH_take (i := 9) (v := ?_) rfl (by kernel_rfl) (by kernel_rfl) (by kernel_rfl) (fun _ _ _ h => h) (Or.inl ⟨by rfl, ?_⟩) (HS.out _ hb2) ?_
    rotate_left 1
    next => intro w hSw; rw [hSe] at hSw; obtain ⟨s1, s2, s3⟩ := hSw; go_simp; try with_reducible rfl
    try simp only [Act.put, List.getElem_toArray, List.getElem_cons_zero, List.getElem_cons_succ, List.setIfInBounds_toArray, List.set_cons_zero, List.set_cons_succ]
    refine wpAnyH_take (i := 10) (v := ?_) rfl (by kernel_rfl) (by kernel_rfl) (by kernel_rfl) (fun _ _ _ h => h) (Or.inl ⟨by rfl, ?_⟩) (HS.out _ hb2) ?_
    rotate_left 1
    next => intro w hSw; rw [hSe] at hSw; obtain ⟨s1, s2, s3⟩ := hSw; go_simp; try with_reducible rfl
    try simp only [Act.put, List.getElem_toArray, List.getElem_cons_zero, List.getElem_cons_succ, List.setIfInBounds_toArray, List.set_cons_zero, List.set_cons_succ]
    refine wpAnyH_done (by kernel_rfl) ?_ _
    have hbc := hb2
    have Hu := Lib.hid hu
    have Hq := Lib.hid hq.row
    have He_3 := Lib.hid (SlAt.mono He_2.out (Nat.le_refl _) hbc)
    have Hx_3 := Lib.hid (Hx_2.out.below (Nat.le_refl _) hbc)
    have Hzr_3 := Lib.hid (SlAt.mono Hzr_2.out (Nat.le_refl _) hbc)
    have Hbb_3 := Lib.hid (Hbb_2.out.trans (hbc.mono Hbb_2.out.size))
    have Hbox_3 := Lib.hid (Hbox_2.out.below hbc)
    clear He_2 Hx_2 Hzr_2 Hbb_2 Hbox_2
    clear hbc hu hq hz1 HS hSe hSS hd hb2 HVe HGr
    have hcn := crV_none Hg.out HRB.out Z (nz := nz)
    obtain ⟨cr, hcr⟩ : ∃ z, crV LL N n E m nz Z = z := ⟨_, rfl⟩
    rw [hcr] at HCx hcn
    have hcb : (cr != 0) = true := by rw [bne_iff_ne]; exact hcn
    clear hcr hcn
    obtain ⟨_, z0, z1, z2⟩ := Hbox_3.out
    go_wp2_with fail
    clear z0 z1 z2
    refine (HCx.out _ He_3.out Hzr_3.out).mono ?_
    rintro e y4 ⟨rfl, hbc⟩
    dsimp only
    have He_4 := Lib.hid (SlAt.mono He_3.out (Nat.le_refl _) hbc)
    have Hx_4 := Lib.hid (Hx_3.out.below (Nat.le_refl _) hbc)
    have Hzr_4 := Lib.hid (SlAt.mono Hzr_3.out (Nat.le_refl _) hbc)
    have Hbb_4 := Lib.hid (Hbb_3.out.trans (hbc.mono Hbb_3.out.size))
    have Hbox_4 := Lib.hid (Hbox_3.out.below hbc)
    have Hq_4 := Lib.hid (Hq.out.below (Nat.le_refl _) hbc)
    clear He_3 Hx_3 Hzr_3 Hbb_3 Hbox_3 Hq
    obtain ⟨_, z0, z1, z2⟩ := Hbox_4.out
    go_wp2_with fail
    clear z0 z1 z2
    refine (evAwake_any _).mono ?_
    rintro e y5 ⟨rfl, hbc⟩
    dsimp only
    have He_5 := Lib.hid (SlAt.mono He_4.out (Nat.le_refl _) hbc)
    have Hx_5 := Lib.hid (Hx_4.out.below (Nat.le_refl _) hbc)
    have Hzr_5 := Lib.hid (SlAt.mono Hzr_4.out (Nat.le_refl _) hbc)
    have Hbb_5 := Lib.hid (Hbb_4.out.trans (hbc.mono Hbb_4.out.size))
    have Hbox_5 := Lib.hid (Hbox_4.out.below hbc)
    have Hq_5 := Lib.hid (Hq_4.out.below (Nat.le_refl _) hbc)
    clear He_4 Hx_4 Hzr_4 Hbb_4 Hbox_4 Hq_4
    go_wp2
    go_ret
    exact ⟨rfl, Hbb_5.out⟩
  · have HRB : Hid (rfsB (frE E) (toE E) n N m (rfX N n m E) = true) := Lib.hid (by rw [HRB.out]; exact hR)
    clear hR
    obtain ⟨gR, rfl, hrow⟩ := hr
    dsimp only
    have Hrow := Lib.hid hrow
    clear hrow
    go_upto_region 4 with (fail)
    obtain ⟨SS, hSe⟩ : ∃ SS : World → Prop, SS = fun W => W.cell? ⟨g0, 0, none⟩ = some (.int .i64 LL) ∧ W.cell? ⟨g0, 1, none⟩ = some (.int .i64 (N : Int)) ∧ W.cell? ⟨g0, 2, none⟩ = some (.slice p n c) := ⟨_, rfl⟩
    have HS : Hid (∀ W, Below X.heap.size X W → SS W) := Lib.hid (fun W hW => by
      obtain ⟨_, b0, b1, b2⟩ := Hbox_2.out.below hW
      rw [hSe]; exact ⟨b0, b1, b2⟩)
    have hd : Below X.heap.size X X.drew := (Below.refl _ _).drew
    refine wp_region_held_drew (S := SS) (by kernel_rfl) (HS.out _ hd) (fun hSS => ?_)
    refine wpAnyH_take (i := 0) (v := ?_) rfl (by kernel_rfl) (by kernel_rfl) (by kernel_rfl) (fun _ _ _ h => h) (Or.inl ⟨by rfl, ?_⟩) (HS.out _ hd) ?_
    rotate_left 1
    next => intro w hSw; rw [hSe] at hSw; obtain ⟨s1, s2, s3⟩ := hSw; go_simp; try with_reducible rfl
    try simp only [Act.put, List.getElem_toArray, List.getElem_cons_zero, List.getElem_cons_succ, List.setIfInBounds_toArray, List.set_cons_zero, List.set_cons_succ]
    refine wpAnyH_take (i := 1) (v := ?_) rfl (by kernel_rfl) (by kernel_rfl) (by kernel_rfl) (fun _ _ _ h => h) (Or.inl ⟨by rfl, ?_⟩) (HS.out _ hd) ?_
    rotate_left 1
    next => intro w hSw; rw [hSe] at hSw; obtain ⟨s1, s2, s3⟩ := hSw; go_simp; try with_reducible rfl
    try simp only [Act.put, List.getElem_toArray, List.getElem_cons_zero, List.getElem_cons_succ, List.setIfInBounds_toArray, List.set_cons_zero, List.set_cons_succ]
    refine wpAnyH_take (i := 2) (v := ?_) rfl (by kernel_rfl) (by kernel_rfl) (by kernel_rfl) (fun _ _ _ h => h) (Or.inl ⟨by rfl, ?_⟩) (HS.out _ hd) ?_
    rotate_left 1
    next => intro w hSw; rw [hSe] at hSw; obtain ⟨s1, s2, s3⟩ := hSw; go_simp; try with_reducible rfl
    try simp only [Act.put, List.getElem_toArray, List.getElem_cons_zero, List.getElem_cons_succ, List.setIfInBounds_toArray, List.set_cons_zero, List.set_cons_succ]
    refine wpAnyH_take (i := 4) (v := ?_) rfl (by kernel_rfl) (by kernel_rfl) (by kernel_rfl) (fun _ _ _ h => h) (Or.inl ⟨by rfl, ?_⟩) (HS.out _ hd) ?_
    rotate_left 1
    next => intro w hSw; rw [hSe] at hSw; obtain ⟨s1, s2, s3⟩ := hSw; go_simp; try with_reducible rfl
    try simp only [Act.put, List.getElem_toArray, List.getElem_cons_zero, List.getElem_cons_succ, List.setIfInBounds_toArray, List.set_cons_zero, List.set_cons_succ]
    try simp only [Act.put, List.getElem_toArray, List.getElem_cons_zero, List.getElem_cons_succ, List.setIfInBounds_toArray, List.set_cons_zero, List.set_cons_succ]
    refine wpAnyH_ready (rs := [3]) (by kernel_rfl) (by simp) ?_
    refine AllReadyH.cons rfl (fun K hK => ?_) AllReadyH.nil
    go_simp
    refine (HVe.out _ (Hx_2.out.below (Nat.le_refl _) hd)).mono ?_
    rintro e w3 ⟨g1, rfl, hz1, _, hbc⟩
    have hb3 : Below X.heap.size X w3 := hd.trans (hbc.mono hd.size)
    dsimp only
    refine hK.out _ _ (HS.out _ hb3) (fun _ => ?_)
    clear hK K hbc
    try simp only [Act.put, List.getElem_toArray, List.getElem_cons_zero, List.getElem_cons_succ, List.setIfInBounds_toArray, List.set_cons_zero, List.set_cons_succ]
    refine wpAnyH_ready (rs := [5]) (by kernel_rfl) (by simp) ?_
    refine AllReadyH.cons rfl (fun K hK => ?_) AllReadyH.nil
    go_simp
    refine (HGr.out _ _ N (SlAt.mono He_2.out (Nat.le_refl _) hb3) hz1.row).mono ?_
    rintro e w4 ⟨u, q, cq, hu, rfl, hq, hbc⟩
    have hb4 : Below X.heap.size X w4 := hb3.trans (hbc.mono hb3.size)
    dsimp only
    refine hK.out _ _ (HS.out _ hb4) (fun _ => ?_)
    clear hK K hbc
    refine wpAnyH_take (i := 6) (v := ?_) rfl (by kernel_rfl) (by kernel_rfl) (by kernel_rfl) (fun _ _ _ h => h) (Or.inl ⟨by rfl, ?_⟩) (HS.out _ hb4) ?_
    rotate_left 1
    next => intro w hSw; rw [hSe] at hSw; obtain ⟨s1, s2, s3⟩ := hSw; go_simp; try with_reducible rfl
    try simp only [Act.put, List.getElem_toArray, List.getElem_cons_zero, List.getElem_cons_succ, List.setIfInBounds_toArray, List.set_cons_zero, List.set_cons_succ]
    refine wpAnyH_take (i := 7) (v := ?_) rfl (by kernel_rfl) (by kernel_rfl) (by kernel_rfl) (fun _ _ _ h => h) (Or.inl ⟨by rfl, ?_⟩) (HS.out _ hb4) ?_
    rotate_left 1
    next => intro w hSw; rw [hSe] at hSw; obtain ⟨s1, s2, s3⟩ := hSw; go_simp; try with_reducible rfl
    try simp only [Act.put, List.getElem_toArray, List.getElem_cons_zero, List.getElem_cons_succ, List.setIfInBounds_toArray, List.set_cons_zero, List.set_cons_succ]
    refine wpAnyH_take (i := 8) (v := ?_) rfl (by kernel_rfl) (by kernel_rfl) (by kernel_rfl) (fun _ _ _ h => h) (Or.inl ⟨by rfl, ?_⟩) (HS.out _ hb4) ?_
    rotate_left 1
    next => intro w hSw; rw [hSe] at hSw; obtain ⟨s1, s2, s3⟩ := hSw; go_simp; try with_reducible rfl
    try simp only [Act.put, List.getElem_toArray, List.getElem_cons_zero, List.getElem_cons_succ, List.setIfInBounds_toArray, List.set_cons_zero, List.set_cons_succ]
    refine wpAnyH_take (i := 9) (v := ?_) rfl (by kernel_rfl) (by kernel_rfl) (by kernel_rfl) (fun _ _ _ h => h) (Or.inl ⟨by rfl, ?_⟩) (HS.out _ hb4) ?_
    rotate_left 1
    next => intro w hSw; rw [hSe] at hSw; obtain ⟨s1, s2, s3⟩ := hSw; go_simp; try with_reducible rfl
    try simp only [Act.put, List.getElem_toArray, List.getElem_cons_zero, List.getElem_cons_succ, List.setIfInBounds_toArray, List.set_cons_zero, List.set_cons_succ]
    refine wpAnyH_take (i := 10) (v := ?_) rfl (by kernel_rfl) (by kernel_rfl) (by kernel_rfl) (fun _ _ _ h => h) (Or.inl ⟨by rfl, ?_⟩) (HS.out _ hb4) ?_
    rotate_left 1
    next => intro w hSw; rw [hSe] at hSw; obtain ⟨s1, s2, s3⟩ := hSw; go_simp; try with_reducible rfl
    try simp only [Act.put, List.getElem_toArray, List.getElem_cons_zero, List.getElem_cons_succ, List.setIfInBounds_toArray, List.set_cons_zero, List.set_cons_succ]
    refine wpAnyH_done (by kernel_rfl) ?_ _
    have hbc := hb4
    have Hu := Lib.hid hu
    have Hq := Lib.hid hq.row
    have He_3 := Lib.hid (SlAt.mono He_2.out (Nat.le_refl _) hbc)
    have Hx_3 := Lib.hid (Hx_2.out.below (Nat.le_refl _) hbc)
    have Hzr_3 := Lib.hid (SlAt.mono Hzr_2.out (Nat.le_refl _) hbc)
    have Hbb_3 := Lib.hid (Hbb_2.out.trans (hbc.mono Hbb_2.out.size))
    have Hbox_3 := Lib.hid (Hbox_2.out.below hbc)
    have Hrow_3 := Lib.hid (Hrow.out.below (Nat.le_refl _) hbc)
    clear He_2 Hx_2 Hzr_2 Hbb_2 Hbox_2 Hrow
    clear hbc hu hq hz1 HS hSe hSS hd hb4 HVe HGr
    have hcn := crV_own Hg.out h0 (by omega) (by omega) HRB.out
    rw [hcn] at HCo
    clear hcn
    obtain ⟨_, z0, z1, z2⟩ := Hbox_3.out
    go_wp2_with fail
    clear z0 z1 z2
    refine (HCo.out _ _ N He_3.out Hrow_3.out).mono ?_
    rintro e y4 ⟨rfl, hbc⟩
    dsimp only
    have He_4 := Lib.hid (SlAt.mono He_3.out (Nat.le_refl _) hbc)
    have Hx_4 := Lib.hid (Hx_3.out.below (Nat.le_refl _) hbc)
    have Hzr_4 := Lib.hid (SlAt.mono Hzr_3.out (Nat.le_refl _) hbc)
    have Hbb_4 := Lib.hid (Hbb_3.out.trans (hbc.mono Hbb_3.out.size))
    have Hbox_4 := Lib.hid (Hbox_3.out.below hbc)
    have Hq_4 := Lib.hid (Hq.out.below (Nat.le_refl _) hbc)
    clear He_3 Hx_3 Hzr_3 Hbb_3 Hbox_3 Hrow_3 Hq
    have HZz := Lib.hid (HZe.out _ q cq u Hq_4.out)
    rw [not_any_zero (refuse_zero (fun e he => (edOk_nat Hok.out e he).2.2.2) (rfsB_true.1 HRB.out) Hu.out.2.1)] at HZz
    obtain ⟨_, z0, z1, z2⟩ := Hbox_4.out
    go_wp2_with fail
    clear z0 z1 z2
    refine (HZz.out).mono ?_
    rintro e y5 ⟨rfl, hbc⟩
    dsimp only
    have He_5 := Lib.hid (SlAt.mono He_4.out (Nat.le_refl _) hbc)
    have Hx_5 := Lib.hid (Hx_4.out.below (Nat.le_refl _) hbc)
    have Hzr_5 := Lib.hid (SlAt.mono Hzr_4.out (Nat.le_refl _) hbc)
    have Hbb_5 := Lib.hid (Hbb_4.out.trans (hbc.mono Hbb_4.out.size))
    have Hbox_5 := Lib.hid (Hbox_4.out.below hbc)
    clear He_4 Hx_4 Hzr_4 Hbb_4 Hbox_4 Hq_4
    obtain ⟨_, z0, z1, z2⟩ := Hbox_5.out
    go_wp2_with fail
    clear z0 z1 z2
    refine (evAwake_any _).mono ?_
    rintro e y6 ⟨rfl, hbc⟩
    dsimp only
    have He_6 := Lib.hid (SlAt.mono He_5.out (Nat.le_refl _) hbc)
    have Hx_6 := Lib.hid (Hx_5.out.below (Nat.le_refl _) hbc)
    have Hzr_6 := Lib.hid (SlAt.mono Hzr_5.out (Nat.le_refl _) hbc)
    have Hbb_6 := Lib.hid (Hbb_5.out.trans (hbc.mono Hbb_5.out.size))
    have Hbox_6 := Lib.hid (Hbox_5.out.below hbc)
    clear He_5 Hx_5 Hzr_5 Hbb_5 Hbox_5
    go_wp2
    go_ret
    exact ⟨rfl, Hbb_6.out⟩
end Go.Proofs.Ytlaoijfphkhchaa
