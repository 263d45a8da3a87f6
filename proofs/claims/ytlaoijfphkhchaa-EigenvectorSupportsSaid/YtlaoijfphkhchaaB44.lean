/- eigenvector: CheckRefute, Support. -/
import Derived.Test.YtlaoijfphkhchaaB37
namespace Go.Proofs.Ytlaoijfphkhchaa
open Go.RowKit Go.Shelf
theorem valZ_bn (z : ZI) : Bn (valZ z) (8 * z.mag.size) := by
  have h1 := lowB_lt z.mag.data.toList (i := z.mag.data.toList.length) (Nat.le_refl _)
  rw [lowB_all, Array.length_toList] at h1
  have h2 : (valZ z).natAbs = absZ z := by
    unfold valZ
    split <;> omega
  unfold Bn
  rw [h2, Nat.pow_mul]
  exact Nat.le_of_lt h1
theorem GRow.row {w : World} {p : Option Addr} {n : Nat} {Z : Nat → ZI} (h : GRow w p n Z) (hc : ∀ k, k < n → okZ (Z k) = true) : RowF w p n (fun k => valZ (Z k)) :=
  SlAt.congr h fun i hi j _ => by
    have := of_decide_eq_true (hc i hi)
    show zg (Z i) j = zc (valZ (Z i)) j
    unfold zg zc
    rw [← this]
set_option maxRecDepth 100000 in
set_option maxHeartbeats 4000000 in
theorem crOdd_any (z : ZI) (hz : z.mag.size ≤ 100000000) (w : World) :
    Calls Try.prog 71 #[.agg #[.bool z.neg, .string z.mag]] w (RetB (!okZ z) w) := by
  go_enter Try.func71, Try.ntmps71
  go_wp2_with fail
  refine (check_any z hz _).mono ?_
  rintro e w2 ⟨rfl, hb⟩
  dsimp only
  have Hb : Hid (Below w.heap.size w w2) := Lib.hid (((Below.refl w.heap.size w).alloc (Nat.le_refl _) _).trans (hb.mono (by simp)))
  clear hb
  by_cases h : z = canon (valZ z)
  · have hc : chkZ z = 0 := if_pos h
    have ho : okZ z = true := decide_eq_true h
    have Ho := Lib.hid ho
    rw [hc]
    clear h hc ho
    go_wp2
    go_ret
    exact ⟨by rw [Ho.out]; rfl, Hb.out⟩
  · have hc : chkZ z = 1 := if_neg h
    have ho : okZ z = false := decide_eq_false h
    have Ho := Lib.hid ho
    rw [hc]
    clear h hc ho
    go_wp2
    go_ret
    exact ⟨by rw [Ho.out]; rfl, Hb.out⟩


/-- What CheckRefute says. -/
def crV (L S : Int) (n : Nat) (E : Nat → Nat → Int) (m : Int) (nz : Nat) (Z : Nat → ZI) : Int :=
  if gChk L S n E ≠ 0 then 1 else if anyN (fun k => !okZ (Z k)) nz = true then 1 else if m < 1 ∨ 256 < m then 2 else if (nz : Int) ≠ S then 11 else if S = 0 then 5 else if rfsB (frE E) (toE E) n nz m.toNat (fun k => valZ (Z k)) = true then 0 else 23
set_option maxRecDepth 100000 in
set_option maxHeartbeats 8000000 in
theorem CheckRefute_any (L S : Int) (n : Nat) (E : Nat → Nat → Int) (p : Option Addr) (c : Nat) (m : Int) (nz : Nat) (Z : Nat → ZI) (pz : Option Addr) (cz : Nat) (hnz : nz ≤ 1000) (hz : ∀ k, k < nz → (Z k).mag.size ≤ 1000) (w : World) (hE : EdgAt w p n E) (hZ : GRow w pz nz Z) :
    Calls Try.prog 34 #[.agg #[.int .i64 L, .int .i64 S, .slice p n c], .int .i64 m, .slice pz nz cz] w (RetInt (crV L S n E m nz Z) w) := by
  obtain ⟨W0, hW0⟩ : ∃ W, w.alloc (.cells #[.int .i64 L, .int .i64 S, .slice p n c] 24) = W := ⟨_, rfl⟩
  have hb0 : Below w.heap.size w W0 := by rw [← hW0]; exact (Below.refl _ _).alloc (Nat.le_refl _) _
  have hbx : BoxAt3 W0 w.heap.size (.int .i64 L) (.int .i64 S) (.slice p n c) := by rw [← hW0]; exact BoxAt3.new w _ _ _ _
  have hE0 : EdgAt W0 p n E := hE.mono (Nat.le_refl _) hb0
  have hZ0 : GRow W0 pz nz Z := SlAt.mono hZ (Nat.le_refl _) hb0
  have HG := Lib.hid (gcheck_any L S n E p c W0 hE0)
  have HB : Hid (∀ W, Below W0.heap.size W0 W → BoxAt3 W w.heap.size (.int .i64 L) (.int .i64 S) (.slice p n c) ∧ Below w.heap.size w W) := Lib.hid (fun W hW => ⟨hbx.below hW, hb0.trans (hW.mono hb0.size)⟩)
  have HC := Lib.hid (fun W (hW : Below W0.heap.size W0 W) => containsFn_z nz pz cz Z 71 #[] (fun k => !okZ (Z k)) W (enters_of Try.func71 (by kernel_rfl) rfl) (by omega) (SlAt.mono hZ0 (Nat.le_refl _) hW) (fun k W hk _ => crOdd_any (Z k) (by have := hz k hk; omega) W))
  obtain ⟨_, c0, c1, c2⟩ := hbx
  obtain ⟨r, hr⟩ : ∃ r, crV L S n E m nz Z = r := ⟨_, rfl⟩
  rw [hr]
  have HR := Lib.hid hr
  unfold crV at HR
  obtain ⟨b, hbz⟩ : ∃ b, anyN (fun k => !okZ (Z k)) nz = b := ⟨_, rfl⟩
  rw [hbz] at HC HR
  obtain ⟨gc, hgc⟩ : ∃ b, gChk L S n E = b := ⟨_, rfl⟩
  rw [hgc] at HG HR
  have Hgc := Lib.hid hgc
  have Hbz := Lib.hid hbz
  have HE := Lib.hid hE0
  have HZ := Lib.hid hZ0
  have Hz := Lib.hid hz
  clear hbz hgc hr hE hZ hE0 hZ0 hb0 hz
  by_cases h1 : gc = 0
  rotate_left 1
  · have e1 : (gc != 0) = true := by rw [bne_iff_ne]; exact h1
    have hr : (1 : Int) = r := by rw [← HR.out, if_pos h1]
    clear HR h1
    have HR := Lib.hid hr
    clear hr
    go_enter Try.func34, Try.ntmps34
    go_wp2_with fail
    try rw [hW0]
    refine HG.out.mono ?_
    rintro e W1 ⟨rfl, hb⟩
    dsimp only
    obtain ⟨⟨_, z0, z1, z2⟩, hb1⟩ := HB.out _ hb
    have Hb1 := Lib.hid hb1
    clear hb1 HG c0 c1 c2 hW0
    clear hb HB
    go_wp2
    go_ret
    exact ⟨by rw [← HR.out]; rfl, Hb1.out⟩
  have e1 : (gc != 0) = false := by rw [h1]; rfl
  cases b
  rotate_left 1
  · have hr : (1 : Int) = r := by rw [← HR.out, if_neg (show ¬ (gc ≠ 0) from fun h => h h1), if_pos rfl]
    clear HR h1
    have HR := Lib.hid hr
    clear hr
    go_enter Try.func34, Try.ntmps34
    go_wp2_with fail
    try rw [hW0]
    refine HG.out.mono ?_
    rintro e W1 ⟨rfl, hb⟩
    dsimp only
    obtain ⟨⟨_, z0, z1, z2⟩, hb1⟩ := HB.out _ hb
    have Hb1 := Lib.hid hb1
    clear hb1 HG c0 c1 c2 hW0
    go_wp2_with fail
    refine (HC.out _ hb).mono ?_
    rintro e W2 ⟨rfl, hb2⟩
    dsimp only
    have hb3 := hb.trans (hb2.mono hb.size)
    obtain ⟨⟨_, z0, z1, z2⟩, hb1⟩ := HB.out _ hb3
    have Hb2 := Lib.hid hb1
    clear hb1 hb hb2 Hb1 HC
    go_wp2
    go_ret
    exact ⟨by rw [← HR.out]; rfl, Hb2.out⟩
  by_cases h2 : m < 1 ∨ 256 < m
  · have hr : (2 : Int) = r := by rw [← HR.out, if_neg (show ¬ (gc ≠ 0) from fun h => h h1), if_neg (show ¬ (false = true) from Bool.false_ne_true), if_pos h2]
    clear HR h1
    have HR := Lib.hid hr
    clear hr
    rcases h2 with h2 | h2
    · (
      go_enter Try.func34, Try.ntmps34
      go_wp2_with fail
      try rw [hW0]
      refine HG.out.mono ?_
      rintro e W1 ⟨rfl, hb⟩
      dsimp only
      obtain ⟨⟨_, z0, z1, z2⟩, hb1⟩ := HB.out _ hb
      have Hb1 := Lib.hid hb1
      clear hb1 HG c0 c1 c2 hW0
      go_wp2_with fail
      refine (HC.out _ hb).mono ?_
      rintro e W2 ⟨rfl, hb2⟩
      dsimp only
      have hb3 := hb.trans (hb2.mono hb.size)
      obtain ⟨⟨_, z0, z1, z2⟩, hb1⟩ := HB.out _ hb3
      have Hb2 := Lib.hid hb1
      clear hb1 hb hb2 Hb1 HC
      go_wp2
      all_goals (go_ret; exact ⟨by rw [← HR.out]; rfl, Hb2.out⟩))
    · have h3 : ¬ m < 1 := by omega
      go_enter Try.func34, Try.ntmps34
      go_wp2_with fail
      try rw [hW0]
      refine HG.out.mono ?_
      rintro e W1 ⟨rfl, hb⟩
      dsimp only
      obtain ⟨⟨_, z0, z1, z2⟩, hb1⟩ := HB.out _ hb
      have Hb1 := Lib.hid hb1
      clear hb1 HG c0 c1 c2 hW0
      go_wp2_with fail
      refine (HC.out _ hb).mono ?_
      rintro e W2 ⟨rfl, hb2⟩
      dsimp only
      have hb3 := hb.trans (hb2.mono hb.size)
      obtain ⟨⟨_, z0, z1, z2⟩, hb1⟩ := HB.out _ hb3
      have Hb2 := Lib.hid hb1
      clear hb1 hb hb2 Hb1 HC
      go_wp2
      all_goals (go_ret; exact ⟨by rw [← HR.out]; rfl, Hb2.out⟩)
  have h3 : ¬ m < 1 := by omega
  have h4 : ¬ 256 < m := by omega
  by_cases h5 : (nz : Int) = S
  rotate_left 1
  · have e2 : ((nz : Int) != S) = true := by rw [bne_iff_ne]; exact h5
    have hr : (11 : Int) = r := by rw [← HR.out, if_neg (show ¬ (gc ≠ 0) from fun h => h h1), if_neg (show ¬ (false = true) from Bool.false_ne_true), if_neg h2, if_pos h5]
    clear HR h1 h2 h5
    have HR := Lib.hid hr
    clear hr
    go_enter Try.func34, Try.ntmps34
    go_wp2_with fail
    try rw [hW0]
    refine HG.out.mono ?_
    rintro e W1 ⟨rfl, hb⟩
    dsimp only
    obtain ⟨⟨_, z0, z1, z2⟩, hb1⟩ := HB.out _ hb
    have Hb1 := Lib.hid hb1
    clear hb1 HG c0 c1 c2 hW0
    go_wp2_with fail
    refine (HC.out _ hb).mono ?_
    rintro e W2 ⟨rfl, hb2⟩
    dsimp only
    have hb3 := hb.trans (hb2.mono hb.size)
    obtain ⟨⟨_, z0, z1, z2⟩, hb1⟩ := HB.out _ hb3
    have Hb2 := Lib.hid hb1
    clear hb1 hb hb2 Hb1 HC
    go_wp2
    go_ret
    exact ⟨by rw [← HR.out]; rfl, Hb2.out⟩
  have e2 : ((nz : Int) != S) = false := by rw [bne_eq_false_iff_eq]; exact h5
  by_cases h6 : S = 0
  · have e3 : (S == 0) = true := by rw [h6]; rfl
    have hr : (5 : Int) = r := by rw [← HR.out, if_neg (show ¬ (gc ≠ 0) from fun h => h h1), if_neg (show ¬ (false = true) from Bool.false_ne_true), if_neg h2, if_neg (show ¬ ((nz : Int) ≠ S) from fun h => h h5), if_pos h6]
    clear HR h1 h2 h5 h6
    have HR := Lib.hid hr
    clear hr
    go_enter Try.func34, Try.ntmps34
    go_wp2_with fail
    try rw [hW0]
    refine HG.out.mono ?_
    rintro e W1 ⟨rfl, hb⟩
    dsimp only
    obtain ⟨⟨_, z0, z1, z2⟩, hb1⟩ := HB.out _ hb
    have Hb1 := Lib.hid hb1
    clear hb1 HG c0 c1 c2 hW0
    go_wp2_with fail
    refine (HC.out _ hb).mono ?_
    rintro e W2 ⟨rfl, hb2⟩
    dsimp only
    have hb3 := hb.trans (hb2.mono hb.size)
    obtain ⟨⟨_, z0, z1, z2⟩, hb1⟩ := HB.out _ hb3
    have Hb2 := Lib.hid hb1
    clear hb1 hb hb2 Hb1 HC
    go_wp2
    go_ret
    exact ⟨by rw [← HR.out]; rfl, Hb2.out⟩
  have e3 : (S == 0) = false := by rw [beq_eq_false_iff_ne]; exact h6
  have hg0 : gChk L S n E = 0 := by rw [Hgc.out]; exact h1
  obtain ⟨_, _, _, hS, hn, _⟩ := gChk_zero hg0
  have hok : EdOk nz n E := by have := gChk_ok hg0; rwa [← h5, Int.toNat_natCast] at this
  have hr : (if rfsB (frE E) (toE E) n nz m.toNat (fun k => valZ (Z k)) = true then (0 : Int) else 23) = r := by rw [← HR.out, if_neg (show ¬ (gc ≠ 0) from fun h => h h1), if_neg (show ¬ (false = true) from Bool.false_ne_true), if_neg h2, if_neg (show ¬ ((nz : Int) ≠ S) from fun h => h h5), if_neg h6]
  have hrow : RowF W0 pz nz (fun k => valZ (Z k)) := GRow.row HZ.out fun k hk => by have := anyN_false.1 Hbz.out k hk; simpa using this
  have hbn : ∀ k, k < nz → Bn (valZ (Z k)) 8000 := fun k hk => (valZ_bn (Z k)).up (by have := Hz.out k hk; omega)
  have HRf := Lib.hid (show ∀ W, Below W0.heap.size W0 W → Calls Try.prog 69 #[.agg #[.int .i64 L, .int .i64 S, .slice p n c], .int .i64 m, .slice pz nz cz] W (RetB (rfsB (frE E) (toE E) n nz m.toNat (fun k => valZ (Z k))) W) from fun W hW => by
    have h := refusal_any L nz n m.toNat E p c (fun k => valZ (Z k)) pz cz (by omega) (by omega) (by omega) hok (by omega) hbn W (HE.out.mono (Nat.le_refl _) hW) (hrow.below (Nat.le_refl _) hW)
    rw [h5, show ((m.toNat : Nat) : Int) = m from by omega] at h
    exact h)
  obtain ⟨rb, hrb⟩ : ∃ b, rfsB (frE E) (toE E) n nz m.toNat (fun k => valZ (Z k)) = b := ⟨_, rfl⟩
  rw [hrb] at HRf hr
  clear HR h1 h2 h5 h6 hg0 hok hrow hbn hrb
  have HR := Lib.hid hr
  clear hr
  go_enter Try.func34, Try.ntmps34
  go_wp2_with fail
  try rw [hW0]
  refine HG.out.mono ?_
  rintro e W1 ⟨rfl, hb⟩
  dsimp only
  obtain ⟨⟨_, z0, z1, z2⟩, hb1⟩ := HB.out _ hb
  have Hb1 := Lib.hid hb1
  clear hb1 HG c0 c1 c2 hW0
  go_wp2_with fail
  refine (HC.out _ hb).mono ?_
  rintro e W2 ⟨rfl, hb2⟩
  dsimp only
  have hb3 := hb.trans (hb2.mono hb.size)
  obtain ⟨⟨_, z0, z1, z2⟩, hb1⟩ := HB.out _ hb3
  have Hb2 := Lib.hid hb1
  clear hb1 hb hb2 Hb1 HC
  go_wp2_with fail
  refine (HRf.out _ hb3).mono ?_
  rintro e W3 ⟨rfl, hb4⟩
  dsimp only
  have Hb4 := Lib.hid (HB.out _ (hb3.trans (hb4.mono hb3.size))).2
  clear hb3 hb4 HRf HB Hb2 z0 z1 z2
  cases rb
  · go_wp2
    go_ret
    exact ⟨by rw [← HR.out]; rfl, Hb4.out⟩
  · go_wp2
    go_ret
    exact ⟨by rw [← HR.out]; rfl, Hb4.out⟩
/-- The places of the positive components. -/
def supL (v : Nat → Int) : Nat → List Int
  | 0 => []
  | s + 1 => supL v s ++ if 0 < v s then [(s : Int)] else []
theorem supL_len (v : Nat → Int) (s : Nat) : (supL v s).length ≤ s := by
  induction s with
  | zero => exact Nat.le_refl _
  | succ s ih => rw [supL, List.length_append]; split <;> simp <;> omega
set_option maxRecDepth 100000 in
set_option maxHeartbeats 4000000 in
theorem Support_any (N : Nat) (v : Nat → Int) (pv : Option Addr) (cv : Nat) (hN : N ≤ 1000000) (w : World) (hV : VRow w pv N v) :
    Calls Try.prog 35 #[.slice pv N cv] w fun e w' => ∃ vv, e = .returned vv ∧ OwnInts w' w.heap.size vv (supL v N) ∧ Below w.heap.size w w' := by
  have HV := Lib.hid hV
  clear hV
  go_enter Try.func35, Try.ntmps35
  go_wp2_with fail
  go_loopw [3, 8] (fun ov iv wr => ∃ i : Nat, i ≤ N ∧ iv = .int .i64 (i : Nat) ∧ Hid (OwnInts wr w.heap.size ov (supL v i)) ∧ Hid (Below w.heap.size w wr)) (fun _ iv _ => N - (intOf iv).toNat)
  case atStart => exact ⟨0, by omega, by go_num, Lib.hid (OwnInts.nil _ _), Lib.hid (Below.refl _ _)⟩
  case round =>
    obtain ⟨i, hi, rfl, Ho, Hb⟩ := hrel
    by_cases hil : i < N
    · have i3 : (i : Int) < (N : Int) := by omega
      have i4 : (0 : Int) ≤ (i : Int) := by omega
      obtain ⟨vb, vo, rfl, hvb, hvc⟩ := VRow.cells HV.out hil
      have y0 := (Hb.out.cell (p := ⟨vb, vo + i, none⟩) hvb).trans (hvc i hil)
      have hsl := supL_len v i
      have hs1 : 0 < v i → supL v (i + 1) = supL v i ++ [(i : Int)] := fun h => by rw [supL, if_pos h]
      have hs2 : ¬ 0 < v i → supL v (i + 1) = supL v i := fun h => by rw [supL, if_neg h, List.append_nil]
      have Hs1 := Lib.hid hs1
      have Hs2 := Lib.hid hs2
      obtain ⟨y, hy⟩ : ∃ y, v i = y := ⟨_, rfl⟩
      rw [hy] at y0 Hs1 Hs2
      clear hvc hs1 hs2 hy
      by_cases h1 : 0 < y
      · have Hn := Lib.hid (Hs1.out h1)
        clear Hs1 Hs2
        have hsz := Hb.out.size
        have Hsl := Lib.hid hsl
        clear hsl
        obtain ⟨L, hL⟩ : ∃ L, supL v i = L := ⟨_, rfl⟩
        rw [hL] at Ho Hn Hsl
        clear hL
        go_wp2_with (at_builtin; refine wpList_append_int rfl _ _ rfl w.heap.size _ _ rfl (Ho.out.alloc _) wr.heap.size 1 (i : Int) rfl ?_ ?_ ?_ ?_)
        · exact cell_new0 _ _ _
        · have := Hsl.out; omega
        · simp; omega
        intro v' w1 hown' hgrow
        have hbn := below_append (Hb.out.alloc hsz (.cells #[.int .i64 (i : Int)] 3)) (Ho.out.alloc _) hgrow (by simp; omega) (Nat.le_refl _)
        have Hown := Lib.hid hown'
        have Hbn := Lib.hid hbn
        clear hown' hgrow hbn
        go_wp2_with fail
        go_roundw
        case rel => exact ⟨i + 1, by omega, by go_num, by rw [Hn.out]; exact Hown, Hbn⟩
        case measure => simp [intOf]; omega
      · have Hn := Lib.hid (Hs2.out h1)
        clear Hs1 Hs2
        go_wp2
        go_roundw
        case rel => exact ⟨i + 1, by omega, by go_num, by rw [Hn.out]; exact Ho, Hb⟩
        case measure => simp [intOf]; omega
    · have i3 : ¬ (i : Int) < (N : Int) := by omega
      have hie : i = N := by omega
      rw [hie] at Ho
      clear hie
      go_wp2
      go_ret
      exact ⟨_, rfl, Ho.out, Hb.out⟩
end Go.Proofs.Ytlaoijfphkhchaa
