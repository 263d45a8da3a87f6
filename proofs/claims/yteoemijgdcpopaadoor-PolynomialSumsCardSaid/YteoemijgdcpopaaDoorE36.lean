/- grooveref01: value, Add, Mul at canonical numbers. -/
import Derived.Test.YteoemijgdcpopaaDoorE35
import Derived.Test.YteoemijgdcpopaaDoorE34
import Derived.Test.YteoemijgdcpopaaDoorE13
namespace Go.Proofs.YteoemijgdcpopaaDoor
open Go.RowKit Go.Shelf

theorem canon_bval (x : Int) : bval (canon x).mag.data.toList = x.natAbs := by
  show bval (beb x.natAbs) = _
  exact bval_beb _
theorem canon_neg (x : Int) : (canon x).neg = decide (x < 0) := rfl
theorem small_lt {x : Int} (h : (canon x).mag.size ≤ 7) : x.natAbs < 72057594037927936 := by
  have h1 := bval_lt (canon x).mag.data.toList
  rw [canon_bval, Array.length_toList] at h1
  exact Nat.lt_of_lt_of_le h1 (Nat.pow_le_pow_right (n := 256) (by decide) h)
set_option maxRecDepth 100000 in
set_option maxHeartbeats 4000000 in
theorem refValue_any (x : Int) (hs : (canon x).mag.size ≤ 7) (w : World) :
    Calls Tryd.prog 93 #[.agg #[.bool (canon x).neg, .string (canon x).mag]] w fun e w' => e = .returned (.int .i64 x) ∧ Below w.heap.size w w' := by
  have HS := Lib.hid (fun W => refSmall_any (canon x).mag hs W)
  rw [canon_bval] at HS
  have hl := small_lt hs
  have hn := canon_neg x
  by_cases h0 : x < 0
  · rw [decide_eq_true h0] at hn
    have HX : Hid (-((x.natAbs : Nat) : Int) = x) := Lib.hid (by omega)
    generalize canon x = Z at *
    obtain ⟨N, M⟩ := Z
    dsimp only at *
    subst hn
    generalize x.natAbs = m at *
    go_enter Tryd.func93, Tryd.ntmps93
    go_wp2_with fail
    refine (HS.out _).mono ?_
    rintro e w2 ⟨rfl, rfl⟩
    dsimp only
    go_wp2
    go_ret
    exact ⟨by rw [← HX.out]; rfl, (Below.refl _ _).alloc (Nat.le_refl _) _⟩
  · rw [decide_eq_false h0] at hn
    have HX : Hid (((x.natAbs : Nat) : Int) = x) := Lib.hid (by omega)
    generalize canon x = Z at *
    obtain ⟨N, M⟩ := Z
    dsimp only at *
    subst hn
    generalize x.natAbs = m at *
    go_enter Tryd.func93, Tryd.ntmps93
    go_wp2_with fail
    refine (HS.out _).mono ?_
    rintro e w2 ⟨rfl, rfl⟩
    dsimp only
    go_wp2
    go_ret
    exact ⟨by rw [← HX.out]; rfl, (Below.refl _ _).alloc (Nat.le_refl _) _⟩
theorem refCanonC_any (x : Int) (hs : (canon x).mag.size ≤ 100000000) (w : World) :
    Calls Tryd.prog 92 #[.agg #[.bool (canon x).neg, .string (canon x).mag]] w (RetZ (canon x) w) := by
  have h := refCanonical_any (canon x) hs w
  rwa [valZ_canon] at h
set_option maxRecDepth 100000 in
set_option maxHeartbeats 8000000 in
theorem refAddC_any (x y : Int) (hx : (canon x).mag.size < 100000000) (hy : (canon y).mag.size < 100000000) (w : World) :
    Calls Tryd.prog 61 #[.agg #[.bool (canon x).neg, .string (canon x).mag], .agg #[.bool (canon y).neg, .string (canon y).mag]] w (RetZ (canon (x + y)) w) := by
  have HCx := Lib.hid (fun W => refCanonC_any x (by omega) W)
  have HCy := Lib.hid (fun W => refCanonC_any y (by omega) W)
  have hbx := BoxAt.new w (.bool (canon x).neg) (.string (canon x).mag) 35
  have hby := BoxAt.new (w.alloc (.cells #[.bool (canon x).neg, .string (canon x).mag] 35)) (.bool (canon y).neg) (.string (canon y).mag) 35
  have hbr := BoxAt.new ((w.alloc (.cells #[.bool (canon x).neg, .string (canon x).mag] 35)).alloc (.cells #[.bool (canon y).neg, .string (canon y).mag] 35)) (.bool false) (.string ⟨#[]⟩) 35
  have hbx := (hbx.alloc (.cells #[.bool (canon y).neg, .string (canon y).mag] 35)).alloc (.cells #[.bool false, .string ⟨#[]⟩] 35)
  have hby := hby.alloc (.cells #[.bool false, .string ⟨#[]⟩] 35)
  rw [World.size_alloc] at hby
  rw [World.size_alloc, World.size_alloc] at hbr
  have hb0 : Below w.heap.size w (((w.alloc (.cells #[.bool (canon x).neg, .string (canon x).mag] 35)).alloc (.cells #[.bool (canon y).neg, .string (canon y).mag] 35)).alloc (.cells #[.bool false, .string ⟨#[]⟩] 35)) := (((Below.refl _ w).alloc (Nat.le_refl _) _).alloc (by simp) _).alloc (by simp; omega) _
  have HVx := Lib.hid (fun (h : (canon x).mag.size ≤ 7) W => refValue_any x h W)
  have HVy := Lib.hid (fun (h : (canon y).mag.size ≤ 7) W => refValue_any y h W)
  have hBx := canon_bval x
  have hBy := canon_bval y
  have hNx := canon_neg x
  have hNy := canon_neg y
  have HAm := Lib.hid (fun W => refAddMag_any (canon x).mag (canon y).mag hx hy W)
  have HSm1 := Lib.hid (fun (h : y.natAbs ≤ x.natAbs) W => refSubMag_any (canon x).mag (canon y).mag (by omega) (by
    show (beb y.natAbs).toArray.size ≤ (beb x.natAbs).toArray.size
    rw [List.size_toArray, List.size_toArray]
    refine Nat.le_of_not_lt fun hh => ?_
    have := beb_short hh
    omega) (by rw [hBx, hBy]; exact h) W)
  have HSm2 := Lib.hid (fun (h : x.natAbs ≤ y.natAbs) W => refSubMag_any (canon y).mag (canon x).mag (by omega) (by
    show (beb x.natAbs).toArray.size ≤ (beb y.natAbs).toArray.size
    rw [List.size_toArray, List.size_toArray]
    refine Nat.le_of_not_lt fun hh => ?_
    have := beb_short hh
    omega) (by rw [hBx, hBy]; exact h) W)
  rw [hBx, hBy] at HAm HSm1
  rw [hBx, hBy] at HSm2
  have HCm : Hid (∀ W, Calls Tryd.prog 95 #[.string (canon x).mag, .string (canon y).mag] W fun e w' => e = .returned (.int .i64 (cmpV x.natAbs y.natAbs)) ∧ W = w') := Lib.hid (fun W => refCmpMag_any x.natAbs y.natAbs W)
  have HOf := Lib.hid (fun (h1 : (canon x).mag.size ≤ 7) (h2 : (canon y).mag.size ≤ 7) W => refOfInt_any (x + y) (by have := small_lt h1; have := small_lt h2; omega) (by have := small_lt h1; have := small_lt h2; omega) W)
  have HSl := Lib.hid (fun (h1 : (canon x).mag.size ≤ 7) (h2 : (canon y).mag.size ≤ 7) => And.intro (small_lt h1) (small_lt h2))
  have HR : Hid (∀ (a : Bool) (m : Nat), a = decide (x + y < 0) → m = (x + y).natAbs → (.agg #[.bool a, .string ⟨(beb m).toArray⟩] : Value) = .agg #[.bool (canon (x + y)).neg, .string (canon (x + y)).mag]) := Lib.hid (fun a m ha hm => by rw [ha, hm]; rfl)
  have Hzero : Hid ((.string ⟨#[]⟩ : Value) = .string ⟨(beb 0).toArray⟩) := Lib.hid rfl
  obtain ⟨X, hX⟩ : ∃ Z, canon x = Z := ⟨_, rfl⟩
  obtain ⟨Y, hY⟩ : ∃ Z, canon y = Z := ⟨_, rfl⟩
  obtain ⟨R, hR⟩ : ∃ Z, canon (x + y) = Z := ⟨_, rfl⟩
  rw [hX] at HVx HAm HSm1 HSm2 HCm HOf HSl HCx hNx hbx hby hbr hb0 hx ⊢
  rw [hY] at HVy HAm HSm1 HSm2 HCm HOf HSl HCy hNy hbx hby hbr hb0 hy ⊢
  rw [hR] at HOf HR ⊢
  have HNx := Lib.hid hNx
  have HNy := Lib.hid hNy
  clear hX hY hR hBx hBy hNx hNy
  obtain ⟨W0, hW0⟩ : ∃ W, (((w.alloc (.cells #[.bool X.neg, .string X.mag] 35)).alloc (.cells #[.bool Y.neg, .string Y.mag] 35)).alloc (.cells #[.bool false, .string ⟨#[]⟩] 35)) = W := ⟨_, rfl⟩
  rw [hW0] at hbx hby hbr hb0
  have Hbx := Lib.hid hbx
  have Hby := Lib.hid hby
  have Hbr := Lib.hid hbr
  have Hb0 := Lib.hid hb0
  have HW0 := Lib.hid hW0
  clear hbx hby hbr hb0 hW0
  go_enter Tryd.func61, Tryd.ntmps61
  go_wp2_with fail
  rw [HW0.out]
  clear HW0
  obtain ⟨gx, hgx⟩ : ∃ g, w.heap.size = g := ⟨_, rfl⟩
  rw [hgx] at Hbx Hby Hbr ⊢
  obtain ⟨x0, x1, x2, x3, x4⟩ := Hbx.out
  obtain ⟨y0, y1, y2, y3, y4⟩ := Hby.out
  obtain ⟨SS, hSe⟩ : ∃ SS : World → Prop, SS = fun W => W.cell? ⟨gx, 0, none⟩ = some (.bool X.neg) ∧ W.cell? ⟨gx, 1, none⟩ = some (.string X.mag) ∧ W.cell? ⟨gx + 1, 0, none⟩ = some (.bool Y.neg) ∧ W.cell? ⟨gx + 1, 1, none⟩ = some (.string Y.mag) := ⟨_, rfl⟩
  have HSB : Hid (∀ W, BoxAt W gx (.bool X.neg) (.string X.mag) → BoxAt W (gx + 1) (.bool Y.neg) (.string Y.mag) → SS W) := Lib.hid (fun W h1 h2 => by rw [hSe]; exact ⟨h1.1, h1.2.1, h2.1, h2.2.1⟩)
  have HS : Hid (∀ W, Below W0.heap.size W0 W → SS W) := Lib.hid (fun W hW => by rw [hSe]; exact ⟨cell_below hW x0, cell_below hW x1, cell_below hW y0, cell_below hW y1⟩)
  have hd : Below W0.heap.size W0 W0.drew := (Below.refl W0.heap.size W0).drew
  clear x0 x1 x2 x3 x4 y0 y1 y2 y3 y4
  refine wp_region_held_drew (S := SS) (by kernel_rfl) (HS.out _ hd) (fun hSS => ?_)
  refine wpAnyH_take (i := 0) (v := ?_) rfl (by kernel_rfl) (by kernel_rfl) (by kernel_rfl) (fun _ _ _ h => h) (Or.inl ⟨by rfl, ?_⟩) hSS ?_
  rotate_left 1
  next => intro w hSw; rw [hSe] at hSw; obtain ⟨s1, s2, s3, s4⟩ := hSw; go_simp; try with_reducible rfl
  refine wpAnyH_take (i := 2) (v := ?_) rfl (by kernel_rfl) (by kernel_rfl) (by kernel_rfl) (fun _ _ _ h => h) (Or.inl ⟨by rfl, ?_⟩) hSS ?_
  rotate_left 1
  next => intro w hSw; rw [hSe] at hSw; obtain ⟨s1, s2, s3, s4⟩ := hSw; go_simp; try with_reducible rfl
  try simp only [Act.put, List.getElem_toArray, List.getElem_cons_zero, List.getElem_cons_succ, List.setIfInBounds_toArray, List.set_cons_zero, List.set_cons_succ]
  refine wpAnyH_ready (rs := [1]) (by kernel_rfl) (by simp) ?_
  refine AllReadyH.cons rfl (fun K hK => ?_) AllReadyH.nil
  go_simp
  refine (HCx.out _).mono ?_
  rintro e W1 ⟨rfl, hbc⟩
  have hW1 : Below W0.heap.size W0 W1 := hd.trans (hbc.mono hd.size)
  dsimp only
  refine hK.out _ _ (HS.out _ hW1) (fun _ => ?_)
  clear hK K hbc
  try simp only [Act.put, List.getElem_toArray, List.getElem_cons_zero, List.getElem_cons_succ, List.setIfInBounds_toArray, List.set_cons_zero, List.set_cons_succ]
  refine wpAnyH_ready (rs := [3]) (by kernel_rfl) (by simp) ?_
  refine AllReadyH.cons rfl (fun K hK => ?_) AllReadyH.nil
  go_simp
  refine (HCy.out _).mono ?_
  rintro e W2 ⟨rfl, hbc⟩
  have hW2 : Below W0.heap.size W0 W2 := hW1.trans (hbc.mono hW1.size)
  dsimp only
  refine hK.out _ _ (HS.out _ hW2) (fun _ => ?_)
  clear hK K hbc
  have hbx2 := Hbx.out.below hW2 Hbx.out.2.2.2.2
  have hby2 := Hby.out.below hW2 Hby.out.2.2.2.2
  have hbr2 := Hbr.out.below hW2 Hbr.out.2.2.2.2
  have hbx3 := boxp_set hbx2 (.bool X.neg) (.string X.mag)
  have hby3 := boxp_far (boxp_far hby2 (p := ⟨gx, 0, none⟩) (by show gx + 1 ≠ gx; omega) (.bool X.neg)) (p := ⟨gx, 1, none⟩) (by show gx + 1 ≠ gx; omega) (.string X.mag)
  have hbr3 := boxp_far (boxp_far hbr2 (p := ⟨gx, 0, none⟩) (by show gx + 1 + 1 ≠ gx; omega) (.bool X.neg)) (p := ⟨gx, 1, none⟩) (by show gx + 1 + 1 ≠ gx; omega) (.string X.mag)
  have hbx4 := boxp_far (boxp_far hbx3 (p := ⟨gx + 1, 0, none⟩) (by show gx ≠ gx + 1; omega) (.bool Y.neg)) (p := ⟨gx + 1, 1, none⟩) (by show gx ≠ gx + 1; omega) (.string Y.mag)
  have hby4 := boxp_set hby3 (.bool Y.neg) (.string Y.mag)
  have hbr4 := boxp_far (boxp_far hbr3 (p := ⟨gx + 1, 0, none⟩) (by show gx + 1 + 1 ≠ gx + 1; omega) (.bool Y.neg)) (p := ⟨gx + 1, 1, none⟩) (by show gx + 1 + 1 ≠ gx + 1; omega) (.string Y.mag)
  have hb2 : Below w.heap.size w W2 := Hb0.out.trans (hW2.mono Hb0.out.size)
  have hb4 : Below w.heap.size w ((((W2.setCell ⟨gx, 0, none⟩ (.bool X.neg)).setCell ⟨gx, 1, none⟩ (.string X.mag)).setCell ⟨gx + 1, 0, none⟩ (.bool Y.neg)).setCell ⟨gx + 1, 1, none⟩ (.string Y.mag)) := (((hb2.setCell (by rw [hgx]; exact Nat.le_refl _) _).setCell (by rw [hgx]; exact Nat.le_refl _) _).setCell (by rw [hgx]; exact Nat.le_succ _) _).setCell (by rw [hgx]; exact Nat.le_succ _) _
  try simp only [Act.put, List.getElem_toArray, List.getElem_cons_zero, List.getElem_cons_succ, List.setIfInBounds_toArray, List.set_cons_zero, List.set_cons_succ]
  refine wpAnyH_ready (rs := [4]) (by kernel_rfl) (by simp) ?_
  refine AllReadyH.cons rfl (fun K hK => ?_) AllReadyH.nil
  obtain ⟨q0, q1, q2, q3, q4⟩ := hbx2
  go_simp
  refine hK.out _ _ (HSB.out _ hbx3 hby3) (fun _ => ?_)
  clear hK K q0 q1 q2 q3 q4
  try simp only [Act.put, List.getElem_toArray, List.getElem_cons_zero, List.getElem_cons_succ, List.setIfInBounds_toArray, List.set_cons_zero, List.set_cons_succ]
  refine wpAnyH_ready (rs := [5]) (by kernel_rfl) (by simp) ?_
  refine AllReadyH.cons rfl (fun K hK => ?_) AllReadyH.nil
  obtain ⟨q0, q1, q2, q3, q4⟩ := hby3
  go_simp
  refine hK.out _ _ (HSB.out _ hbx4 hby4) (fun _ => ?_)
  clear hK K q0 q1 q2 q3 q4
  refine wpAnyH_done (by kernel_rfl) ?_ _
  have Hbx := Lib.hid hbx4
  have Hby := Lib.hid hby4
  have Hbr := Lib.hid hbr4
  have Hb := Lib.hid hb4
  clear hby2 hbr2 hbx3 hbr3 hbx4 hby4 hbr4 hb2 hb4 hW2 hW1 hd HS hSS
  generalize ((((W2.setCell ⟨gx, 0, none⟩ (.bool X.neg)).setCell ⟨gx, 1, none⟩ (.string X.mag)).setCell ⟨gx + 1, 0, none⟩ (.bool Y.neg)).setCell ⟨gx + 1, 1, none⟩ (.string Y.mag)) = V at *
  clear HCx HCy Hb0
  obtain ⟨x0, x1, x2, x3, x4⟩ := Hbx.out
  obtain ⟨y0, y1, y2, y3, y4⟩ := Hby.out
  by_cases hbx7 : X.mag.size < 8
  · have i7x : (X.mag.size : Int) < 8 := by omega
    by_cases hby7 : Y.mag.size < 8
    · have i7y : (Y.mag.size : Int) < 8 := by omega
      have hsl := HSl.out (by omega) (by omega)
      have hwr : IntKind.i64.wrap (x + y) = x + y := IntWalk.i64_in _ (by omega)
      go_wp2_with fail
      have W0e : ∃ W0, V = W0 := ⟨_, rfl⟩
      obtain ⟨W0, hV⟩ := W0e
      rw [hV] at Hbx Hby Hbr Hb x0 x1 y0 y1 ⊢
      clear hV
      have HS : Hid (∀ W, Below W0.heap.size W0 W → SS W) := Lib.hid (fun W hW => by rw [hSe]; exact ⟨cell_below hW x0, cell_below hW x1, cell_below hW y0, cell_below hW y1⟩)
      have HS2 : Hid (∀ W a b, SS W → SS ((W.setCell ⟨gx + 1 + 1, 0, none⟩ a).setCell ⟨gx + 1 + 1, 1, none⟩ b)) := Lib.hid (fun W a b hW => by
        rw [hSe] at hW ⊢
        obtain ⟨s1, s2, s3, s4⟩ := hW
        refine ⟨?_, ?_, ?_, ?_⟩ <;> (rw [World.cell?_setCell_other _ _ _ _ (by intro hh; simp only [Addr.mk.injEq] at hh; omega), World.cell?_setCell_other _ _ _ _ (by intro hh; simp only [Addr.mk.injEq] at hh; omega)]; assumption))
      have hd : Below W0.heap.size W0 W0.drew := (Below.refl W0.heap.size W0).drew
      clear x0 x1 x2 x3 x4 y0 y1 y2 y3 y4
      refine wp_region_held_drew (S := SS) (by kernel_rfl) (HS.out _ hd) (fun hSS => ?_)
      refine wpAnyH_take (i := 0) (v := ?_) rfl (by kernel_rfl) (by kernel_rfl) (by kernel_rfl) (fun _ _ _ h => h) (Or.inl ⟨by rfl, ?_⟩) hSS ?_
      rotate_left 1
      next => intro w hSw; rw [hSe] at hSw; obtain ⟨s1, s2, s3, s4⟩ := hSw; go_simp; try with_reducible rfl
      refine wpAnyH_take (i := 2) (v := ?_) rfl (by kernel_rfl) (by kernel_rfl) (by kernel_rfl) (fun _ _ _ h => h) (Or.inl ⟨by rfl, ?_⟩) hSS ?_
      rotate_left 1
      next => intro w hSw; rw [hSe] at hSw; obtain ⟨s1, s2, s3, s4⟩ := hSw; go_simp; try with_reducible rfl
      try simp only [Act.put, List.getElem_toArray, List.getElem_cons_zero, List.getElem_cons_succ, List.setIfInBounds_toArray, List.set_cons_zero, List.set_cons_succ]
      refine wpAnyH_ready (rs := [1]) (by kernel_rfl) (by simp) ?_
      refine AllReadyH.cons rfl (fun K hK => ?_) AllReadyH.nil
      go_simp
      refine (HVx.out (by omega) _).mono ?_
      rintro e W1 ⟨rfl, hbc⟩
      have hW1 : Below W0.heap.size W0 W1 := hd.trans (hbc.mono hd.size)
      dsimp only
      refine hK.out _ _ (HS.out _ hW1) (fun _ => ?_)
      clear hK K hbc
      try simp only [Act.put, List.getElem_toArray, List.getElem_cons_zero, List.getElem_cons_succ, List.setIfInBounds_toArray, List.set_cons_zero, List.set_cons_succ]
      refine wpAnyH_ready (rs := [3]) (by kernel_rfl) (by simp) ?_
      refine AllReadyH.cons rfl (fun K hK => ?_) AllReadyH.nil
      go_simp
      refine (HVy.out (by omega) _).mono ?_
      rintro e W2 ⟨rfl, hbc⟩
      have hW2 : Below W0.heap.size W0 W2 := hW1.trans (hbc.mono hW1.size)
      dsimp only
      refine hK.out _ _ (HS.out _ hW2) (fun _ => ?_)
      clear hK K hbc
      refine wpAnyH_take (i := 4) (v := ?_) rfl (by kernel_rfl) (by kernel_rfl) (by kernel_rfl) (fun _ _ _ h => h) (Or.inl ⟨by rfl, ?_⟩) (HS.out _ hW2) ?_
      rotate_left 1
      next => intro w hSw; rw [hSe] at hSw; obtain ⟨s1, s2, s3, s4⟩ := hSw; go_simp; try with_reducible rfl
      try simp only [Act.put, List.getElem_toArray, List.getElem_cons_zero, List.getElem_cons_succ, List.setIfInBounds_toArray, List.set_cons_zero, List.set_cons_succ]
      refine wpAnyH_ready (rs := [5]) (by kernel_rfl) (by simp) ?_
      refine AllReadyH.cons rfl (fun K hK => ?_) AllReadyH.nil
      go_simp
      refine (HOf.out (by omega) (by omega) _).mono ?_
      rintro e W3 ⟨rfl, hbc⟩
      have hW3 : Below W0.heap.size W0 W3 := hW2.trans (hbc.mono hW2.size)
      dsimp only
      refine hK.out _ _ (HS.out _ hW3) (fun _ => ?_)
      clear hK K hbc
      have hbr5 := Hbr.out.below hW3 Hbr.out.2.2.2.2
      try simp only [Act.put, List.getElem_toArray, List.getElem_cons_zero, List.getElem_cons_succ, List.setIfInBounds_toArray, List.set_cons_zero, List.set_cons_succ]
      refine wpAnyH_ready (rs := [6]) (by kernel_rfl) (by simp) ?_
      refine AllReadyH.cons rfl (fun K hK => ?_) AllReadyH.nil
      have hq5 := hbr5
      obtain ⟨q0, q1, q2, q3, q4⟩ := hq5
      go_simp
      refine hK.out _ _ (HS2.out _ _ _ (HS.out _ hW3)) (fun _ => ?_)
      clear hK K q0 q1 q2 q3 q4
      refine wpAnyH_done (by kernel_rfl) ?_ _
      have hbr6 := boxp_set hbr5 (.bool R.neg) (.string R.mag)
      have hbw : Below w.heap.size w ((W3.setCell ⟨gx + 1 + 1, 0, none⟩ (.bool R.neg)).setCell ⟨gx + 1 + 1, 1, none⟩ (.string R.mag)) := ((Hb.out.trans (hW3.mono Hb.out.size)).setCell (by rw [hgx]; exact Nat.le_add_right gx 2) _).setCell (by rw [hgx]; exact Nat.le_add_right gx 2) _
      obtain ⟨c0, c1, _, _, _⟩ := hbr6
      go_wp2
      refine bodyPost_ret (v := .agg #[.bool R.neg, .string R.mag]) (by simp [results, Tryd.results61, go_sem, c0, c1]) rfl ⟨rfl, hbw⟩
    · have i7y : ¬ (Y.mag.size : Int) < 8 := by omega
      clear HVx HVy HOf HSl
      by_cases hsg : X.neg = Y.neg
      · have hsb : (X.neg == Y.neg) = true := by rw [beq_iff_eq]; exact hsg
        have HQ : Hid (X.neg = decide (x + y < 0) ∧ x.natAbs + y.natAbs = (x + y).natAbs) := Lib.hid (by
          have h1 := HNx.out
          have h2 := HNy.out
          rw [← hsg, h1] at h2
          by_cases hx0 : x < 0
          · rw [decide_eq_true hx0] at h1 h2
            have hy0 := of_decide_eq_true h2.symm
            exact ⟨by rw [h1, eq_comm, decide_eq_true_eq]; omega, by omega⟩
          · rw [decide_eq_false hx0] at h1 h2
            have hy0 := of_decide_eq_false h2.symm
            exact ⟨by rw [h1, eq_comm, decide_eq_false_iff_not]; omega, by omega⟩)
        clear hsg
        go_wp2_with fail
        have W0e : ∃ W0, V = W0 := ⟨_, rfl⟩
        obtain ⟨W0, hV⟩ := W0e
        rw [hV] at Hbx Hby Hbr Hb x0 x1 y0 y1 ⊢
        clear hV
        have HS : Hid (∀ W, Below W0.heap.size W0 W → SS W) := Lib.hid (fun W hW => by rw [hSe]; exact ⟨cell_below hW x0, cell_below hW x1, cell_below hW y0, cell_below hW y1⟩)
        have HS2 : Hid (∀ W a b, SS W → SS ((W.setCell ⟨gx + 1 + 1, 0, none⟩ a).setCell ⟨gx + 1 + 1, 1, none⟩ b)) := Lib.hid (fun W a b hW => by
          rw [hSe] at hW ⊢
          obtain ⟨s1, s2, s3, s4⟩ := hW
          refine ⟨?_, ?_, ?_, ?_⟩ <;> (rw [World.cell?_setCell_other _ _ _ _ (by intro hh; simp only [Addr.mk.injEq] at hh; omega), World.cell?_setCell_other _ _ _ _ (by intro hh; simp only [Addr.mk.injEq] at hh; omega)]; assumption))
        have hd : Below W0.heap.size W0 W0.drew := (Below.refl W0.heap.size W0).drew
        clear x0 x1 x2 x3 x4 y0 y1 y2 y3 y4
        refine wp_region_held_drew (S := SS) (by kernel_rfl) (HS.out _ hd) (fun hSS => ?_)
        refine wpAnyH_take (i := 0) (v := ?_) rfl (by kernel_rfl) (by kernel_rfl) (by kernel_rfl) (fun _ _ _ h => h) (Or.inl ⟨by rfl, ?_⟩) hSS ?_
        rotate_left 1
        next => intro w hSw; rw [hSe] at hSw; obtain ⟨s1, s2, s3, s4⟩ := hSw; go_simp; try with_reducible rfl
        refine wpAnyH_take (i := 1) (v := ?_) rfl (by kernel_rfl) (by kernel_rfl) (by kernel_rfl) (fun _ _ _ h => h) (Or.inl ⟨by rfl, ?_⟩) hSS ?_
        rotate_left 1
        next => intro w hSw; rw [hSe] at hSw; obtain ⟨s1, s2, s3, s4⟩ := hSw; go_simp; try with_reducible rfl
        refine wpAnyH_take (i := 2) (v := ?_) rfl (by kernel_rfl) (by kernel_rfl) (by kernel_rfl) (fun _ _ _ h => h) (Or.inl ⟨by rfl, ?_⟩) hSS ?_
        rotate_left 1
        next => intro w hSw; rw [hSe] at hSw; obtain ⟨s1, s2, s3, s4⟩ := hSw; go_simp; try with_reducible rfl
        refine wpAnyH_take (i := 3) (v := ?_) rfl (by kernel_rfl) (by kernel_rfl) (by kernel_rfl) (fun _ _ _ h => h) (Or.inl ⟨by rfl, ?_⟩) hSS ?_
        rotate_left 1
        next => intro w hSw; rw [hSe] at hSw; obtain ⟨s1, s2, s3, s4⟩ := hSw; go_simp; try with_reducible rfl
        refine wpAnyH_take (i := 4) (v := ?_) rfl (by kernel_rfl) (by kernel_rfl) (by kernel_rfl) (fun _ _ _ h => h) (Or.inl ⟨by rfl, ?_⟩) hSS ?_
        rotate_left 1
        next => intro w hSw; rw [hSe] at hSw; obtain ⟨s1, s2, s3, s4⟩ := hSw; go_simp; try with_reducible rfl
        refine wpAnyH_take (i := 5) (v := ?_) rfl (by kernel_rfl) (by kernel_rfl) (by kernel_rfl) (fun _ _ _ h => h) (Or.inl ⟨by rfl, ?_⟩) hSS ?_
        rotate_left 1
        next => intro w hSw; rw [hSe] at hSw; obtain ⟨s1, s2, s3, s4⟩ := hSw; go_simp; try with_reducible rfl
        try simp only [Act.put, List.getElem_toArray, List.getElem_cons_zero, List.getElem_cons_succ, List.setIfInBounds_toArray, List.set_cons_zero, List.set_cons_succ]
        refine wpAnyH_ready (rs := [6]) (by kernel_rfl) (by simp) ?_
        refine AllReadyH.cons rfl (fun K hK => ?_) AllReadyH.nil
        go_simp
        refine (HAm.out _).mono ?_
        rintro e W1 ⟨rfl, hbc⟩
        have hW1 : Below W0.heap.size W0 W1 := hd.trans (hbc.mono hd.size)
        dsimp only
        refine hK.out _ _ (HS.out _ hW1) (fun _ => ?_)
        clear hK K hbc
        refine wpAnyH_take (i := 7) (v := ?_) rfl (by kernel_rfl) (by kernel_rfl) (by kernel_rfl) (fun _ _ _ h => h) (Or.inl ⟨by rfl, ?_⟩) (HS.out _ hW1) ?_
        rotate_left 1
        next => intro w hSw; rw [hSe] at hSw; obtain ⟨s1, s2, s3, s4⟩ := hSw; go_simp; try with_reducible rfl
        have hbr5 := Hbr.out.below hW1 Hbr.out.2.2.2.2
        try simp only [Act.put, List.getElem_toArray, List.getElem_cons_zero, List.getElem_cons_succ, List.setIfInBounds_toArray, List.set_cons_zero, List.set_cons_succ]
        refine wpAnyH_ready (rs := [8]) (by kernel_rfl) (by simp) ?_
        refine AllReadyH.cons rfl (fun K hK => ?_) AllReadyH.nil
        have hq5 := hbr5
        obtain ⟨q0, q1, q2, q3, q4⟩ := hq5
        go_simp
        refine hK.out _ _ (HS2.out _ _ _ (HS.out _ hW1)) (fun _ => ?_)
        clear hK K q0 q1 q2 q3 q4
        refine wpAnyH_done (by kernel_rfl) ?_ _
        have hbr6 := boxp_set hbr5 (.bool X.neg) (.string ⟨(beb (x.natAbs + y.natAbs)).toArray⟩)
        have hbw : Below w.heap.size w ((W1.setCell ⟨gx + 1 + 1, 0, none⟩ (.bool X.neg)).setCell ⟨gx + 1 + 1, 1, none⟩ (.string ⟨(beb (x.natAbs + y.natAbs)).toArray⟩)) := ((Hb.out.trans (hW1.mono Hb.out.size)).setCell (by rw [hgx]; exact Nat.le_add_right gx 2) _).setCell (by rw [hgx]; exact Nat.le_add_right gx 2) _
        obtain ⟨c0, c1, _, _, _⟩ := hbr6
        go_wp2
        refine bodyPost_ret (v := .agg #[.bool X.neg, .string ⟨(beb (x.natAbs + y.natAbs)).toArray⟩]) (by simp [results, Tryd.results61, go_sem, c0, c1]) rfl ⟨by rw [HR.out _ _ HQ.out.1 HQ.out.2], hbw⟩
      · have hsb : (X.neg == Y.neg) = false := by rw [beq_eq_false_iff_ne]; exact hsg
        have HD : Hid ((x < 0 ∧ 0 ≤ y) ∨ (0 ≤ x ∧ y < 0)) := Lib.hid (by
          have h1 := HNx.out
          have h2 := HNy.out
          by_cases hx0 : x < 0
          · rw [decide_eq_true hx0] at h1
            by_cases hy0 : y < 0
            · rw [decide_eq_true hy0] at h2
              exact absurd (h1.trans h2.symm) hsg
            · omega
          · rw [decide_eq_false hx0] at h1
            by_cases hy0 : y < 0
            · omega
            · rw [decide_eq_false hy0] at h2
              exact absurd (h1.trans h2.symm) hsg)
        clear hsg
        rcases Nat.lt_trichotomy x.natAbs y.natAbs with hc | hc | hc
        · have HQ : Hid (Y.neg = decide (x + y < 0) ∧ y.natAbs - x.natAbs = (x + y).natAbs) := Lib.hid (by
            have h2 := HNy.out
            rcases HD.out with ⟨ha, hb⟩ | ⟨ha, hb⟩
            · exact ⟨by rw [h2, decide_eq_false (by omega), decide_eq_false (by omega)], by omega⟩
            · exact ⟨by rw [h2, decide_eq_true hb, decide_eq_true (by omega)], by omega⟩)
          have HSm2 := Lib.hid (HSm2.out (by omega))
          have hcv : cmpV x.natAbs y.natAbs = -1 := by unfold cmpV; rw [if_pos hc]
          rw [hcv] at HCm
          go_wp2_with fail
          refine (HCm.out _).mono ?_
          rintro e _ ⟨rfl, rfl⟩
          dsimp only
          clear hcv HCm
          clear hc
          go_wp2_with fail
          have W0e : ∃ W0, V = W0 := ⟨_, rfl⟩
          obtain ⟨W0, hV⟩ := W0e
          rw [hV] at Hbx Hby Hbr Hb x0 x1 y0 y1 ⊢
          clear hV
          have HS : Hid (∀ W, Below W0.heap.size W0 W → SS W) := Lib.hid (fun W hW => by rw [hSe]; exact ⟨cell_below hW x0, cell_below hW x1, cell_below hW y0, cell_below hW y1⟩)
          have HS2 : Hid (∀ W a b, SS W → SS ((W.setCell ⟨gx + 1 + 1, 0, none⟩ a).setCell ⟨gx + 1 + 1, 1, none⟩ b)) := Lib.hid (fun W a b hW => by
            rw [hSe] at hW ⊢
            obtain ⟨s1, s2, s3, s4⟩ := hW
            refine ⟨?_, ?_, ?_, ?_⟩ <;> (rw [World.cell?_setCell_other _ _ _ _ (by intro hh; simp only [Addr.mk.injEq] at hh; omega), World.cell?_setCell_other _ _ _ _ (by intro hh; simp only [Addr.mk.injEq] at hh; omega)]; assumption))
          have hd : Below W0.heap.size W0 W0.drew := (Below.refl W0.heap.size W0).drew
          clear x0 x1 x2 x3 x4 y0 y1 y2 y3 y4
          refine wp_region_held_drew (S := SS) (by kernel_rfl) (HS.out _ hd) (fun hSS => ?_)
          refine wpAnyH_take (i := 0) (v := ?_) rfl (by kernel_rfl) (by kernel_rfl) (by kernel_rfl) (fun _ _ _ h => h) (Or.inl ⟨by rfl, ?_⟩) hSS ?_
          rotate_left 1
          next => intro w hSw; rw [hSe] at hSw; obtain ⟨s1, s2, s3, s4⟩ := hSw; go_simp; try with_reducible rfl
          refine wpAnyH_take (i := 1) (v := ?_) rfl (by kernel_rfl) (by kernel_rfl) (by kernel_rfl) (fun _ _ _ h => h) (Or.inl ⟨by rfl, ?_⟩) hSS ?_
          rotate_left 1
          next => intro w hSw; rw [hSe] at hSw; obtain ⟨s1, s2, s3, s4⟩ := hSw; go_simp; try with_reducible rfl
          refine wpAnyH_take (i := 2) (v := ?_) rfl (by kernel_rfl) (by kernel_rfl) (by kernel_rfl) (fun _ _ _ h => h) (Or.inl ⟨by rfl, ?_⟩) hSS ?_
          rotate_left 1
          next => intro w hSw; rw [hSe] at hSw; obtain ⟨s1, s2, s3, s4⟩ := hSw; go_simp; try with_reducible rfl
          refine wpAnyH_take (i := 3) (v := ?_) rfl (by kernel_rfl) (by kernel_rfl) (by kernel_rfl) (fun _ _ _ h => h) (Or.inl ⟨by rfl, ?_⟩) hSS ?_
          rotate_left 1
          next => intro w hSw; rw [hSe] at hSw; obtain ⟨s1, s2, s3, s4⟩ := hSw; go_simp; try with_reducible rfl
          refine wpAnyH_take (i := 4) (v := ?_) rfl (by kernel_rfl) (by kernel_rfl) (by kernel_rfl) (fun _ _ _ h => h) (Or.inl ⟨by rfl, ?_⟩) hSS ?_
          rotate_left 1
          next => intro w hSw; rw [hSe] at hSw; obtain ⟨s1, s2, s3, s4⟩ := hSw; go_simp; try with_reducible rfl
          refine wpAnyH_take (i := 5) (v := ?_) rfl (by kernel_rfl) (by kernel_rfl) (by kernel_rfl) (fun _ _ _ h => h) (Or.inl ⟨by rfl, ?_⟩) hSS ?_
          rotate_left 1
          next => intro w hSw; rw [hSe] at hSw; obtain ⟨s1, s2, s3, s4⟩ := hSw; go_simp; try with_reducible rfl
          try simp only [Act.put, List.getElem_toArray, List.getElem_cons_zero, List.getElem_cons_succ, List.setIfInBounds_toArray, List.set_cons_zero, List.set_cons_succ]
          refine wpAnyH_ready (rs := [6]) (by kernel_rfl) (by simp) ?_
          refine AllReadyH.cons rfl (fun K hK => ?_) AllReadyH.nil
          go_simp
          refine (HSm2.out _).mono ?_
          rintro e W1 ⟨rfl, hbc⟩
          have hW1 : Below W0.heap.size W0 W1 := hd.trans (hbc.mono hd.size)
          dsimp only
          refine hK.out _ _ (HS.out _ hW1) (fun _ => ?_)
          clear hK K hbc
          refine wpAnyH_take (i := 7) (v := ?_) rfl (by kernel_rfl) (by kernel_rfl) (by kernel_rfl) (fun _ _ _ h => h) (Or.inl ⟨by rfl, ?_⟩) (HS.out _ hW1) ?_
          rotate_left 1
          next => intro w hSw; rw [hSe] at hSw; obtain ⟨s1, s2, s3, s4⟩ := hSw; go_simp; try with_reducible rfl
          have hbr5 := Hbr.out.below hW1 Hbr.out.2.2.2.2
          try simp only [Act.put, List.getElem_toArray, List.getElem_cons_zero, List.getElem_cons_succ, List.setIfInBounds_toArray, List.set_cons_zero, List.set_cons_succ]
          refine wpAnyH_ready (rs := [8]) (by kernel_rfl) (by simp) ?_
          refine AllReadyH.cons rfl (fun K hK => ?_) AllReadyH.nil
          have hq5 := hbr5
          obtain ⟨q0, q1, q2, q3, q4⟩ := hq5
          go_simp
          refine hK.out _ _ (HS2.out _ _ _ (HS.out _ hW1)) (fun _ => ?_)
          clear hK K q0 q1 q2 q3 q4
          refine wpAnyH_done (by kernel_rfl) ?_ _
          have hbr6 := boxp_set hbr5 (.bool Y.neg) (.string ⟨(beb (y.natAbs - x.natAbs)).toArray⟩)
          have hbw : Below w.heap.size w ((W1.setCell ⟨gx + 1 + 1, 0, none⟩ (.bool Y.neg)).setCell ⟨gx + 1 + 1, 1, none⟩ (.string ⟨(beb (y.natAbs - x.natAbs)).toArray⟩)) := ((Hb.out.trans (hW1.mono Hb.out.size)).setCell (by rw [hgx]; exact Nat.le_add_right gx 2) _).setCell (by rw [hgx]; exact Nat.le_add_right gx 2) _
          obtain ⟨c0, c1, _, _, _⟩ := hbr6
          go_wp2
          refine bodyPost_ret (v := .agg #[.bool Y.neg, .string ⟨(beb (y.natAbs - x.natAbs)).toArray⟩]) (by simp [results, Tryd.results61, go_sem, c0, c1]) rfl ⟨by rw [HR.out _ _ HQ.out.1 HQ.out.2], hbw⟩
        · have HQ : Hid (false = decide (x + y < 0) ∧ 0 = (x + y).natAbs) := Lib.hid (by
            rcases HD.out with ⟨ha, hb⟩ | ⟨ha, hb⟩
            · exact ⟨by rw [decide_eq_false (by omega)], by omega⟩
            · exact ⟨by rw [decide_eq_false (by omega)], by omega⟩)
          have hcv : cmpV x.natAbs y.natAbs = 0 := by unfold cmpV; rw [if_neg (by omega), if_neg (by omega)]
          rw [hcv] at HCm
          go_wp2_with fail
          refine (HCm.out _).mono ?_
          rintro e _ ⟨rfl, rfl⟩
          dsimp only
          clear hcv HCm
          clear hc
          obtain ⟨r0, r1, r2, r3, r4⟩ := Hbr.out
          have hbr6 := boxp_set Hbr.out (.bool false) (.string ⟨#[]⟩)
          have hbw : Below w.heap.size w ((V.setCell ⟨gx + 1 + 1, 0, none⟩ (.bool false)).setCell ⟨gx + 1 + 1, 1, none⟩ (.string ⟨#[]⟩)) := (Hb.out.setCell (by rw [hgx]; exact Nat.le_add_right gx 2) _).setCell (by rw [hgx]; exact Nat.le_add_right gx 2) _
          obtain ⟨c0, c1, _, _, _⟩ := hbr6
          go_wp2
          refine bodyPost_ret (v := .agg #[.bool false, .string ⟨#[]⟩]) (by simp [results, Tryd.results61, go_sem, c0, c1]) rfl ⟨by rw [← HR.out _ _ HQ.out.1 HQ.out.2]; rfl, hbw⟩
        · have HQ : Hid (X.neg = decide (x + y < 0) ∧ x.natAbs - y.natAbs = (x + y).natAbs) := Lib.hid (by
            have h2 := HNx.out
            rcases HD.out with ⟨ha, hb⟩ | ⟨ha, hb⟩
            · exact ⟨by rw [h2, decide_eq_true ha, decide_eq_true (by omega)], by omega⟩
            · exact ⟨by rw [h2, decide_eq_false (by omega), decide_eq_false (by omega)], by omega⟩)
          have HSm1 := Lib.hid (HSm1.out (by omega))
          have hcv : cmpV x.natAbs y.natAbs = 1 := by unfold cmpV; rw [if_neg (by omega), if_pos hc]
          rw [hcv] at HCm
          go_wp2_with fail
          refine (HCm.out _).mono ?_
          rintro e _ ⟨rfl, rfl⟩
          dsimp only
          clear hcv HCm
          clear hc
          go_wp2_with fail
          have W0e : ∃ W0, V = W0 := ⟨_, rfl⟩
          obtain ⟨W0, hV⟩ := W0e
          rw [hV] at Hbx Hby Hbr Hb x0 x1 y0 y1 ⊢
          clear hV
          have HS : Hid (∀ W, Below W0.heap.size W0 W → SS W) := Lib.hid (fun W hW => by rw [hSe]; exact ⟨cell_below hW x0, cell_below hW x1, cell_below hW y0, cell_below hW y1⟩)
          have HS2 : Hid (∀ W a b, SS W → SS ((W.setCell ⟨gx + 1 + 1, 0, none⟩ a).setCell ⟨gx + 1 + 1, 1, none⟩ b)) := Lib.hid (fun W a b hW => by
            rw [hSe] at hW ⊢
            obtain ⟨s1, s2, s3, s4⟩ := hW
            refine ⟨?_, ?_, ?_, ?_⟩ <;> (rw [World.cell?_setCell_other _ _ _ _ (by intro hh; simp only [Addr.mk.injEq] at hh; omega), World.cell?_setCell_other _ _ _ _ (by intro hh; simp only [Addr.mk.injEq] at hh; omega)]; assumption))
          have hd : Below W0.heap.size W0 W0.drew := (Below.refl W0.heap.size W0).drew
          clear x0 x1 x2 x3 x4 y0 y1 y2 y3 y4
          refine wp_region_held_drew (S := SS) (by kernel_rfl) (HS.out _ hd) (fun hSS => ?_)
          refine wpAnyH_take (i := 0) (v := ?_) rfl (by kernel_rfl) (by kernel_rfl) (by kernel_rfl) (fun _ _ _ h => h) (Or.inl ⟨by rfl, ?_⟩) hSS ?_
          rotate_left 1
          next => intro w hSw; rw [hSe] at hSw; obtain ⟨s1, s2, s3, s4⟩ := hSw; go_simp; try with_reducible rfl
          refine wpAnyH_take (i := 1) (v := ?_) rfl (by kernel_rfl) (by kernel_rfl) (by kernel_rfl) (fun _ _ _ h => h) (Or.inl ⟨by rfl, ?_⟩) hSS ?_
          rotate_left 1
          next => intro w hSw; rw [hSe] at hSw; obtain ⟨s1, s2, s3, s4⟩ := hSw; go_simp; try with_reducible rfl
          refine wpAnyH_take (i := 2) (v := ?_) rfl (by kernel_rfl) (by kernel_rfl) (by kernel_rfl) (fun _ _ _ h => h) (Or.inl ⟨by rfl, ?_⟩) hSS ?_
          rotate_left 1
          next => intro w hSw; rw [hSe] at hSw; obtain ⟨s1, s2, s3, s4⟩ := hSw; go_simp; try with_reducible rfl
          refine wpAnyH_take (i := 3) (v := ?_) rfl (by kernel_rfl) (by kernel_rfl) (by kernel_rfl) (fun _ _ _ h => h) (Or.inl ⟨by rfl, ?_⟩) hSS ?_
          rotate_left 1
          next => intro w hSw; rw [hSe] at hSw; obtain ⟨s1, s2, s3, s4⟩ := hSw; go_simp; try with_reducible rfl
          refine wpAnyH_take (i := 4) (v := ?_) rfl (by kernel_rfl) (by kernel_rfl) (by kernel_rfl) (fun _ _ _ h => h) (Or.inl ⟨by rfl, ?_⟩) hSS ?_
          rotate_left 1
          next => intro w hSw; rw [hSe] at hSw; obtain ⟨s1, s2, s3, s4⟩ := hSw; go_simp; try with_reducible rfl
          refine wpAnyH_take (i := 5) (v := ?_) rfl (by kernel_rfl) (by kernel_rfl) (by kernel_rfl) (fun _ _ _ h => h) (Or.inl ⟨by rfl, ?_⟩) hSS ?_
          rotate_left 1
          next => intro w hSw; rw [hSe] at hSw; obtain ⟨s1, s2, s3, s4⟩ := hSw; go_simp; try with_reducible rfl
          try simp only [Act.put, List.getElem_toArray, List.getElem_cons_zero, List.getElem_cons_succ, List.setIfInBounds_toArray, List.set_cons_zero, List.set_cons_succ]
          refine wpAnyH_ready (rs := [6]) (by kernel_rfl) (by simp) ?_
          refine AllReadyH.cons rfl (fun K hK => ?_) AllReadyH.nil
          go_simp
          refine (HSm1.out _).mono ?_
          rintro e W1 ⟨rfl, hbc⟩
          have hW1 : Below W0.heap.size W0 W1 := hd.trans (hbc.mono hd.size)
          dsimp only
          refine hK.out _ _ (HS.out _ hW1) (fun _ => ?_)
          clear hK K hbc
          refine wpAnyH_take (i := 7) (v := ?_) rfl (by kernel_rfl) (by kernel_rfl) (by kernel_rfl) (fun _ _ _ h => h) (Or.inl ⟨by rfl, ?_⟩) (HS.out _ hW1) ?_
          rotate_left 1
          next => intro w hSw; rw [hSe] at hSw; obtain ⟨s1, s2, s3, s4⟩ := hSw; go_simp; try with_reducible rfl
          have hbr5 := Hbr.out.below hW1 Hbr.out.2.2.2.2
          try simp only [Act.put, List.getElem_toArray, List.getElem_cons_zero, List.getElem_cons_succ, List.setIfInBounds_toArray, List.set_cons_zero, List.set_cons_succ]
          refine wpAnyH_ready (rs := [8]) (by kernel_rfl) (by simp) ?_
          refine AllReadyH.cons rfl (fun K hK => ?_) AllReadyH.nil
          have hq5 := hbr5
          obtain ⟨q0, q1, q2, q3, q4⟩ := hq5
          go_simp
          refine hK.out _ _ (HS2.out _ _ _ (HS.out _ hW1)) (fun _ => ?_)
          clear hK K q0 q1 q2 q3 q4
          refine wpAnyH_done (by kernel_rfl) ?_ _
          have hbr6 := boxp_set hbr5 (.bool X.neg) (.string ⟨(beb (x.natAbs - y.natAbs)).toArray⟩)
          have hbw : Below w.heap.size w ((W1.setCell ⟨gx + 1 + 1, 0, none⟩ (.bool X.neg)).setCell ⟨gx + 1 + 1, 1, none⟩ (.string ⟨(beb (x.natAbs - y.natAbs)).toArray⟩)) := ((Hb.out.trans (hW1.mono Hb.out.size)).setCell (by rw [hgx]; exact Nat.le_add_right gx 2) _).setCell (by rw [hgx]; exact Nat.le_add_right gx 2) _
          obtain ⟨c0, c1, _, _, _⟩ := hbr6
          go_wp2
          refine bodyPost_ret (v := .agg #[.bool X.neg, .string ⟨(beb (x.natAbs - y.natAbs)).toArray⟩]) (by simp [results, Tryd.results61, go_sem, c0, c1]) rfl ⟨by rw [HR.out _ _ HQ.out.1 HQ.out.2], hbw⟩
  · have i7x : ¬ (X.mag.size : Int) < 8 := by omega
    clear HVx HVy HOf HSl
    by_cases hsg : X.neg = Y.neg
    · have hsb : (X.neg == Y.neg) = true := by rw [beq_iff_eq]; exact hsg
      have HQ : Hid (X.neg = decide (x + y < 0) ∧ x.natAbs + y.natAbs = (x + y).natAbs) := Lib.hid (by
        have h1 := HNx.out
        have h2 := HNy.out
        rw [← hsg, h1] at h2
        by_cases hx0 : x < 0
        · rw [decide_eq_true hx0] at h1 h2
          have hy0 := of_decide_eq_true h2.symm
          exact ⟨by rw [h1, eq_comm, decide_eq_true_eq]; omega, by omega⟩
        · rw [decide_eq_false hx0] at h1 h2
          have hy0 := of_decide_eq_false h2.symm
          exact ⟨by rw [h1, eq_comm, decide_eq_false_iff_not]; omega, by omega⟩)
      clear hsg
      go_wp2_with fail
      have W0e : ∃ W0, V = W0 := ⟨_, rfl⟩
      obtain ⟨W0, hV⟩ := W0e
      rw [hV] at Hbx Hby Hbr Hb x0 x1 y0 y1 ⊢
      clear hV
      have HS : Hid (∀ W, Below W0.heap.size W0 W → SS W) := Lib.hid (fun W hW => by rw [hSe]; exact ⟨cell_below hW x0, cell_below hW x1, cell_below hW y0, cell_below hW y1⟩)
      have HS2 : Hid (∀ W a b, SS W → SS ((W.setCell ⟨gx + 1 + 1, 0, none⟩ a).setCell ⟨gx + 1 + 1, 1, none⟩ b)) := Lib.hid (fun W a b hW => by
        rw [hSe] at hW ⊢
        obtain ⟨s1, s2, s3, s4⟩ := hW
        refine ⟨?_, ?_, ?_, ?_⟩ <;> (rw [World.cell?_setCell_other _ _ _ _ (by intro hh; simp only [Addr.mk.injEq] at hh; omega), World.cell?_setCell_other _ _ _ _ (by intro hh; simp only [Addr.mk.injEq] at hh; omega)]; assumption))
      have hd : Below W0.heap.size W0 W0.drew := (Below.refl W0.heap.size W0).drew
      clear x0 x1 x2 x3 x4 y0 y1 y2 y3 y4
      refine wp_region_held_drew (S := SS) (by kernel_rfl) (HS.out _ hd) (fun hSS => ?_)
      refine wpAnyH_take (i := 0) (v := ?_) rfl (by kernel_rfl) (by kernel_rfl) (by kernel_rfl) (fun _ _ _ h => h) (Or.inl ⟨by rfl, ?_⟩) hSS ?_
      rotate_left 1
      next => intro w hSw; rw [hSe] at hSw; obtain ⟨s1, s2, s3, s4⟩ := hSw; go_simp; try with_reducible rfl
      refine wpAnyH_take (i := 1) (v := ?_) rfl (by kernel_rfl) (by kernel_rfl) (by kernel_rfl) (fun _ _ _ h => h) (Or.inl ⟨by rfl, ?_⟩) hSS ?_
      rotate_left 1
      next => intro w hSw; rw [hSe] at hSw; obtain ⟨s1, s2, s3, s4⟩ := hSw; go_simp; try with_reducible rfl
      refine wpAnyH_take (i := 2) (v := ?_) rfl (by kernel_rfl) (by kernel_rfl) (by kernel_rfl) (fun _ _ _ h => h) (Or.inl ⟨by rfl, ?_⟩) hSS ?_
      rotate_left 1
      next => intro w hSw; rw [hSe] at hSw; obtain ⟨s1, s2, s3, s4⟩ := hSw; go_simp; try with_reducible rfl
      refine wpAnyH_take (i := 3) (v := ?_) rfl (by kernel_rfl) (by kernel_rfl) (by kernel_rfl) (fun _ _ _ h => h) (Or.inl ⟨by rfl, ?_⟩) hSS ?_
      rotate_left 1
      next => intro w hSw; rw [hSe] at hSw; obtain ⟨s1, s2, s3, s4⟩ := hSw; go_simp; try with_reducible rfl
      refine wpAnyH_take (i := 4) (v := ?_) rfl (by kernel_rfl) (by kernel_rfl) (by kernel_rfl) (fun _ _ _ h => h) (Or.inl ⟨by rfl, ?_⟩) hSS ?_
      rotate_left 1
      next => intro w hSw; rw [hSe] at hSw; obtain ⟨s1, s2, s3, s4⟩ := hSw; go_simp; try with_reducible rfl
      refine wpAnyH_take (i := 5) (v := ?_) rfl (by kernel_rfl) (by kernel_rfl) (by kernel_rfl) (fun _ _ _ h => h) (Or.inl ⟨by rfl, ?_⟩) hSS ?_
      rotate_left 1
      next => intro w hSw; rw [hSe] at hSw; obtain ⟨s1, s2, s3, s4⟩ := hSw; go_simp; try with_reducible rfl
      try simp only [Act.put, List.getElem_toArray, List.getElem_cons_zero, List.getElem_cons_succ, List.setIfInBounds_toArray, List.set_cons_zero, List.set_cons_succ]
      refine wpAnyH_ready (rs := [6]) (by kernel_rfl) (by simp) ?_
      refine AllReadyH.cons rfl (fun K hK => ?_) AllReadyH.nil
      go_simp
      refine (HAm.out _).mono ?_
      rintro e W1 ⟨rfl, hbc⟩
      have hW1 : Below W0.heap.size W0 W1 := hd.trans (hbc.mono hd.size)
      dsimp only
      refine hK.out _ _ (HS.out _ hW1) (fun _ => ?_)
      clear hK K hbc
      refine wpAnyH_take (i := 7) (v := ?_) rfl (by kernel_rfl) (by kernel_rfl) (by kernel_rfl) (fun _ _ _ h => h) (Or.inl ⟨by rfl, ?_⟩) (HS.out _ hW1) ?_
      rotate_left 1
      next => intro w hSw; rw [hSe] at hSw; obtain ⟨s1, s2, s3, s4⟩ := hSw; go_simp; try with_reducible rfl
      have hbr5 := Hbr.out.below hW1 Hbr.out.2.2.2.2
      try simp only [Act.put, List.getElem_toArray, List.getElem_cons_zero, List.getElem_cons_succ, List.setIfInBounds_toArray, List.set_cons_zero, List.set_cons_succ]
      refine wpAnyH_ready (rs := [8]) (by kernel_rfl) (by simp) ?_
      refine AllReadyH.cons rfl (fun K hK => ?_) AllReadyH.nil
      have hq5 := hbr5
      obtain ⟨q0, q1, q2, q3, q4⟩ := hq5
      go_simp
      refine hK.out _ _ (HS2.out _ _ _ (HS.out _ hW1)) (fun _ => ?_)
      clear hK K q0 q1 q2 q3 q4
      refine wpAnyH_done (by kernel_rfl) ?_ _
      have hbr6 := boxp_set hbr5 (.bool X.neg) (.string ⟨(beb (x.natAbs + y.natAbs)).toArray⟩)
      have hbw : Below w.heap.size w ((W1.setCell ⟨gx + 1 + 1, 0, none⟩ (.bool X.neg)).setCell ⟨gx + 1 + 1, 1, none⟩ (.string ⟨(beb (x.natAbs + y.natAbs)).toArray⟩)) := ((Hb.out.trans (hW1.mono Hb.out.size)).setCell (by rw [hgx]; exact Nat.le_add_right gx 2) _).setCell (by rw [hgx]; exact Nat.le_add_right gx 2) _
      obtain ⟨c0, c1, _, _, _⟩ := hbr6
      go_wp2
      refine bodyPost_ret (v := .agg #[.bool X.neg, .string ⟨(beb (x.natAbs + y.natAbs)).toArray⟩]) (by simp [results, Tryd.results61, go_sem, c0, c1]) rfl ⟨by rw [HR.out _ _ HQ.out.1 HQ.out.2], hbw⟩
    · have hsb : (X.neg == Y.neg) = false := by rw [beq_eq_false_iff_ne]; exact hsg
      have HD : Hid ((x < 0 ∧ 0 ≤ y) ∨ (0 ≤ x ∧ y < 0)) := Lib.hid (by
        have h1 := HNx.out
        have h2 := HNy.out
        by_cases hx0 : x < 0
        · rw [decide_eq_true hx0] at h1
          by_cases hy0 : y < 0
          · rw [decide_eq_true hy0] at h2
            exact absurd (h1.trans h2.symm) hsg
          · omega
        · rw [decide_eq_false hx0] at h1
          by_cases hy0 : y < 0
          · omega
          · rw [decide_eq_false hy0] at h2
            exact absurd (h1.trans h2.symm) hsg)
      clear hsg
      rcases Nat.lt_trichotomy x.natAbs y.natAbs with hc | hc | hc
      · have HQ : Hid (Y.neg = decide (x + y < 0) ∧ y.natAbs - x.natAbs = (x + y).natAbs) := Lib.hid (by
          have h2 := HNy.out
          rcases HD.out with ⟨ha, hb⟩ | ⟨ha, hb⟩
          · exact ⟨by rw [h2, decide_eq_false (by omega), decide_eq_false (by omega)], by omega⟩
          · exact ⟨by rw [h2, decide_eq_true hb, decide_eq_true (by omega)], by omega⟩)
        have HSm2 := Lib.hid (HSm2.out (by omega))
        have hcv : cmpV x.natAbs y.natAbs = -1 := by unfold cmpV; rw [if_pos hc]
        rw [hcv] at HCm
        go_wp2_with fail
        refine (HCm.out _).mono ?_
        rintro e _ ⟨rfl, rfl⟩
        dsimp only
        clear hcv HCm
        clear hc
        go_wp2_with fail
        have W0e : ∃ W0, V = W0 := ⟨_, rfl⟩
        obtain ⟨W0, hV⟩ := W0e
        rw [hV] at Hbx Hby Hbr Hb x0 x1 y0 y1 ⊢
        clear hV
        have HS : Hid (∀ W, Below W0.heap.size W0 W → SS W) := Lib.hid (fun W hW => by rw [hSe]; exact ⟨cell_below hW x0, cell_below hW x1, cell_below hW y0, cell_below hW y1⟩)
        have HS2 : Hid (∀ W a b, SS W → SS ((W.setCell ⟨gx + 1 + 1, 0, none⟩ a).setCell ⟨gx + 1 + 1, 1, none⟩ b)) := Lib.hid (fun W a b hW => by
          rw [hSe] at hW ⊢
          obtain ⟨s1, s2, s3, s4⟩ := hW
          refine ⟨?_, ?_, ?_, ?_⟩ <;> (rw [World.cell?_setCell_other _ _ _ _ (by intro hh; simp only [Addr.mk.injEq] at hh; omega), World.cell?_setCell_other _ _ _ _ (by intro hh; simp only [Addr.mk.injEq] at hh; omega)]; assumption))
        have hd : Below W0.heap.size W0 W0.drew := (Below.refl W0.heap.size W0).drew
        clear x0 x1 x2 x3 x4 y0 y1 y2 y3 y4
        refine wp_region_held_drew (S := SS) (by kernel_rfl) (HS.out _ hd) (fun hSS => ?_)
        refine wpAnyH_take (i := 0) (v := ?_) rfl (by kernel_rfl) (by kernel_rfl) (by kernel_rfl) (fun _ _ _ h => h) (Or.inl ⟨by rfl, ?_⟩) hSS ?_
        rotate_left 1
        next => intro w hSw; rw [hSe] at hSw; obtain ⟨s1, s2, s3, s4⟩ := hSw; go_simp; try with_reducible rfl
        refine wpAnyH_take (i := 1) (v := ?_) rfl (by kernel_rfl) (by kernel_rfl) (by kernel_rfl) (fun _ _ _ h => h) (Or.inl ⟨by rfl, ?_⟩) hSS ?_
        rotate_left 1
        next => intro w hSw; rw [hSe] at hSw; obtain ⟨s1, s2, s3, s4⟩ := hSw; go_simp; try with_reducible rfl
        refine wpAnyH_take (i := 2) (v := ?_) rfl (by kernel_rfl) (by kernel_rfl) (by kernel_rfl) (fun _ _ _ h => h) (Or.inl ⟨by rfl, ?_⟩) hSS ?_
        rotate_left 1
        next => intro w hSw; rw [hSe] at hSw; obtain ⟨s1, s2, s3, s4⟩ := hSw; go_simp; try with_reducible rfl
        refine wpAnyH_take (i := 3) (v := ?_) rfl (by kernel_rfl) (by kernel_rfl) (by kernel_rfl) (fun _ _ _ h => h) (Or.inl ⟨by rfl, ?_⟩) hSS ?_
        rotate_left 1
        next => intro w hSw; rw [hSe] at hSw; obtain ⟨s1, s2, s3, s4⟩ := hSw; go_simp; try with_reducible rfl
        refine wpAnyH_take (i := 4) (v := ?_) rfl (by kernel_rfl) (by kernel_rfl) (by kernel_rfl) (fun _ _ _ h => h) (Or.inl ⟨by rfl, ?_⟩) hSS ?_
        rotate_left 1
        next => intro w hSw; rw [hSe] at hSw; obtain ⟨s1, s2, s3, s4⟩ := hSw; go_simp; try with_reducible rfl
        refine wpAnyH_take (i := 5) (v := ?_) rfl (by kernel_rfl) (by kernel_rfl) (by kernel_rfl) (fun _ _ _ h => h) (Or.inl ⟨by rfl, ?_⟩) hSS ?_
        rotate_left 1
        next => intro w hSw; rw [hSe] at hSw; obtain ⟨s1, s2, s3, s4⟩ := hSw; go_simp; try with_reducible rfl
        try simp only [Act.put, List.getElem_toArray, List.getElem_cons_zero, List.getElem_cons_succ, List.setIfInBounds_toArray, List.set_cons_zero, List.set_cons_succ]
        refine wpAnyH_ready (rs := [6]) (by kernel_rfl) (by simp) ?_
        refine AllReadyH.cons rfl (fun K hK => ?_) AllReadyH.nil
        go_simp
        refine (HSm2.out _).mono ?_
        rintro e W1 ⟨rfl, hbc⟩
        have hW1 : Below W0.heap.size W0 W1 := hd.trans (hbc.mono hd.size)
        dsimp only
        refine hK.out _ _ (HS.out _ hW1) (fun _ => ?_)
        clear hK K hbc
        refine wpAnyH_take (i := 7) (v := ?_) rfl (by kernel_rfl) (by kernel_rfl) (by kernel_rfl) (fun _ _ _ h => h) (Or.inl ⟨by rfl, ?_⟩) (HS.out _ hW1) ?_
        rotate_left 1
        next => intro w hSw; rw [hSe] at hSw; obtain ⟨s1, s2, s3, s4⟩ := hSw; go_simp; try with_reducible rfl
        have hbr5 := Hbr.out.below hW1 Hbr.out.2.2.2.2
        try simp only [Act.put, List.getElem_toArray, List.getElem_cons_zero, List.getElem_cons_succ, List.setIfInBounds_toArray, List.set_cons_zero, List.set_cons_succ]
        refine wpAnyH_ready (rs := [8]) (by kernel_rfl) (by simp) ?_
        refine AllReadyH.cons rfl (fun K hK => ?_) AllReadyH.nil
        have hq5 := hbr5
        obtain ⟨q0, q1, q2, q3, q4⟩ := hq5
        go_simp
        refine hK.out _ _ (HS2.out _ _ _ (HS.out _ hW1)) (fun _ => ?_)
        clear hK K q0 q1 q2 q3 q4
        refine wpAnyH_done (by kernel_rfl) ?_ _
        have hbr6 := boxp_set hbr5 (.bool Y.neg) (.string ⟨(beb (y.natAbs - x.natAbs)).toArray⟩)
        have hbw : Below w.heap.size w ((W1.setCell ⟨gx + 1 + 1, 0, none⟩ (.bool Y.neg)).setCell ⟨gx + 1 + 1, 1, none⟩ (.string ⟨(beb (y.natAbs - x.natAbs)).toArray⟩)) := ((Hb.out.trans (hW1.mono Hb.out.size)).setCell (by rw [hgx]; exact Nat.le_add_right gx 2) _).setCell (by rw [hgx]; exact Nat.le_add_right gx 2) _
        obtain ⟨c0, c1, _, _, _⟩ := hbr6
        go_wp2
        refine bodyPost_ret (v := .agg #[.bool Y.neg, .string ⟨(beb (y.natAbs - x.natAbs)).toArray⟩]) (by simp [results, Tryd.results61, go_sem, c0, c1]) rfl ⟨by rw [HR.out _ _ HQ.out.1 HQ.out.2], hbw⟩
      · have HQ : Hid (false = decide (x + y < 0) ∧ 0 = (x + y).natAbs) := Lib.hid (by
          rcases HD.out with ⟨ha, hb⟩ | ⟨ha, hb⟩
          · exact ⟨by rw [decide_eq_false (by omega)], by omega⟩
          · exact ⟨by rw [decide_eq_false (by omega)], by omega⟩)
        have hcv : cmpV x.natAbs y.natAbs = 0 := by unfold cmpV; rw [if_neg (by omega), if_neg (by omega)]
        rw [hcv] at HCm
        go_wp2_with fail
        refine (HCm.out _).mono ?_
        rintro e _ ⟨rfl, rfl⟩
        dsimp only
        clear hcv HCm
        clear hc
        obtain ⟨r0, r1, r2, r3, r4⟩ := Hbr.out
        have hbr6 := boxp_set Hbr.out (.bool false) (.string ⟨#[]⟩)
        have hbw : Below w.heap.size w ((V.setCell ⟨gx + 1 + 1, 0, none⟩ (.bool false)).setCell ⟨gx + 1 + 1, 1, none⟩ (.string ⟨#[]⟩)) := (Hb.out.setCell (by rw [hgx]; exact Nat.le_add_right gx 2) _).setCell (by rw [hgx]; exact Nat.le_add_right gx 2) _
        obtain ⟨c0, c1, _, _, _⟩ := hbr6
        go_wp2
        refine bodyPost_ret (v := .agg #[.bool false, .string ⟨#[]⟩]) (by simp [results, Tryd.results61, go_sem, c0, c1]) rfl ⟨by rw [← HR.out _ _ HQ.out.1 HQ.out.2]; rfl, hbw⟩
      · have HQ : Hid (X.neg = decide (x + y < 0) ∧ x.natAbs - y.natAbs = (x + y).natAbs) := Lib.hid (by
          have h2 := HNx.out
          rcases HD.out with ⟨ha, hb⟩ | ⟨ha, hb⟩
          · exact ⟨by rw [h2, decide_eq_true ha, decide_eq_true (by omega)], by omega⟩
          · exact ⟨by rw [h2, decide_eq_false (by omega), decide_eq_false (by omega)], by omega⟩)
        have HSm1 := Lib.hid (HSm1.out (by omega))
        have hcv : cmpV x.natAbs y.natAbs = 1 := by unfold cmpV; rw [if_neg (by omega), if_pos hc]
        rw [hcv] at HCm
        go_wp2_with fail
        refine (HCm.out _).mono ?_
        rintro e _ ⟨rfl, rfl⟩
        dsimp only
        clear hcv HCm
        clear hc
        go_wp2_with fail
        have W0e : ∃ W0, V = W0 := ⟨_, rfl⟩
        obtain ⟨W0, hV⟩ := W0e
        rw [hV] at Hbx Hby Hbr Hb x0 x1 y0 y1 ⊢
        clear hV
        have HS : Hid (∀ W, Below W0.heap.size W0 W → SS W) := Lib.hid (fun W hW => by rw [hSe]; exact ⟨cell_below hW x0, cell_below hW x1, cell_below hW y0, cell_below hW y1⟩)
        have HS2 : Hid (∀ W a b, SS W → SS ((W.setCell ⟨gx + 1 + 1, 0, none⟩ a).setCell ⟨gx + 1 + 1, 1, none⟩ b)) := Lib.hid (fun W a b hW => by
          rw [hSe] at hW ⊢
          obtain ⟨s1, s2, s3, s4⟩ := hW
          refine ⟨?_, ?_, ?_, ?_⟩ <;> (rw [World.cell?_setCell_other _ _ _ _ (by intro hh; simp only [Addr.mk.injEq] at hh; omega), World.cell?_setCell_other _ _ _ _ (by intro hh; simp only [Addr.mk.injEq] at hh; omega)]; assumption))
        have hd : Below W0.heap.size W0 W0.drew := (Below.refl W0.heap.size W0).drew
        clear x0 x1 x2 x3 x4 y0 y1 y2 y3 y4
        refine wp_region_held_drew (S := SS) (by kernel_rfl) (HS.out _ hd) (fun hSS => ?_)
        refine wpAnyH_take (i := 0) (v := ?_) rfl (by kernel_rfl) (by kernel_rfl) (by kernel_rfl) (fun _ _ _ h => h) (Or.inl ⟨by rfl, ?_⟩) hSS ?_
        rotate_left 1
        next => intro w hSw; rw [hSe] at hSw; obtain ⟨s1, s2, s3, s4⟩ := hSw; go_simp; try with_reducible rfl
        refine wpAnyH_take (i := 1) (v := ?_) rfl (by kernel_rfl) (by kernel_rfl) (by kernel_rfl) (fun _ _ _ h => h) (Or.inl ⟨by rfl, ?_⟩) hSS ?_
        rotate_left 1
        next => intro w hSw; rw [hSe] at hSw; obtain ⟨s1, s2, s3, s4⟩ := hSw; go_simp; try with_reducible rfl
        refine wpAnyH_take (i := 2) (v := ?_) rfl (by kernel_rfl) (by kernel_rfl) (by kernel_rfl) (fun _ _ _ h => h) (Or.inl ⟨by rfl, ?_⟩) hSS ?_
        rotate_left 1
        next => intro w hSw; rw [hSe] at hSw; obtain ⟨s1, s2, s3, s4⟩ := hSw; go_simp; try with_reducible rfl
        refine wpAnyH_take (i := 3) (v := ?_) rfl (by kernel_rfl) (by kernel_rfl) (by kernel_rfl) (fun _ _ _ h => h) (Or.inl ⟨by rfl, ?_⟩) hSS ?_
        rotate_left 1
        next => intro w hSw; rw [hSe] at hSw; obtain ⟨s1, s2, s3, s4⟩ := hSw; go_simp; try with_reducible rfl
        refine wpAnyH_take (i := 4) (v := ?_) rfl (by kernel_rfl) (by kernel_rfl) (by kernel_rfl) (fun _ _ _ h => h) (Or.inl ⟨by rfl, ?_⟩) hSS ?_
        rotate_left 1
        next => intro w hSw; rw [hSe] at hSw; obtain ⟨s1, s2, s3, s4⟩ := hSw; go_simp; try with_reducible rfl
        refine wpAnyH_take (i := 5) (v := ?_) rfl (by kernel_rfl) (by kernel_rfl) (by kernel_rfl) (fun _ _ _ h => h) (Or.inl ⟨by rfl, ?_⟩) hSS ?_
        rotate_left 1
        next => intro w hSw; rw [hSe] at hSw; obtain ⟨s1, s2, s3, s4⟩ := hSw; go_simp; try with_reducible rfl
        try simp only [Act.put, List.getElem_toArray, List.getElem_cons_zero, List.getElem_cons_succ, List.setIfInBounds_toArray, List.set_cons_zero, List.set_cons_succ]
        refine wpAnyH_ready (rs := [6]) (by kernel_rfl) (by simp) ?_
        refine AllReadyH.cons rfl (fun K hK => ?_) AllReadyH.nil
        go_simp
        refine (HSm1.out _).mono ?_
        rintro e W1 ⟨rfl, hbc⟩
        have hW1 : Below W0.heap.size W0 W1 := hd.trans (hbc.mono hd.size)
        dsimp only
        refine hK.out _ _ (HS.out _ hW1) (fun _ => ?_)
        clear hK K hbc
        refine wpAnyH_take (i := 7) (v := ?_) rfl (by kernel_rfl) (by kernel_rfl) (by kernel_rfl) (fun _ _ _ h => h) (Or.inl ⟨by rfl, ?_⟩) (HS.out _ hW1) ?_
        rotate_left 1
        next => intro w hSw; rw [hSe] at hSw; obtain ⟨s1, s2, s3, s4⟩ := hSw; go_simp; try with_reducible rfl
        have hbr5 := Hbr.out.below hW1 Hbr.out.2.2.2.2
        try simp only [Act.put, List.getElem_toArray, List.getElem_cons_zero, List.getElem_cons_succ, List.setIfInBounds_toArray, List.set_cons_zero, List.set_cons_succ]
        refine wpAnyH_ready (rs := [8]) (by kernel_rfl) (by simp) ?_
        refine AllReadyH.cons rfl (fun K hK => ?_) AllReadyH.nil
        have hq5 := hbr5
        obtain ⟨q0, q1, q2, q3, q4⟩ := hq5
        go_simp
        refine hK.out _ _ (HS2.out _ _ _ (HS.out _ hW1)) (fun _ => ?_)
        clear hK K q0 q1 q2 q3 q4
        refine wpAnyH_done (by kernel_rfl) ?_ _
        have hbr6 := boxp_set hbr5 (.bool X.neg) (.string ⟨(beb (x.natAbs - y.natAbs)).toArray⟩)
        have hbw : Below w.heap.size w ((W1.setCell ⟨gx + 1 + 1, 0, none⟩ (.bool X.neg)).setCell ⟨gx + 1 + 1, 1, none⟩ (.string ⟨(beb (x.natAbs - y.natAbs)).toArray⟩)) := ((Hb.out.trans (hW1.mono Hb.out.size)).setCell (by rw [hgx]; exact Nat.le_add_right gx 2) _).setCell (by rw [hgx]; exact Nat.le_add_right gx 2) _
        obtain ⟨c0, c1, _, _, _⟩ := hbr6
        go_wp2
        refine bodyPost_ret (v := .agg #[.bool X.neg, .string ⟨(beb (x.natAbs - y.natAbs)).toArray⟩]) (by simp [results, Tryd.results61, go_sem, c0, c1]) rfl ⟨by rw [HR.out _ _ HQ.out.1 HQ.out.2], hbw⟩
end Go.Proofs.YteoemijgdcpopaaDoor
