/- grooveref01: Add, Mul at any numbers. -/
import Derived.Test.YtmbamcpndbimaaaGreatDoorJ27
import Derived.Test.YtmbamcpndbimaaaGreatDoorJ15
namespace Go.Proofs.YtmbamcpndbimaaaGreatDoor
open List renaming getElem_toArray → ny1, getElem_cons_zero → ny2, getElem_cons_succ → ny3, setIfInBounds_toArray → ny4, set_cons_zero → ny5, set_cons_succ → ny6
open Go.RowKit Go.Shelf
theorem BoxAt.drz {w : World} {g : Nat} {a b : Value} (h : BoxAt w g a b) : BoxAt w.drew g a b := h
set_option maxRecDepth 100000 in
set_option maxHeartbeats 8000000 in
theorem refAddZ_any (zx zy : ZI) (hzx : zx.mag.size < 100000000) (hzy : zy.mag.size < 100000000) (x y : Int) (hvx : valZ zx = x) (hvy : valZ zy = y) (w : World) :
  Calls Tryz.prog 48 #[.agg #[.bool zx.neg, .string zx.mag], .agg #[.bool zy.neg, .string zy.mag]] w (RetZ (canon (x + y)) w) := by
 have hx : (canon x).mag.size < 100000000 := by rw [← hvx]; exact Nat.lt_of_le_of_lt (canon_size_le zx) hzx
 have hy : (canon y).mag.size < 100000000 := by rw [← hvy]; exact Nat.lt_of_le_of_lt (canon_size_le zy) hzy
 have hcx := fun W => refCanonical_any zx (by omega) W
 have hcy := fun W => refCanonical_any zy (by omega) W
 rw [hvx] at hcx
 rw [hvy] at hcy
 have HCx := lhd hcx
 have HCy := lhd hcy
 clear hcx hcy
 have hbx := BoxAt.new w (.bool zx.neg) (.string zx.mag) 24
 have hby := BoxAt.new (w.alloc (.cells #[.bool zx.neg, .string zx.mag] 24)) (.bool zy.neg) (.string zy.mag) 24
 have hbr := BoxAt.new ((w.alloc (.cells #[.bool zx.neg, .string zx.mag] 24)).alloc (.cells #[.bool zy.neg, .string zy.mag] 24)) (.bool false) (.string ⟨#[]⟩) 24
 have hbx := (hbx.alloc (.cells #[.bool zy.neg, .string zy.mag] 24)).alloc (.cells #[.bool false, .string ⟨#[]⟩] 24)
 have hby := hby.alloc (.cells #[.bool false, .string ⟨#[]⟩] 24)
 rw [World.size_alloc] at hby
 rw [World.size_alloc, World.size_alloc] at hbr
 have hb0 : Below w.heap.size w (((w.alloc (.cells #[.bool zx.neg, .string zx.mag] 24)).alloc (.cells #[.bool zy.neg, .string zy.mag] 24)).alloc (.cells #[.bool false, .string ⟨#[]⟩] 24)) := (((Below.refl _ w).alloc (Nat.le_refl _) _).alloc (by simp) _).alloc (by simp; omega) _
 have HVx := lhd (fun (h : (canon x).mag.size ≤ 7) W => refValue_any x h W)
 have HVy := lhd (fun (h : (canon y).mag.size ≤ 7) W => refValue_any y h W)
 have hBx := canon_bval x
 have hBy := canon_bval y
 have hNx := canon_neg x
 have hNy := canon_neg y
 have HAm := lhd (fun W => refAddMag_any (canon x).mag (canon y).mag hx hy W)
 have HSm1 := lhd (fun (h : y.natAbs ≤ x.natAbs) W => refSubMag_any (canon x).mag (canon y).mag (by omega) (by
  show (beb y.natAbs).toArray.size ≤ (beb x.natAbs).toArray.size
  rw [List.size_toArray, List.size_toArray]
  refine Nat.le_of_not_lt fun hh => ?_
  have := beb_short hh
  omega) (by rw [hBx, hBy]; exact h) W)
 have HSm2 := lhd (fun (h : x.natAbs ≤ y.natAbs) W => refSubMag_any (canon y).mag (canon x).mag (by omega) (by
  show (beb x.natAbs).toArray.size ≤ (beb y.natAbs).toArray.size
  rw [List.size_toArray, List.size_toArray]
  refine Nat.le_of_not_lt fun hh => ?_
  have := beb_short hh
  omega) (by rw [hBx, hBy]; exact h) W)
 rw [hBx, hBy] at HAm HSm1
 rw [hBx, hBy] at HSm2
 have HCm : Hid (∀ W, Calls Tryz.prog 84 #[.string (canon x).mag, .string (canon y).mag] W fun e w' => e = .returned (.int .i64 (cmpV x.natAbs y.natAbs)) ∧ W = w') := lhd (fun W => refCmpMag_any x.natAbs y.natAbs W)
 have HOf := lhd (fun (h1 : (canon x).mag.size ≤ 7) (h2 : (canon y).mag.size ≤ 7) W => refOfInt_any (x + y) (by have := small_lt h1; have := small_lt h2; omega) (by have := small_lt h1; have := small_lt h2; omega) W)
 have HSl := lhd (fun (h1 : (canon x).mag.size ≤ 7) (h2 : (canon y).mag.size ≤ 7) => And.intro (small_lt h1) (small_lt h2))
 have HR : Hid (∀ (a : Bool) (m : Nat), a = decide (x + y < 0) → m = (x + y).natAbs → (.agg #[.bool a, .string ⟨(beb m).toArray⟩] : Value) = .agg #[.bool (canon (x + y)).neg, .string (canon (x + y)).mag]) := lhd (fun a m ha hm => by rw [ha, hm]; rfl)
 have Hzero : Hid ((.string ⟨#[]⟩ : Value) = .string ⟨(beb 0).toArray⟩) := lhd rfl
 obtain ⟨X, hX⟩ : ∃ Z, canon x = Z := ⟨_, rfl⟩
 obtain ⟨Y, hY⟩ : ∃ Z, canon y = Z := ⟨_, rfl⟩
 obtain ⟨R, hR⟩ : ∃ Z, canon (x + y) = Z := ⟨_, rfl⟩
 rw [hX] at HVx HAm HSm1 HSm2 HCm HOf HSl HCx hNx hx
 rw [hY] at HVy HAm HSm1 HSm2 HCm HOf HSl HCy hNy hy
 rw [hR] at HOf HR ⊢
 have HNx := lhd hNx
 have HNy := lhd hNy
 clear hX hY hR hBx hBy hNx hNy
 obtain ⟨W0, hW0⟩ : ∃ W, (((w.alloc (.cells #[.bool zx.neg, .string zx.mag] 24)).alloc (.cells #[.bool zy.neg, .string zy.mag] 24)).alloc (.cells #[.bool false, .string ⟨#[]⟩] 24)) = W := ⟨_, rfl⟩
 rw [hW0] at hbx hby hbr hb0
 have Hbx := lhd hbx
 have Hby := lhd hby
 have Hbr := lhd hbr
 have Hb0 := lhd hb0
 have HW0 := lhd hW0
 clear hbx hby hbr hb0 hW0
 go_enter Tryz.func48, Tryz.ntmps48
 go_wp2_with fail
 rw [HW0.out]
 clear HW0
 obtain ⟨gx, hgx⟩ : ∃ g, w.heap.size = g := ⟨_, rfl⟩
 rw [hgx] at Hbx Hby Hbr ⊢
 obtain ⟨SS, hSe⟩ : ∃ SS : World → Prop, SS = fun W => W.cell? ⟨gx, 0, none⟩ = some (.bool X.neg) ∧ W.cell? ⟨gx, 1, none⟩ = some (.string X.mag) ∧ W.cell? ⟨gx + 1, 0, none⟩ = some (.bool Y.neg) ∧ W.cell? ⟨gx + 1, 1, none⟩ = some (.string Y.mag) := ⟨_, rfl⟩
 have HSB : Hid (∀ W, BoxAt W gx (.bool X.neg) (.string X.mag) → BoxAt W (gx + 1) (.bool Y.neg) (.string Y.mag) → SS W) := lhd (fun W h1 h2 => by rw [hSe]; exact ⟨h1.1, h1.2.1, h2.1, h2.2.1⟩)
 have n01 : gx ≠ gx + 1 := by omega
 have n10 : gx + 1 ≠ gx := by omega
 have n02 : gx ≠ gx + 1 + 1 := by omega
 have n12 : gx + 1 ≠ gx + 1 + 1 := by omega
 have l0 : w.heap.size ≤ gx := by omega
 have l1 : w.heap.size ≤ gx + 1 := by omega
 have Hgx := lhd hgx
 clear hgx
 go_cut [7] (fun _ wx => Hid (BoxAt wx gx (.bool X.neg) (.string X.mag)) ∧ Hid (BoxAt wx (gx + 1) (.bool Y.neg) (.string Y.mag)) ∧ Hid (BoxAt wx (gx + 1 + 1) (.bool false) (.string ⟨#[]⟩)) ∧ Hid (Below w.heap.size w wx))
 case first =>
  refine wp_region_held_drew (S := fun _ => True) (by kernel_rfl) trivial (fun _ => ?_)
  have A_q1 := lhd (BoxAt.drz Hbx.out)
  have B_q1 := lhd (BoxAt.drz Hby.out)
  have Z_q1 := lhd (Hb0.out.drew)
  have R_q1 := lhd (BoxAt.drz Hbr.out)
  try simp only [Act.put, ny1, ny2, ny3, ny4, ny5, ny6]
  refine wpAnyH_ready (rs := [0, 2]) (by kernel_rfl) (by simp) ?_
  refine AllReadyH.cons rfl (fun K hK => ?_) (AllReadyH.cons rfl (fun K hK => ?_) AllReadyH.nil)
  ·obtain ⟨z0, z1, _, _, _⟩ := A_q1.out
   go_simp
   refine hK.out _ _ trivial (fun _ => ?_)
   clear hK K z0 z1
   try simp only [Act.put, ny1, ny2, ny3, ny4, ny5, ny6]
   refine wpAnyH_ready (rs := [1, 2]) (by kernel_rfl) (by simp) ?_
   refine AllReadyH.cons rfl (fun K hK => ?_) (AllReadyH.cons rfl (fun K hK => ?_) AllReadyH.nil)
   ·go_simp
    refine (HCx.out _).mono ?_
    rintro e wq2 ⟨rfl, hbc⟩
    have A_q2 := lhd (A_q1.out.below hbc A_q1.out.2.2.2.2)
    have B_q2 := lhd (B_q1.out.below hbc B_q1.out.2.2.2.2)
    have Z_q2 := lhd (Z_q1.out.trans (hbc.mono Z_q1.out.size))
    have R_q2 := lhd (R_q1.out.below hbc R_q1.out.2.2.2.2)
    dsimp only
    refine hK.out _ _ trivial (fun _ => ?_)
    clear hK K hbc
    try simp only [Act.put, ny1, ny2, ny3, ny4, ny5, ny6]
    refine wpAnyH_ready (rs := [2]) (by kernel_rfl) (by simp) ?_
    refine AllReadyH.cons rfl (fun K hK => ?_) AllReadyH.nil
    obtain ⟨z0, z1, _, _, _⟩ := B_q2.out
    go_simp
    refine hK.out _ _ trivial (fun _ => ?_)
    clear hK K z0 z1
    try simp only [Act.put, ny1, ny2, ny3, ny4, ny5, ny6]
    refine wpAnyH_ready (rs := [3]) (by kernel_rfl) (by simp) ?_
    refine AllReadyH.cons rfl (fun K hK => ?_) AllReadyH.nil
    go_simp
    refine (HCy.out _).mono ?_
    rintro e wq3 ⟨rfl, hbc⟩
    have A_q3 := lhd (A_q2.out.below hbc A_q2.out.2.2.2.2)
    have B_q3 := lhd (B_q2.out.below hbc B_q2.out.2.2.2.2)
    have Z_q3 := lhd (Z_q2.out.trans (hbc.mono Z_q2.out.size))
    have R_q3 := lhd (R_q2.out.below hbc R_q2.out.2.2.2.2)
    dsimp only
    refine hK.out _ _ trivial (fun _ => ?_)
    clear hK K hbc
    try simp only [Act.put, ny1, ny2, ny3, ny4, ny5, ny6]
    refine wpAnyH_ready (rs := [4]) (by kernel_rfl) (by simp) ?_
    refine AllReadyH.cons rfl (fun K hK => ?_) AllReadyH.nil
    obtain ⟨z0, z1, z2, z3, _⟩ := A_q3.out
    have A_q4 := lhd (A_q3.out.set2 (.bool X.neg) (.string X.mag))
    have B_q4 := lhd (((B_q3.out).far ⟨gx, 0, none⟩ (.bool X.neg) n01).far ⟨gx, 1, none⟩ (.string X.mag) n01)
    have Z_q4 := lhd (((Z_q3.out).setCell (p := ⟨gx, 0, none⟩) l0 (.bool X.neg)).setCell (p := ⟨gx, 1, none⟩) l0 (.string X.mag))
    have R_q4 := lhd (((R_q3.out).far ⟨gx, 0, none⟩ (.bool X.neg) n02).far ⟨gx, 1, none⟩ (.string X.mag) n02)
    go_simp
    refine hK.out _ _ trivial (fun _ => ?_)
    clear hK K z0 z1 z2 z3
    try simp only [Act.put, ny1, ny2, ny3, ny4, ny5, ny6]
    refine wpAnyH_ready (rs := [5]) (by kernel_rfl) (by simp) ?_
    refine AllReadyH.cons rfl (fun K hK => ?_) AllReadyH.nil
    obtain ⟨z0, z1, z2, z3, _⟩ := B_q4.out
    have A_q5 := lhd (((A_q4.out).far ⟨(gx + 1), 0, none⟩ (.bool Y.neg) n10).far ⟨(gx + 1), 1, none⟩ (.string Y.mag) n10)
    have B_q5 := lhd (B_q4.out.set2 (.bool Y.neg) (.string Y.mag))
    have Z_q5 := lhd (((Z_q4.out).setCell (p := ⟨(gx + 1), 0, none⟩) l1 (.bool Y.neg)).setCell (p := ⟨(gx + 1), 1, none⟩) l1 (.string Y.mag))
    have R_q5 := lhd (((R_q4.out).far ⟨(gx + 1), 0, none⟩ (.bool Y.neg) n12).far ⟨(gx + 1), 1, none⟩ (.string Y.mag) n12)
    go_simp
    refine hK.out _ _ trivial (fun _ => ?_)
    clear hK K z0 z1 z2 z3
    refine wpAnyH_done (by kernel_rfl) ?_ _
    go_wp2_with fail
    go_meet
    exact ⟨A_q5, B_q5, R_q5, Z_q5⟩
   ·obtain ⟨z0, z1, _, _, _⟩ := B_q1.out
    go_simp
    refine hK.out _ _ trivial (fun _ => ?_)
    clear hK K z0 z1
    try simp only [Act.put, ny1, ny2, ny3, ny4, ny5, ny6]
    refine wpAnyH_ready (rs := [1]) (by kernel_rfl) (by simp) ?_
    refine AllReadyH.cons rfl (fun K hK => ?_) AllReadyH.nil
    go_simp
    refine (HCx.out _).mono ?_
    rintro e wq6 ⟨rfl, hbc⟩
    have A_q6 := lhd (A_q1.out.below hbc A_q1.out.2.2.2.2)
    have B_q6 := lhd (B_q1.out.below hbc B_q1.out.2.2.2.2)
    have Z_q6 := lhd (Z_q1.out.trans (hbc.mono Z_q1.out.size))
    have R_q6 := lhd (R_q1.out.below hbc R_q1.out.2.2.2.2)
    dsimp only
    refine hK.out _ _ trivial (fun _ => ?_)
    clear hK K hbc
    try simp only [Act.put, ny1, ny2, ny3, ny4, ny5, ny6]
    refine wpAnyH_ready (rs := [3]) (by kernel_rfl) (by simp) ?_
    refine AllReadyH.cons rfl (fun K hK => ?_) AllReadyH.nil
    go_simp
    refine (HCy.out _).mono ?_
    rintro e wq7 ⟨rfl, hbc⟩
    have A_q7 := lhd (A_q6.out.below hbc A_q6.out.2.2.2.2)
    have B_q7 := lhd (B_q6.out.below hbc B_q6.out.2.2.2.2)
    have Z_q7 := lhd (Z_q6.out.trans (hbc.mono Z_q6.out.size))
    have R_q7 := lhd (R_q6.out.below hbc R_q6.out.2.2.2.2)
    dsimp only
    refine hK.out _ _ trivial (fun _ => ?_)
    clear hK K hbc
    try simp only [Act.put, ny1, ny2, ny3, ny4, ny5, ny6]
    refine wpAnyH_ready (rs := [4]) (by kernel_rfl) (by simp) ?_
    refine AllReadyH.cons rfl (fun K hK => ?_) AllReadyH.nil
    obtain ⟨z0, z1, z2, z3, _⟩ := A_q7.out
    have A_q8 := lhd (A_q7.out.set2 (.bool X.neg) (.string X.mag))
    have B_q8 := lhd (((B_q7.out).far ⟨gx, 0, none⟩ (.bool X.neg) n01).far ⟨gx, 1, none⟩ (.string X.mag) n01)
    have Z_q8 := lhd (((Z_q7.out).setCell (p := ⟨gx, 0, none⟩) l0 (.bool X.neg)).setCell (p := ⟨gx, 1, none⟩) l0 (.string X.mag))
    have R_q8 := lhd (((R_q7.out).far ⟨gx, 0, none⟩ (.bool X.neg) n02).far ⟨gx, 1, none⟩ (.string X.mag) n02)
    go_simp
    refine hK.out _ _ trivial (fun _ => ?_)
    clear hK K z0 z1 z2 z3
    try simp only [Act.put, ny1, ny2, ny3, ny4, ny5, ny6]
    refine wpAnyH_ready (rs := [5]) (by kernel_rfl) (by simp) ?_
    refine AllReadyH.cons rfl (fun K hK => ?_) AllReadyH.nil
    obtain ⟨z0, z1, z2, z3, _⟩ := B_q8.out
    have A_q9 := lhd (((A_q8.out).far ⟨(gx + 1), 0, none⟩ (.bool Y.neg) n10).far ⟨(gx + 1), 1, none⟩ (.string Y.mag) n10)
    have B_q9 := lhd (B_q8.out.set2 (.bool Y.neg) (.string Y.mag))
    have Z_q9 := lhd (((Z_q8.out).setCell (p := ⟨(gx + 1), 0, none⟩) l1 (.bool Y.neg)).setCell (p := ⟨(gx + 1), 1, none⟩) l1 (.string Y.mag))
    have R_q9 := lhd (((R_q8.out).far ⟨(gx + 1), 0, none⟩ (.bool Y.neg) n12).far ⟨(gx + 1), 1, none⟩ (.string Y.mag) n12)
    go_simp
    refine hK.out _ _ trivial (fun _ => ?_)
    clear hK K z0 z1 z2 z3
    refine wpAnyH_done (by kernel_rfl) ?_ _
    go_wp2_with fail
    go_meet
    exact ⟨A_q9, B_q9, R_q9, Z_q9⟩
  ·obtain ⟨z0, z1, _, _, _⟩ := B_q1.out
   go_simp
   refine hK.out _ _ trivial (fun _ => ?_)
   clear hK K z0 z1
   try simp only [Act.put, ny1, ny2, ny3, ny4, ny5, ny6]
   refine wpAnyH_ready (rs := [0]) (by kernel_rfl) (by simp) ?_
   refine AllReadyH.cons rfl (fun K hK => ?_) AllReadyH.nil
   obtain ⟨z0, z1, _, _, _⟩ := A_q1.out
   go_simp
   refine hK.out _ _ trivial (fun _ => ?_)
   clear hK K z0 z1
   try simp only [Act.put, ny1, ny2, ny3, ny4, ny5, ny6]
   refine wpAnyH_ready (rs := [1]) (by kernel_rfl) (by simp) ?_
   refine AllReadyH.cons rfl (fun K hK => ?_) AllReadyH.nil
   go_simp
   refine (HCx.out _).mono ?_
   rintro e wq10 ⟨rfl, hbc⟩
   have A_q10 := lhd (A_q1.out.below hbc A_q1.out.2.2.2.2)
   have B_q10 := lhd (B_q1.out.below hbc B_q1.out.2.2.2.2)
   have Z_q10 := lhd (Z_q1.out.trans (hbc.mono Z_q1.out.size))
   have R_q10 := lhd (R_q1.out.below hbc R_q1.out.2.2.2.2)
   dsimp only
   refine hK.out _ _ trivial (fun _ => ?_)
   clear hK K hbc
   try simp only [Act.put, ny1, ny2, ny3, ny4, ny5, ny6]
   refine wpAnyH_ready (rs := [3]) (by kernel_rfl) (by simp) ?_
   refine AllReadyH.cons rfl (fun K hK => ?_) AllReadyH.nil
   go_simp
   refine (HCy.out _).mono ?_
   rintro e wq11 ⟨rfl, hbc⟩
   have A_q11 := lhd (A_q10.out.below hbc A_q10.out.2.2.2.2)
   have B_q11 := lhd (B_q10.out.below hbc B_q10.out.2.2.2.2)
   have Z_q11 := lhd (Z_q10.out.trans (hbc.mono Z_q10.out.size))
   have R_q11 := lhd (R_q10.out.below hbc R_q10.out.2.2.2.2)
   dsimp only
   refine hK.out _ _ trivial (fun _ => ?_)
   clear hK K hbc
   try simp only [Act.put, ny1, ny2, ny3, ny4, ny5, ny6]
   refine wpAnyH_ready (rs := [4]) (by kernel_rfl) (by simp) ?_
   refine AllReadyH.cons rfl (fun K hK => ?_) AllReadyH.nil
   obtain ⟨z0, z1, z2, z3, _⟩ := A_q11.out
   have A_q12 := lhd (A_q11.out.set2 (.bool X.neg) (.string X.mag))
   have B_q12 := lhd (((B_q11.out).far ⟨gx, 0, none⟩ (.bool X.neg) n01).far ⟨gx, 1, none⟩ (.string X.mag) n01)
   have Z_q12 := lhd (((Z_q11.out).setCell (p := ⟨gx, 0, none⟩) l0 (.bool X.neg)).setCell (p := ⟨gx, 1, none⟩) l0 (.string X.mag))
   have R_q12 := lhd (((R_q11.out).far ⟨gx, 0, none⟩ (.bool X.neg) n02).far ⟨gx, 1, none⟩ (.string X.mag) n02)
   go_simp
   refine hK.out _ _ trivial (fun _ => ?_)
   clear hK K z0 z1 z2 z3
   try simp only [Act.put, ny1, ny2, ny3, ny4, ny5, ny6]
   refine wpAnyH_ready (rs := [5]) (by kernel_rfl) (by simp) ?_
   refine AllReadyH.cons rfl (fun K hK => ?_) AllReadyH.nil
   obtain ⟨z0, z1, z2, z3, _⟩ := B_q12.out
   have A_q13 := lhd (((A_q12.out).far ⟨(gx + 1), 0, none⟩ (.bool Y.neg) n10).far ⟨(gx + 1), 1, none⟩ (.string Y.mag) n10)
   have B_q13 := lhd (B_q12.out.set2 (.bool Y.neg) (.string Y.mag))
   have Z_q13 := lhd (((Z_q12.out).setCell (p := ⟨(gx + 1), 0, none⟩) l1 (.bool Y.neg)).setCell (p := ⟨(gx + 1), 1, none⟩) l1 (.string Y.mag))
   have R_q13 := lhd (((R_q12.out).far ⟨(gx + 1), 0, none⟩ (.bool Y.neg) n12).far ⟨(gx + 1), 1, none⟩ (.string Y.mag) n12)
   go_simp
   refine hK.out _ _ trivial (fun _ => ?_)
   clear hK K z0 z1 z2 z3
   refine wpAnyH_done (by kernel_rfl) ?_ _
   go_wp2_with fail
   go_meet
   exact ⟨A_q13, B_q13, R_q13, Z_q13⟩
 obtain ⟨Hbx, Hby, Hbr, Hb⟩ := hcut
 clear n01 n10 n02 n12 l0 l1
 have hgx := Hgx.out
 generalize wc = V at *
 clear HCx HCy Hb0
 obtain ⟨x0, x1, x2, x3, x4⟩ := Hbx.out
 obtain ⟨y0, y1, y2, y3, y4⟩ := Hby.out
 by_cases hbx7 : X.mag.size < 8
 ·have i7x : (X.mag.size : Int) < 8 := by omega
  by_cases hby7 : Y.mag.size < 8
  ·have i7y : (Y.mag.size : Int) < 8 := by omega
   have hsl := HSl.out (by omega) (by omega)
   have hwr : IntKind.i64.wrap (x + y) = x + y := IntWalk.i64_in _ (by omega)
   go_wp2_with fail
   have W0e : ∃ W0, V = W0 := ⟨_, rfl⟩
   obtain ⟨W0, hV⟩ := W0e
   rw [hV] at Hbx Hby Hbr Hb x0 x1 y0 y1 ⊢
   clear hV
   have HS : Hid (∀ W, Below W0.heap.size W0 W → SS W) := lhd (fun W hW => by rw [hSe]; exact ⟨cell_below hW x0, cell_below hW x1, cell_below hW y0, cell_below hW y1⟩)
   have HS2 : Hid (∀ W a b, SS W → SS ((W.setCell ⟨gx + 1 + 1, 0, none⟩ a).setCell ⟨gx + 1 + 1, 1, none⟩ b)) := lhd (fun W a b hW => by
    rw [hSe] at hW ⊢
    obtain ⟨s1, s2, s3, s4⟩ := hW
    refine ⟨?_, ?_, ?_, ?_⟩ <;> (rw [World.cell?_setCell_other _ _ _ _ (by intro hh; simp only [Addr.mk.injEq] at hh; omega), World.cell?_setCell_other _ _ _ _ (by intro hh; simp only [Addr.mk.injEq] at hh; omega)]; assumption))
   have hd : Below W0.heap.size W0 W0.drew := (Below.refl W0.heap.size W0).drew
   clear x0 x1 x2 x3 x4 y0 y1 y2 y3 y4
   refine wp_region_held_drew (S := SS) (by kernel_rfl) (HS.out _ hd) (fun hSS => ?_)
   refine wpAnyH_take (i := 0) (v := ?_) rfl (by kernel_rfl) (by kernel_rfl) (by kernel_rfl) (fun _ _ _ h => h) (Or.inl ⟨by rfl, ?_⟩) hSS ?_
   rotate_left 1
   next => intro w hSw; rw [hSe] at hSw; obtain ⟨s1, s2, s3, s4⟩ := hSw; go_simp; try with_reducible rfl
   refine wpAnyH_take (i := 2) (v := ?_) rfl (by kernel_rfl) (by kernel_rfl) (by kernel_rfl) (fun _ _ _ h => h) (Or.inl ⟨by rfl, ?_⟩) hSS ?_
   rotate_left 1
   next => intro w hSw; rw [hSe] at hSw; obtain ⟨s1, s2, s3, s4⟩ := hSw; go_simp; try with_reducible rfl
   try simp only [Act.put, ny1, ny2, ny3, ny4, ny5, ny6]
   refine wpAnyH_ready (rs := [1]) (by kernel_rfl) (by simp) ?_
   refine AllReadyH.cons rfl (fun K hK => ?_) AllReadyH.nil
   go_simp
   refine (HVx.out (by omega) _).mono ?_
   rintro e W1 ⟨rfl, hbc⟩
   have hW1 : Below W0.heap.size W0 W1 := hd.trans (hbc.mono hd.size)
   dsimp only
   refine hK.out _ _ (HS.out _ hW1) (fun _ => ?_)
   clear hK K hbc
   try simp only [Act.put, ny1, ny2, ny3, ny4, ny5, ny6]
   refine wpAnyH_ready (rs := [3]) (by kernel_rfl) (by simp) ?_
   refine AllReadyH.cons rfl (fun K hK => ?_) AllReadyH.nil
   go_simp
   refine (HVy.out (by omega) _).mono ?_
   rintro e W2 ⟨rfl, hbc⟩
   have hW2 : Below W0.heap.size W0 W2 := hW1.trans (hbc.mono hW1.size)
   dsimp only
   refine hK.out _ _ (HS.out _ hW2) (fun _ => ?_)
   clear hK K hbc
   refine wpAnyH_take (i := 4) (v := ?_) rfl (by kernel_rfl) (by kernel_rfl) (by kernel_rfl) (fun _ _ _ h => h) (Or.inl ⟨by rfl, ?_⟩) (HS.out _ hW2) ?_
   rotate_left 1
   next => intro w hSw; rw [hSe] at hSw; obtain ⟨s1, s2, s3, s4⟩ := hSw; go_simp; try with_reducible rfl
   try simp only [Act.put, ny1, ny2, ny3, ny4, ny5, ny6]
   refine wpAnyH_ready (rs := [5]) (by kernel_rfl) (by simp) ?_
   refine AllReadyH.cons rfl (fun K hK => ?_) AllReadyH.nil
   go_simp
   refine (HOf.out (by omega) (by omega) _).mono ?_
   rintro e W3 ⟨rfl, hbc⟩
   have hW3 : Below W0.heap.size W0 W3 := hW2.trans (hbc.mono hW2.size)
   dsimp only
   refine hK.out _ _ (HS.out _ hW3) (fun _ => ?_)
   clear hK K hbc
   have hbr5 := Hbr.out.below hW3 Hbr.out.2.2.2.2
   try simp only [Act.put, ny1, ny2, ny3, ny4, ny5, ny6]
   refine wpAnyH_ready (rs := [6]) (by kernel_rfl) (by simp) ?_
   refine AllReadyH.cons rfl (fun K hK => ?_) AllReadyH.nil
   have hq5 := hbr5
   obtain ⟨q0, q1, q2, q3, q4⟩ := hq5
   go_simp
   refine hK.out _ _ (HS2.out _ _ _ (HS.out _ hW3)) (fun _ => ?_)
   clear hK K q0 q1 q2 q3 q4
   refine wpAnyH_done (by kernel_rfl) ?_ _
   have hbr6 := boxp_set hbr5 (.bool R.neg) (.string R.mag)
   have hbw : Below w.heap.size w ((W3.setCell ⟨gx + 1 + 1, 0, none⟩ (.bool R.neg)).setCell ⟨gx + 1 + 1, 1, none⟩ (.string R.mag)) := ((Hb.out.trans (hW3.mono Hb.out.size)).setCell (by rw [hgx]; exact Nat.le_add_right gx 2) _).setCell (by rw [hgx]; exact Nat.le_add_right gx 2) _
   obtain ⟨c0, c1, _, _, _⟩ := hbr6
   go_wp2
   refine bodyPost_ret (v := .agg #[.bool R.neg, .string R.mag]) (by simp [results, Tryz.results48, go_sem, c0, c1]) rfl ⟨rfl, hbw⟩
  ·have i7y : ¬ (Y.mag.size : Int) < 8 := by omega
   clear HVx HVy HOf HSl
   by_cases hsg : X.neg = Y.neg
   ·have hsb : (X.neg == Y.neg) = true := by rw [beq_iff_eq]; exact hsg
    have HQ : Hid (X.neg = decide (x + y < 0) ∧ x.natAbs + y.natAbs = (x + y).natAbs) := lhd (by
     have h1 := HNx.out
     have h2 := HNy.out
     rw [← hsg, h1] at h2
     by_cases hx0 : x < 0
     ·rw [decide_eq_true hx0] at h1 h2
      have hy0 := of_decide_eq_true h2.symm
      exact ⟨by rw [h1, eq_comm, decide_eq_true_eq]; omega, by omega⟩
     ·rw [decide_eq_false hx0] at h1 h2
      have hy0 := of_decide_eq_false h2.symm
      exact ⟨by rw [h1, eq_comm, decide_eq_false_iff_not]; omega, by omega⟩)
    clear hsg
    go_wp2_with fail
    have W0e : ∃ W0, V = W0 := ⟨_, rfl⟩
    obtain ⟨W0, hV⟩ := W0e
    rw [hV] at Hbx Hby Hbr Hb x0 x1 y0 y1 ⊢
    clear hV
    have HS : Hid (∀ W, Below W0.heap.size W0 W → SS W) := lhd (fun W hW => by rw [hSe]; exact ⟨cell_below hW x0, cell_below hW x1, cell_below hW y0, cell_below hW y1⟩)
    have HS2 : Hid (∀ W a b, SS W → SS ((W.setCell ⟨gx + 1 + 1, 0, none⟩ a).setCell ⟨gx + 1 + 1, 1, none⟩ b)) := lhd (fun W a b hW => by
     rw [hSe] at hW ⊢
     obtain ⟨s1, s2, s3, s4⟩ := hW
     refine ⟨?_, ?_, ?_, ?_⟩ <;> (rw [World.cell?_setCell_other _ _ _ _ (by intro hh; simp only [Addr.mk.injEq] at hh; omega), World.cell?_setCell_other _ _ _ _ (by intro hh; simp only [Addr.mk.injEq] at hh; omega)]; assumption))
    have hd : Below W0.heap.size W0 W0.drew := (Below.refl W0.heap.size W0).drew
    clear x0 x1 x2 x3 x4 y0 y1 y2 y3 y4
    refine wp_region_held_drew (S := SS) (by kernel_rfl) (HS.out _ hd) (fun hSS => ?_)
    refine wpAnyH_take (i := 0) (v := ?_) rfl (by kernel_rfl) (by kernel_rfl) (by kernel_rfl) (fun _ _ _ h => h) (Or.inl ⟨by rfl, ?_⟩) hSS ?_
    rotate_left 1
    next => intro w hSw; rw [hSe] at hSw; obtain ⟨s1, s2, s3, s4⟩ := hSw; go_simp; try with_reducible rfl
    refine wpAnyH_take (i := 1) (v := ?_) rfl (by kernel_rfl) (by kernel_rfl) (by kernel_rfl) (fun _ _ _ h => h) (Or.inl ⟨by rfl, ?_⟩) hSS ?_
    rotate_left 1
    next => intro w hSw; rw [hSe] at hSw; obtain ⟨s1, s2, s3, s4⟩ := hSw; go_simp; try with_reducible rfl
    refine wpAnyH_take (i := 2) (v := ?_) rfl (by kernel_rfl) (by kernel_rfl) (by kernel_rfl) (fun _ _ _ h => h) (Or.inl ⟨by rfl, ?_⟩) hSS ?_
    rotate_left 1
    next => intro w hSw; rw [hSe] at hSw; obtain ⟨s1, s2, s3, s4⟩ := hSw; go_simp; try with_reducible rfl
    refine wpAnyH_take (i := 3) (v := ?_) rfl (by kernel_rfl) (by kernel_rfl) (by kernel_rfl) (fun _ _ _ h => h) (Or.inl ⟨by rfl, ?_⟩) hSS ?_
    rotate_left 1
    next => intro w hSw; rw [hSe] at hSw; obtain ⟨s1, s2, s3, s4⟩ := hSw; go_simp; try with_reducible rfl
    refine wpAnyH_take (i := 4) (v := ?_) rfl (by kernel_rfl) (by kernel_rfl) (by kernel_rfl) (fun _ _ _ h => h) (Or.inl ⟨by rfl, ?_⟩) hSS ?_
    rotate_left 1
    next => intro w hSw; rw [hSe] at hSw; obtain ⟨s1, s2, s3, s4⟩ := hSw; go_simp; try with_reducible rfl
    refine wpAnyH_take (i := 5) (v := ?_) rfl (by kernel_rfl) (by kernel_rfl) (by kernel_rfl) (fun _ _ _ h => h) (Or.inl ⟨by rfl, ?_⟩) hSS ?_
    rotate_left 1
    next => intro w hSw; rw [hSe] at hSw; obtain ⟨s1, s2, s3, s4⟩ := hSw; go_simp; try with_reducible rfl
    try simp only [Act.put, ny1, ny2, ny3, ny4, ny5, ny6]
    refine wpAnyH_ready (rs := [6]) (by kernel_rfl) (by simp) ?_
    refine AllReadyH.cons rfl (fun K hK => ?_) AllReadyH.nil
    go_simp
    refine (HAm.out _).mono ?_
    rintro e W1 ⟨rfl, hbc⟩
    have hW1 : Below W0.heap.size W0 W1 := hd.trans (hbc.mono hd.size)
    dsimp only
    refine hK.out _ _ (HS.out _ hW1) (fun _ => ?_)
    clear hK K hbc
    refine wpAnyH_take (i := 7) (v := ?_) rfl (by kernel_rfl) (by kernel_rfl) (by kernel_rfl) (fun _ _ _ h => h) (Or.inl ⟨by rfl, ?_⟩) (HS.out _ hW1) ?_
    rotate_left 1
    next => intro w hSw; rw [hSe] at hSw; obtain ⟨s1, s2, s3, s4⟩ := hSw; go_simp; try with_reducible rfl
    have hbr5 := Hbr.out.below hW1 Hbr.out.2.2.2.2
    try simp only [Act.put, ny1, ny2, ny3, ny4, ny5, ny6]
    refine wpAnyH_ready (rs := [8]) (by kernel_rfl) (by simp) ?_
    refine AllReadyH.cons rfl (fun K hK => ?_) AllReadyH.nil
    have hq5 := hbr5
    obtain ⟨q0, q1, q2, q3, q4⟩ := hq5
    go_simp
    refine hK.out _ _ (HS2.out _ _ _ (HS.out _ hW1)) (fun _ => ?_)
    clear hK K q0 q1 q2 q3 q4
    refine wpAnyH_done (by kernel_rfl) ?_ _
    have hbr6 := boxp_set hbr5 (.bool X.neg) (.string ⟨(beb (x.natAbs + y.natAbs)).toArray⟩)
    have hbw : Below w.heap.size w ((W1.setCell ⟨gx + 1 + 1, 0, none⟩ (.bool X.neg)).setCell ⟨gx + 1 + 1, 1, none⟩ (.string ⟨(beb (x.natAbs + y.natAbs)).toArray⟩)) := ((Hb.out.trans (hW1.mono Hb.out.size)).setCell (by rw [hgx]; exact Nat.le_add_right gx 2) _).setCell (by rw [hgx]; exact Nat.le_add_right gx 2) _
    obtain ⟨c0, c1, _, _, _⟩ := hbr6
    go_wp2
    refine bodyPost_ret (v := .agg #[.bool X.neg, .string ⟨(beb (x.natAbs + y.natAbs)).toArray⟩]) (by simp [results, Tryz.results48, go_sem, c0, c1]) rfl ⟨by rw [HR.out _ _ HQ.out.1 HQ.out.2], hbw⟩
   ·have hsb : (X.neg == Y.neg) = false := by rw [beq_eq_false_iff_ne]; exact hsg
    have HD : Hid ((x < 0 ∧ 0 ≤ y) ∨ (0 ≤ x ∧ y < 0)) := lhd (by
     have h1 := HNx.out
     have h2 := HNy.out
     by_cases hx0 : x < 0
     ·rw [decide_eq_true hx0] at h1
      by_cases hy0 : y < 0
      ·rw [decide_eq_true hy0] at h2
       exact absurd (h1.trans h2.symm) hsg
      ·omega
     ·rw [decide_eq_false hx0] at h1
      by_cases hy0 : y < 0
      ·omega
      ·rw [decide_eq_false hy0] at h2
       exact absurd (h1.trans h2.symm) hsg)
    clear hsg
    rcases Nat.lt_trichotomy x.natAbs y.natAbs with hc | hc | hc
    ·have HQ : Hid (Y.neg = decide (x + y < 0) ∧ y.natAbs - x.natAbs = (x + y).natAbs) := lhd (by
      have h2 := HNy.out
      rcases HD.out with ⟨ha, hb⟩ | ⟨ha, hb⟩
      ·exact ⟨by rw [h2, decide_eq_false (by omega), decide_eq_false (by omega)], by omega⟩
      ·exact ⟨by rw [h2, decide_eq_true hb, decide_eq_true (by omega)], by omega⟩)
     have HSm2 := lhd (HSm2.out (by omega))
     have hcv : cmpV x.natAbs y.natAbs = -1 := by unfold cmpV; rw [if_pos hc]
     rw [hcv] at HCm
     go_wp2_with fail
     refine (HCm.out _).mono ?_
     rintro e _ ⟨rfl, rfl⟩
     dsimp only
     clear hcv HCm
     clear hc
     go_wp2_with fail
     have W0e : ∃ W0, V = W0 := ⟨_, rfl⟩
     obtain ⟨W0, hV⟩ := W0e
     rw [hV] at Hbx Hby Hbr Hb x0 x1 y0 y1 ⊢
     clear hV
     have HS : Hid (∀ W, Below W0.heap.size W0 W → SS W) := lhd (fun W hW => by rw [hSe]; exact ⟨cell_below hW x0, cell_below hW x1, cell_below hW y0, cell_below hW y1⟩)
     have HS2 : Hid (∀ W a b, SS W → SS ((W.setCell ⟨gx + 1 + 1, 0, none⟩ a).setCell ⟨gx + 1 + 1, 1, none⟩ b)) := lhd (fun W a b hW => by
      rw [hSe] at hW ⊢
      obtain ⟨s1, s2, s3, s4⟩ := hW
      refine ⟨?_, ?_, ?_, ?_⟩ <;> (rw [World.cell?_setCell_other _ _ _ _ (by intro hh; simp only [Addr.mk.injEq] at hh; omega), World.cell?_setCell_other _ _ _ _ (by intro hh; simp only [Addr.mk.injEq] at hh; omega)]; assumption))
     have hd : Below W0.heap.size W0 W0.drew := (Below.refl W0.heap.size W0).drew
     clear x0 x1 x2 x3 x4 y0 y1 y2 y3 y4
     refine wp_region_held_drew (S := SS) (by kernel_rfl) (HS.out _ hd) (fun hSS => ?_)
     refine wpAnyH_take (i := 0) (v := ?_) rfl (by kernel_rfl) (by kernel_rfl) (by kernel_rfl) (fun _ _ _ h => h) (Or.inl ⟨by rfl, ?_⟩) hSS ?_
     rotate_left 1
     next => intro w hSw; rw [hSe] at hSw; obtain ⟨s1, s2, s3, s4⟩ := hSw; go_simp; try with_reducible rfl
     refine wpAnyH_take (i := 1) (v := ?_) rfl (by kernel_rfl) (by kernel_rfl) (by kernel_rfl) (fun _ _ _ h => h) (Or.inl ⟨by rfl, ?_⟩) hSS ?_
     rotate_left 1
     next => intro w hSw; rw [hSe] at hSw; obtain ⟨s1, s2, s3, s4⟩ := hSw; go_simp; try with_reducible rfl
     refine wpAnyH_take (i := 2) (v := ?_) rfl (by kernel_rfl) (by kernel_rfl) (by kernel_rfl) (fun _ _ _ h => h) (Or.inl ⟨by rfl, ?_⟩) hSS ?_
     rotate_left 1
     next => intro w hSw; rw [hSe] at hSw; obtain ⟨s1, s2, s3, s4⟩ := hSw; go_simp; try with_reducible rfl
     refine wpAnyH_take (i := 3) (v := ?_) rfl (by kernel_rfl) (by kernel_rfl) (by kernel_rfl) (fun _ _ _ h => h) (Or.inl ⟨by rfl, ?_⟩) hSS ?_
     rotate_left 1
     next => intro w hSw; rw [hSe] at hSw; obtain ⟨s1, s2, s3, s4⟩ := hSw; go_simp; try with_reducible rfl
     refine wpAnyH_take (i := 4) (v := ?_) rfl (by kernel_rfl) (by kernel_rfl) (by kernel_rfl) (fun _ _ _ h => h) (Or.inl ⟨by rfl, ?_⟩) hSS ?_
     rotate_left 1
     next => intro w hSw; rw [hSe] at hSw; obtain ⟨s1, s2, s3, s4⟩ := hSw; go_simp; try with_reducible rfl
     refine wpAnyH_take (i := 5) (v := ?_) rfl (by kernel_rfl) (by kernel_rfl) (by kernel_rfl) (fun _ _ _ h => h) (Or.inl ⟨by rfl, ?_⟩) hSS ?_
     rotate_left 1
     next => intro w hSw; rw [hSe] at hSw; obtain ⟨s1, s2, s3, s4⟩ := hSw; go_simp; try with_reducible rfl
     try simp only [Act.put, ny1, ny2, ny3, ny4, ny5, ny6]
     refine wpAnyH_ready (rs := [6]) (by kernel_rfl) (by simp) ?_
     refine AllReadyH.cons rfl (fun K hK => ?_) AllReadyH.nil
     go_simp
     refine (HSm2.out _).mono ?_
     rintro e W1 ⟨rfl, hbc⟩
     have hW1 : Below W0.heap.size W0 W1 := hd.trans (hbc.mono hd.size)
     dsimp only
     refine hK.out _ _ (HS.out _ hW1) (fun _ => ?_)
     clear hK K hbc
     refine wpAnyH_take (i := 7) (v := ?_) rfl (by kernel_rfl) (by kernel_rfl) (by kernel_rfl) (fun _ _ _ h => h) (Or.inl ⟨by rfl, ?_⟩) (HS.out _ hW1) ?_
     rotate_left 1
     next => intro w hSw; rw [hSe] at hSw; obtain ⟨s1, s2, s3, s4⟩ := hSw; go_simp; try with_reducible rfl
     have hbr5 := Hbr.out.below hW1 Hbr.out.2.2.2.2
     try simp only [Act.put, ny1, ny2, ny3, ny4, ny5, ny6]
     refine wpAnyH_ready (rs := [8]) (by kernel_rfl) (by simp) ?_
     refine AllReadyH.cons rfl (fun K hK => ?_) AllReadyH.nil
     have hq5 := hbr5
     obtain ⟨q0, q1, q2, q3, q4⟩ := hq5
     go_simp
     refine hK.out _ _ (HS2.out _ _ _ (HS.out _ hW1)) (fun _ => ?_)
     clear hK K q0 q1 q2 q3 q4
     refine wpAnyH_done (by kernel_rfl) ?_ _
     have hbr6 := boxp_set hbr5 (.bool Y.neg) (.string ⟨(beb (y.natAbs - x.natAbs)).toArray⟩)
     have hbw : Below w.heap.size w ((W1.setCell ⟨gx + 1 + 1, 0, none⟩ (.bool Y.neg)).setCell ⟨gx + 1 + 1, 1, none⟩ (.string ⟨(beb (y.natAbs - x.natAbs)).toArray⟩)) := ((Hb.out.trans (hW1.mono Hb.out.size)).setCell (by rw [hgx]; exact Nat.le_add_right gx 2) _).setCell (by rw [hgx]; exact Nat.le_add_right gx 2) _
     obtain ⟨c0, c1, _, _, _⟩ := hbr6
     go_wp2
     refine bodyPost_ret (v := .agg #[.bool Y.neg, .string ⟨(beb (y.natAbs - x.natAbs)).toArray⟩]) (by simp [results, Tryz.results48, go_sem, c0, c1]) rfl ⟨by rw [HR.out _ _ HQ.out.1 HQ.out.2], hbw⟩
    ·have HQ : Hid (false = decide (x + y < 0) ∧ 0 = (x + y).natAbs) := lhd (by
      rcases HD.out with ⟨ha, hb⟩ | ⟨ha, hb⟩
      ·exact ⟨by rw [decide_eq_false (by omega)], by omega⟩
      ·exact ⟨by rw [decide_eq_false (by omega)], by omega⟩)
     have hcv : cmpV x.natAbs y.natAbs = 0 := by unfold cmpV; rw [if_neg (by omega), if_neg (by omega)]
     rw [hcv] at HCm
     go_wp2_with fail
     refine (HCm.out _).mono ?_
     rintro e _ ⟨rfl, rfl⟩
     dsimp only
     clear hcv HCm
     clear hc
     obtain ⟨r0, r1, r2, r3, r4⟩ := Hbr.out
     have hbr6 := boxp_set Hbr.out (.bool false) (.string ⟨#[]⟩)
     have hbw : Below w.heap.size w ((V.setCell ⟨gx + 1 + 1, 0, none⟩ (.bool false)).setCell ⟨gx + 1 + 1, 1, none⟩ (.string ⟨#[]⟩)) := (Hb.out.setCell (by rw [hgx]; exact Nat.le_add_right gx 2) _).setCell (by rw [hgx]; exact Nat.le_add_right gx 2) _
     obtain ⟨c0, c1, _, _, _⟩ := hbr6
     go_wp2
     refine bodyPost_ret (v := .agg #[.bool false, .string ⟨#[]⟩]) (by simp [results, Tryz.results48, go_sem, c0, c1]) rfl ⟨by rw [← HR.out _ _ HQ.out.1 HQ.out.2]; rfl, hbw⟩
    ·have HQ : Hid (X.neg = decide (x + y < 0) ∧ x.natAbs - y.natAbs = (x + y).natAbs) := lhd (by
      have h2 := HNx.out
      rcases HD.out with ⟨ha, hb⟩ | ⟨ha, hb⟩
      ·exact ⟨by rw [h2, decide_eq_true ha, decide_eq_true (by omega)], by omega⟩
      ·exact ⟨by rw [h2, decide_eq_false (by omega), decide_eq_false (by omega)], by omega⟩)
     have HSm1 := lhd (HSm1.out (by omega))
     have hcv : cmpV x.natAbs y.natAbs = 1 := by unfold cmpV; rw [if_neg (by omega), if_pos hc]
     rw [hcv] at HCm
     go_wp2_with fail
     refine (HCm.out _).mono ?_
     rintro e _ ⟨rfl, rfl⟩
     dsimp only
     clear hcv HCm
     clear hc
     go_wp2_with fail
     have W0e : ∃ W0, V = W0 := ⟨_, rfl⟩
     obtain ⟨W0, hV⟩ := W0e
     rw [hV] at Hbx Hby Hbr Hb x0 x1 y0 y1 ⊢
     clear hV
     have HS : Hid (∀ W, Below W0.heap.size W0 W → SS W) := lhd (fun W hW => by rw [hSe]; exact ⟨cell_below hW x0, cell_below hW x1, cell_below hW y0, cell_below hW y1⟩)
     have HS2 : Hid (∀ W a b, SS W → SS ((W.setCell ⟨gx + 1 + 1, 0, none⟩ a).setCell ⟨gx + 1 + 1, 1, none⟩ b)) := lhd (fun W a b hW => by
      rw [hSe] at hW ⊢
      obtain ⟨s1, s2, s3, s4⟩ := hW
      refine ⟨?_, ?_, ?_, ?_⟩ <;> (rw [World.cell?_setCell_other _ _ _ _ (by intro hh; simp only [Addr.mk.injEq] at hh; omega), World.cell?_setCell_other _ _ _ _ (by intro hh; simp only [Addr.mk.injEq] at hh; omega)]; assumption))
     have hd : Below W0.heap.size W0 W0.drew := (Below.refl W0.heap.size W0).drew
     clear x0 x1 x2 x3 x4 y0 y1 y2 y3 y4
     refine wp_region_held_drew (S := SS) (by kernel_rfl) (HS.out _ hd) (fun hSS => ?_)
     refine wpAnyH_take (i := 0) (v := ?_) rfl (by kernel_rfl) (by kernel_rfl) (by kernel_rfl) (fun _ _ _ h => h) (Or.inl ⟨by rfl, ?_⟩) hSS ?_
     rotate_left 1
     next => intro w hSw; rw [hSe] at hSw; obtain ⟨s1, s2, s3, s4⟩ := hSw; go_simp; try with_reducible rfl
     refine wpAnyH_take (i := 1) (v := ?_) rfl (by kernel_rfl) (by kernel_rfl) (by kernel_rfl) (fun _ _ _ h => h) (Or.inl ⟨by rfl, ?_⟩) hSS ?_
     rotate_left 1
     next => intro w hSw; rw [hSe] at hSw; obtain ⟨s1, s2, s3, s4⟩ := hSw; go_simp; try with_reducible rfl
     refine wpAnyH_take (i := 2) (v := ?_) rfl (by kernel_rfl) (by kernel_rfl) (by kernel_rfl) (fun _ _ _ h => h) (Or.inl ⟨by rfl, ?_⟩) hSS ?_
     rotate_left 1
     next => intro w hSw; rw [hSe] at hSw; obtain ⟨s1, s2, s3, s4⟩ := hSw; go_simp; try with_reducible rfl
     refine wpAnyH_take (i := 3) (v := ?_) rfl (by kernel_rfl) (by kernel_rfl) (by kernel_rfl) (fun _ _ _ h => h) (Or.inl ⟨by rfl, ?_⟩) hSS ?_
     rotate_left 1
     next => intro w hSw; rw [hSe] at hSw; obtain ⟨s1, s2, s3, s4⟩ := hSw; go_simp; try with_reducible rfl
     refine wpAnyH_take (i := 4) (v := ?_) rfl (by kernel_rfl) (by kernel_rfl) (by kernel_rfl) (fun _ _ _ h => h) (Or.inl ⟨by rfl, ?_⟩) hSS ?_
     rotate_left 1
     next => intro w hSw; rw [hSe] at hSw; obtain ⟨s1, s2, s3, s4⟩ := hSw; go_simp; try with_reducible rfl
     refine wpAnyH_take (i := 5) (v := ?_) rfl (by kernel_rfl) (by kernel_rfl) (by kernel_rfl) (fun _ _ _ h => h) (Or.inl ⟨by rfl, ?_⟩) hSS ?_
     rotate_left 1
     next => intro w hSw; rw [hSe] at hSw; obtain ⟨s1, s2, s3, s4⟩ := hSw; go_simp; try with_reducible rfl
     try simp only [Act.put, ny1, ny2, ny3, ny4, ny5, ny6]
     refine wpAnyH_ready (rs := [6]) (by kernel_rfl) (by simp) ?_
     refine AllReadyH.cons rfl (fun K hK => ?_) AllReadyH.nil
     go_simp
     refine (HSm1.out _).mono ?_
     rintro e W1 ⟨rfl, hbc⟩
     have hW1 : Below W0.heap.size W0 W1 := hd.trans (hbc.mono hd.size)
     dsimp only
     refine hK.out _ _ (HS.out _ hW1) (fun _ => ?_)
     clear hK K hbc
     refine wpAnyH_take (i := 7) (v := ?_) rfl (by kernel_rfl) (by kernel_rfl) (by kernel_rfl) (fun _ _ _ h => h) (Or.inl ⟨by rfl, ?_⟩) (HS.out _ hW1) ?_
     rotate_left 1
     next => intro w hSw; rw [hSe] at hSw; obtain ⟨s1, s2, s3, s4⟩ := hSw; go_simp; try with_reducible rfl
     have hbr5 := Hbr.out.below hW1 Hbr.out.2.2.2.2
     try simp only [Act.put, ny1, ny2, ny3, ny4, ny5, ny6]
     refine wpAnyH_ready (rs := [8]) (by kernel_rfl) (by simp) ?_
     refine AllReadyH.cons rfl (fun K hK => ?_) AllReadyH.nil
     have hq5 := hbr5
     obtain ⟨q0, q1, q2, q3, q4⟩ := hq5
     go_simp
     refine hK.out _ _ (HS2.out _ _ _ (HS.out _ hW1)) (fun _ => ?_)
     clear hK K q0 q1 q2 q3 q4
     refine wpAnyH_done (by kernel_rfl) ?_ _
     have hbr6 := boxp_set hbr5 (.bool X.neg) (.string ⟨(beb (x.natAbs - y.natAbs)).toArray⟩)
     have hbw : Below w.heap.size w ((W1.setCell ⟨gx + 1 + 1, 0, none⟩ (.bool X.neg)).setCell ⟨gx + 1 + 1, 1, none⟩ (.string ⟨(beb (x.natAbs - y.natAbs)).toArray⟩)) := ((Hb.out.trans (hW1.mono Hb.out.size)).setCell (by rw [hgx]; exact Nat.le_add_right gx 2) _).setCell (by rw [hgx]; exact Nat.le_add_right gx 2) _
     obtain ⟨c0, c1, _, _, _⟩ := hbr6
     go_wp2
     refine bodyPost_ret (v := .agg #[.bool X.neg, .string ⟨(beb (x.natAbs - y.natAbs)).toArray⟩]) (by simp [results, Tryz.results48, go_sem, c0, c1]) rfl ⟨by rw [HR.out _ _ HQ.out.1 HQ.out.2], hbw⟩
 ·have i7x : ¬ (X.mag.size : Int) < 8 := by omega
  clear HVx HVy HOf HSl
  by_cases hsg : X.neg = Y.neg
  ·have hsb : (X.neg == Y.neg) = true := by rw [beq_iff_eq]; exact hsg
   have HQ : Hid (X.neg = decide (x + y < 0) ∧ x.natAbs + y.natAbs = (x + y).natAbs) := lhd (by
    have h1 := HNx.out
    have h2 := HNy.out
    rw [← hsg, h1] at h2
    by_cases hx0 : x < 0
    ·rw [decide_eq_true hx0] at h1 h2
     have hy0 := of_decide_eq_true h2.symm
     exact ⟨by rw [h1, eq_comm, decide_eq_true_eq]; omega, by omega⟩
    ·rw [decide_eq_false hx0] at h1 h2
     have hy0 := of_decide_eq_false h2.symm
     exact ⟨by rw [h1, eq_comm, decide_eq_false_iff_not]; omega, by omega⟩)
   clear hsg
   go_wp2_with fail
   have W0e : ∃ W0, V = W0 := ⟨_, rfl⟩
   obtain ⟨W0, hV⟩ := W0e
   rw [hV] at Hbx Hby Hbr Hb x0 x1 y0 y1 ⊢
   clear hV
   have HS : Hid (∀ W, Below W0.heap.size W0 W → SS W) := lhd (fun W hW => by rw [hSe]; exact ⟨cell_below hW x0, cell_below hW x1, cell_below hW y0, cell_below hW y1⟩)
   have HS2 : Hid (∀ W a b, SS W → SS ((W.setCell ⟨gx + 1 + 1, 0, none⟩ a).setCell ⟨gx + 1 + 1, 1, none⟩ b)) := lhd (fun W a b hW => by
    rw [hSe] at hW ⊢
    obtain ⟨s1, s2, s3, s4⟩ := hW
    refine ⟨?_, ?_, ?_, ?_⟩ <;> (rw [World.cell?_setCell_other _ _ _ _ (by intro hh; simp only [Addr.mk.injEq] at hh; omega), World.cell?_setCell_other _ _ _ _ (by intro hh; simp only [Addr.mk.injEq] at hh; omega)]; assumption))
   have hd : Below W0.heap.size W0 W0.drew := (Below.refl W0.heap.size W0).drew
   clear x0 x1 x2 x3 x4 y0 y1 y2 y3 y4
   refine wp_region_held_drew (S := SS) (by kernel_rfl) (HS.out _ hd) (fun hSS => ?_)
   refine wpAnyH_take (i := 0) (v := ?_) rfl (by kernel_rfl) (by kernel_rfl) (by kernel_rfl) (fun _ _ _ h => h) (Or.inl ⟨by rfl, ?_⟩) hSS ?_
   rotate_left 1
   next => intro w hSw; rw [hSe] at hSw; obtain ⟨s1, s2, s3, s4⟩ := hSw; go_simp; try with_reducible rfl
   refine wpAnyH_take (i := 1) (v := ?_) rfl (by kernel_rfl) (by kernel_rfl) (by kernel_rfl) (fun _ _ _ h => h) (Or.inl ⟨by rfl, ?_⟩) hSS ?_
   rotate_left 1
   next => intro w hSw; rw [hSe] at hSw; obtain ⟨s1, s2, s3, s4⟩ := hSw; go_simp; try with_reducible rfl
   refine wpAnyH_take (i := 2) (v := ?_) rfl (by kernel_rfl) (by kernel_rfl) (by kernel_rfl) (fun _ _ _ h => h) (Or.inl ⟨by rfl, ?_⟩) hSS ?_
   rotate_left 1
   next => intro w hSw; rw [hSe] at hSw; obtain ⟨s1, s2, s3, s4⟩ := hSw; go_simp; try with_reducible rfl
   refine wpAnyH_take (i := 3) (v := ?_) rfl (by kernel_rfl) (by kernel_rfl) (by kernel_rfl) (fun _ _ _ h => h) (Or.inl ⟨by rfl, ?_⟩) hSS ?_
   rotate_left 1
   next => intro w hSw; rw [hSe] at hSw; obtain ⟨s1, s2, s3, s4⟩ := hSw; go_simp; try with_reducible rfl
   refine wpAnyH_take (i := 4) (v := ?_) rfl (by kernel_rfl) (by kernel_rfl) (by kernel_rfl) (fun _ _ _ h => h) (Or.inl ⟨by rfl, ?_⟩) hSS ?_
   rotate_left 1
   next => intro w hSw; rw [hSe] at hSw; obtain ⟨s1, s2, s3, s4⟩ := hSw; go_simp; try with_reducible rfl
   refine wpAnyH_take (i := 5) (v := ?_) rfl (by kernel_rfl) (by kernel_rfl) (by kernel_rfl) (fun _ _ _ h => h) (Or.inl ⟨by rfl, ?_⟩) hSS ?_
   rotate_left 1
   next => intro w hSw; rw [hSe] at hSw; obtain ⟨s1, s2, s3, s4⟩ := hSw; go_simp; try with_reducible rfl
   try simp only [Act.put, ny1, ny2, ny3, ny4, ny5, ny6]
   refine wpAnyH_ready (rs := [6]) (by kernel_rfl) (by simp) ?_
   refine AllReadyH.cons rfl (fun K hK => ?_) AllReadyH.nil
   go_simp
   refine (HAm.out _).mono ?_
   rintro e W1 ⟨rfl, hbc⟩
   have hW1 : Below W0.heap.size W0 W1 := hd.trans (hbc.mono hd.size)
   dsimp only
   refine hK.out _ _ (HS.out _ hW1) (fun _ => ?_)
   clear hK K hbc
   refine wpAnyH_take (i := 7) (v := ?_) rfl (by kernel_rfl) (by kernel_rfl) (by kernel_rfl) (fun _ _ _ h => h) (Or.inl ⟨by rfl, ?_⟩) (HS.out _ hW1) ?_
   rotate_left 1
   next => intro w hSw; rw [hSe] at hSw; obtain ⟨s1, s2, s3, s4⟩ := hSw; go_simp; try with_reducible rfl
   have hbr5 := Hbr.out.below hW1 Hbr.out.2.2.2.2
   try simp only [Act.put, ny1, ny2, ny3, ny4, ny5, ny6]
   refine wpAnyH_ready (rs := [8]) (by kernel_rfl) (by simp) ?_
   refine AllReadyH.cons rfl (fun K hK => ?_) AllReadyH.nil
   have hq5 := hbr5
   obtain ⟨q0, q1, q2, q3, q4⟩ := hq5
   go_simp
   refine hK.out _ _ (HS2.out _ _ _ (HS.out _ hW1)) (fun _ => ?_)
   clear hK K q0 q1 q2 q3 q4
   refine wpAnyH_done (by kernel_rfl) ?_ _
   have hbr6 := boxp_set hbr5 (.bool X.neg) (.string ⟨(beb (x.natAbs + y.natAbs)).toArray⟩)
   have hbw : Below w.heap.size w ((W1.setCell ⟨gx + 1 + 1, 0, none⟩ (.bool X.neg)).setCell ⟨gx + 1 + 1, 1, none⟩ (.string ⟨(beb (x.natAbs + y.natAbs)).toArray⟩)) := ((Hb.out.trans (hW1.mono Hb.out.size)).setCell (by rw [hgx]; exact Nat.le_add_right gx 2) _).setCell (by rw [hgx]; exact Nat.le_add_right gx 2) _
   obtain ⟨c0, c1, _, _, _⟩ := hbr6
   go_wp2
   refine bodyPost_ret (v := .agg #[.bool X.neg, .string ⟨(beb (x.natAbs + y.natAbs)).toArray⟩]) (by simp [results, Tryz.results48, go_sem, c0, c1]) rfl ⟨by rw [HR.out _ _ HQ.out.1 HQ.out.2], hbw⟩
  ·have hsb : (X.neg == Y.neg) = false := by rw [beq_eq_false_iff_ne]; exact hsg
   have HD : Hid ((x < 0 ∧ 0 ≤ y) ∨ (0 ≤ x ∧ y < 0)) := lhd (by
    have h1 := HNx.out
    have h2 := HNy.out
    by_cases hx0 : x < 0
    ·rw [decide_eq_true hx0] at h1
     by_cases hy0 : y < 0
     ·rw [decide_eq_true hy0] at h2
      exact absurd (h1.trans h2.symm) hsg
     ·omega
    ·rw [decide_eq_false hx0] at h1
     by_cases hy0 : y < 0
     ·omega
     ·rw [decide_eq_false hy0] at h2
      exact absurd (h1.trans h2.symm) hsg)
   clear hsg
   rcases Nat.lt_trichotomy x.natAbs y.natAbs with hc | hc | hc
   ·have HQ : Hid (Y.neg = decide (x + y < 0) ∧ y.natAbs - x.natAbs = (x + y).natAbs) := lhd (by
     have h2 := HNy.out
     rcases HD.out with ⟨ha, hb⟩ | ⟨ha, hb⟩
     ·exact ⟨by rw [h2, decide_eq_false (by omega), decide_eq_false (by omega)], by omega⟩
     ·exact ⟨by rw [h2, decide_eq_true hb, decide_eq_true (by omega)], by omega⟩)
    have HSm2 := lhd (HSm2.out (by omega))
    have hcv : cmpV x.natAbs y.natAbs = -1 := by unfold cmpV; rw [if_pos hc]
    rw [hcv] at HCm
    go_wp2_with fail
    refine (HCm.out _).mono ?_
    rintro e _ ⟨rfl, rfl⟩
    dsimp only
    clear hcv HCm
    clear hc
    go_wp2_with fail
    have W0e : ∃ W0, V = W0 := ⟨_, rfl⟩
    obtain ⟨W0, hV⟩ := W0e
    rw [hV] at Hbx Hby Hbr Hb x0 x1 y0 y1 ⊢
    clear hV
    have HS : Hid (∀ W, Below W0.heap.size W0 W → SS W) := lhd (fun W hW => by rw [hSe]; exact ⟨cell_below hW x0, cell_below hW x1, cell_below hW y0, cell_below hW y1⟩)
    have HS2 : Hid (∀ W a b, SS W → SS ((W.setCell ⟨gx + 1 + 1, 0, none⟩ a).setCell ⟨gx + 1 + 1, 1, none⟩ b)) := lhd (fun W a b hW => by
     rw [hSe] at hW ⊢
     obtain ⟨s1, s2, s3, s4⟩ := hW
     refine ⟨?_, ?_, ?_, ?_⟩ <;> (rw [World.cell?_setCell_other _ _ _ _ (by intro hh; simp only [Addr.mk.injEq] at hh; omega), World.cell?_setCell_other _ _ _ _ (by intro hh; simp only [Addr.mk.injEq] at hh; omega)]; assumption))
    have hd : Below W0.heap.size W0 W0.drew := (Below.refl W0.heap.size W0).drew
    clear x0 x1 x2 x3 x4 y0 y1 y2 y3 y4
    refine wp_region_held_drew (S := SS) (by kernel_rfl) (HS.out _ hd) (fun hSS => ?_)
    refine wpAnyH_take (i := 0) (v := ?_) rfl (by kernel_rfl) (by kernel_rfl) (by kernel_rfl) (fun _ _ _ h => h) (Or.inl ⟨by rfl, ?_⟩) hSS ?_
    rotate_left 1
    next => intro w hSw; rw [hSe] at hSw; obtain ⟨s1, s2, s3, s4⟩ := hSw; go_simp; try with_reducible rfl
    refine wpAnyH_take (i := 1) (v := ?_) rfl (by kernel_rfl) (by kernel_rfl) (by kernel_rfl) (fun _ _ _ h => h) (Or.inl ⟨by rfl, ?_⟩) hSS ?_
    rotate_left 1
    next => intro w hSw; rw [hSe] at hSw; obtain ⟨s1, s2, s3, s4⟩ := hSw; go_simp; try with_reducible rfl
    refine wpAnyH_take (i := 2) (v := ?_) rfl (by kernel_rfl) (by kernel_rfl) (by kernel_rfl) (fun _ _ _ h => h) (Or.inl ⟨by rfl, ?_⟩) hSS ?_
    rotate_left 1
    next => intro w hSw; rw [hSe] at hSw; obtain ⟨s1, s2, s3, s4⟩ := hSw; go_simp; try with_reducible rfl
    refine wpAnyH_take (i := 3) (v := ?_) rfl (by kernel_rfl) (by kernel_rfl) (by kernel_rfl) (fun _ _ _ h => h) (Or.inl ⟨by rfl, ?_⟩) hSS ?_
    rotate_left 1
    next => intro w hSw; rw [hSe] at hSw; obtain ⟨s1, s2, s3, s4⟩ := hSw; go_simp; try with_reducible rfl
    refine wpAnyH_take (i := 4) (v := ?_) rfl (by kernel_rfl) (by kernel_rfl) (by kernel_rfl) (fun _ _ _ h => h) (Or.inl ⟨by rfl, ?_⟩) hSS ?_
    rotate_left 1
    next => intro w hSw; rw [hSe] at hSw; obtain ⟨s1, s2, s3, s4⟩ := hSw; go_simp; try with_reducible rfl
    refine wpAnyH_take (i := 5) (v := ?_) rfl (by kernel_rfl) (by kernel_rfl) (by kernel_rfl) (fun _ _ _ h => h) (Or.inl ⟨by rfl, ?_⟩) hSS ?_
    rotate_left 1
    next => intro w hSw; rw [hSe] at hSw; obtain ⟨s1, s2, s3, s4⟩ := hSw; go_simp; try with_reducible rfl
    try simp only [Act.put, ny1, ny2, ny3, ny4, ny5, ny6]
    refine wpAnyH_ready (rs := [6]) (by kernel_rfl) (by simp) ?_
    refine AllReadyH.cons rfl (fun K hK => ?_) AllReadyH.nil
    go_simp
    refine (HSm2.out _).mono ?_
    rintro e W1 ⟨rfl, hbc⟩
    have hW1 : Below W0.heap.size W0 W1 := hd.trans (hbc.mono hd.size)
    dsimp only
    refine hK.out _ _ (HS.out _ hW1) (fun _ => ?_)
    clear hK K hbc
    refine wpAnyH_take (i := 7) (v := ?_) rfl (by kernel_rfl) (by kernel_rfl) (by kernel_rfl) (fun _ _ _ h => h) (Or.inl ⟨by rfl, ?_⟩) (HS.out _ hW1) ?_
    rotate_left 1
    next => intro w hSw; rw [hSe] at hSw; obtain ⟨s1, s2, s3, s4⟩ := hSw; go_simp; try with_reducible rfl
    have hbr5 := Hbr.out.below hW1 Hbr.out.2.2.2.2
    try simp only [Act.put, ny1, ny2, ny3, ny4, ny5, ny6]
    refine wpAnyH_ready (rs := [8]) (by kernel_rfl) (by simp) ?_
    refine AllReadyH.cons rfl (fun K hK => ?_) AllReadyH.nil
    have hq5 := hbr5
    obtain ⟨q0, q1, q2, q3, q4⟩ := hq5
    go_simp
    refine hK.out _ _ (HS2.out _ _ _ (HS.out _ hW1)) (fun _ => ?_)
    clear hK K q0 q1 q2 q3 q4
    refine wpAnyH_done (by kernel_rfl) ?_ _
    have hbr6 := boxp_set hbr5 (.bool Y.neg) (.string ⟨(beb (y.natAbs - x.natAbs)).toArray⟩)
    have hbw : Below w.heap.size w ((W1.setCell ⟨gx + 1 + 1, 0, none⟩ (.bool Y.neg)).setCell ⟨gx + 1 + 1, 1, none⟩ (.string ⟨(beb (y.natAbs - x.natAbs)).toArray⟩)) := ((Hb.out.trans (hW1.mono Hb.out.size)).setCell (by rw [hgx]; exact Nat.le_add_right gx 2) _).setCell (by rw [hgx]; exact Nat.le_add_right gx 2) _
    obtain ⟨c0, c1, _, _, _⟩ := hbr6
    go_wp2
    refine bodyPost_ret (v := .agg #[.bool Y.neg, .string ⟨(beb (y.natAbs - x.natAbs)).toArray⟩]) (by simp [results, Tryz.results48, go_sem, c0, c1]) rfl ⟨by rw [HR.out _ _ HQ.out.1 HQ.out.2], hbw⟩
   ·have HQ : Hid (false = decide (x + y < 0) ∧ 0 = (x + y).natAbs) := lhd (by
     rcases HD.out with ⟨ha, hb⟩ | ⟨ha, hb⟩
     ·exact ⟨by rw [decide_eq_false (by omega)], by omega⟩
     ·exact ⟨by rw [decide_eq_false (by omega)], by omega⟩)
    have hcv : cmpV x.natAbs y.natAbs = 0 := by unfold cmpV; rw [if_neg (by omega), if_neg (by omega)]
    rw [hcv] at HCm
    go_wp2_with fail
    refine (HCm.out _).mono ?_
    rintro e _ ⟨rfl, rfl⟩
    dsimp only
    clear hcv HCm
    clear hc
    obtain ⟨r0, r1, r2, r3, r4⟩ := Hbr.out
    have hbr6 := boxp_set Hbr.out (.bool false) (.string ⟨#[]⟩)
    have hbw : Below w.heap.size w ((V.setCell ⟨gx + 1 + 1, 0, none⟩ (.bool false)).setCell ⟨gx + 1 + 1, 1, none⟩ (.string ⟨#[]⟩)) := (Hb.out.setCell (by rw [hgx]; exact Nat.le_add_right gx 2) _).setCell (by rw [hgx]; exact Nat.le_add_right gx 2) _
    obtain ⟨c0, c1, _, _, _⟩ := hbr6
    go_wp2
    refine bodyPost_ret (v := .agg #[.bool false, .string ⟨#[]⟩]) (by simp [results, Tryz.results48, go_sem, c0, c1]) rfl ⟨by rw [← HR.out _ _ HQ.out.1 HQ.out.2]; rfl, hbw⟩
   ·have HQ : Hid (X.neg = decide (x + y < 0) ∧ x.natAbs - y.natAbs = (x + y).natAbs) := lhd (by
     have h2 := HNx.out
     rcases HD.out with ⟨ha, hb⟩ | ⟨ha, hb⟩
     ·exact ⟨by rw [h2, decide_eq_true ha, decide_eq_true (by omega)], by omega⟩
     ·exact ⟨by rw [h2, decide_eq_false (by omega), decide_eq_false (by omega)], by omega⟩)
    have HSm1 := lhd (HSm1.out (by omega))
    have hcv : cmpV x.natAbs y.natAbs = 1 := by unfold cmpV; rw [if_neg (by omega), if_pos hc]
    rw [hcv] at HCm
    go_wp2_with fail
    refine (HCm.out _).mono ?_
    rintro e _ ⟨rfl, rfl⟩
    dsimp only
    clear hcv HCm
    clear hc
    go_wp2_with fail
    have W0e : ∃ W0, V = W0 := ⟨_, rfl⟩
    obtain ⟨W0, hV⟩ := W0e
    rw [hV] at Hbx Hby Hbr Hb x0 x1 y0 y1 ⊢
    clear hV
    have HS : Hid (∀ W, Below W0.heap.size W0 W → SS W) := lhd (fun W hW => by rw [hSe]; exact ⟨cell_below hW x0, cell_below hW x1, cell_below hW y0, cell_below hW y1⟩)
    have HS2 : Hid (∀ W a b, SS W → SS ((W.setCell ⟨gx + 1 + 1, 0, none⟩ a).setCell ⟨gx + 1 + 1, 1, none⟩ b)) := lhd (fun W a b hW => by
     rw [hSe] at hW ⊢
     obtain ⟨s1, s2, s3, s4⟩ := hW
     refine ⟨?_, ?_, ?_, ?_⟩ <;> (rw [World.cell?_setCell_other _ _ _ _ (by intro hh; simp only [Addr.mk.injEq] at hh; omega), World.cell?_setCell_other _ _ _ _ (by intro hh; simp only [Addr.mk.injEq] at hh; omega)]; assumption))
    have hd : Below W0.heap.size W0 W0.drew := (Below.refl W0.heap.size W0).drew
    clear x0 x1 x2 x3 x4 y0 y1 y2 y3 y4
    refine wp_region_held_drew (S := SS) (by kernel_rfl) (HS.out _ hd) (fun hSS => ?_)
    refine wpAnyH_take (i := 0) (v := ?_) rfl (by kernel_rfl) (by kernel_rfl) (by kernel_rfl) (fun _ _ _ h => h) (Or.inl ⟨by rfl, ?_⟩) hSS ?_
    rotate_left 1
    next => intro w hSw; rw [hSe] at hSw; obtain ⟨s1, s2, s3, s4⟩ := hSw; go_simp; try with_reducible rfl
    refine wpAnyH_take (i := 1) (v := ?_) rfl (by kernel_rfl) (by kernel_rfl) (by kernel_rfl) (fun _ _ _ h => h) (Or.inl ⟨by rfl, ?_⟩) hSS ?_
    rotate_left 1
    next => intro w hSw; rw [hSe] at hSw; obtain ⟨s1, s2, s3, s4⟩ := hSw; go_simp; try with_reducible rfl
    refine wpAnyH_take (i := 2) (v := ?_) rfl (by kernel_rfl) (by kernel_rfl) (by kernel_rfl) (fun _ _ _ h => h) (Or.inl ⟨by rfl, ?_⟩) hSS ?_
    rotate_left 1
    next => intro w hSw; rw [hSe] at hSw; obtain ⟨s1, s2, s3, s4⟩ := hSw; go_simp; try with_reducible rfl
    refine wpAnyH_take (i := 3) (v := ?_) rfl (by kernel_rfl) (by kernel_rfl) (by kernel_rfl) (fun _ _ _ h => h) (Or.inl ⟨by rfl, ?_⟩) hSS ?_
    rotate_left 1
    next => intro w hSw; rw [hSe] at hSw; obtain ⟨s1, s2, s3, s4⟩ := hSw; go_simp; try with_reducible rfl
    refine wpAnyH_take (i := 4) (v := ?_) rfl (by kernel_rfl) (by kernel_rfl) (by kernel_rfl) (fun _ _ _ h => h) (Or.inl ⟨by rfl, ?_⟩) hSS ?_
    rotate_left 1
    next => intro w hSw; rw [hSe] at hSw; obtain ⟨s1, s2, s3, s4⟩ := hSw; go_simp; try with_reducible rfl
    refine wpAnyH_take (i := 5) (v := ?_) rfl (by kernel_rfl) (by kernel_rfl) (by kernel_rfl) (fun _ _ _ h => h) (Or.inl ⟨by rfl, ?_⟩) hSS ?_
    rotate_left 1
    next => intro w hSw; rw [hSe] at hSw; obtain ⟨s1, s2, s3, s4⟩ := hSw; go_simp; try with_reducible rfl
    try simp only [Act.put, ny1, ny2, ny3, ny4, ny5, ny6]
    refine wpAnyH_ready (rs := [6]) (by kernel_rfl) (by simp) ?_
    refine AllReadyH.cons rfl (fun K hK => ?_) AllReadyH.nil
    go_simp
    refine (HSm1.out _).mono ?_
    rintro e W1 ⟨rfl, hbc⟩
    have hW1 : Below W0.heap.size W0 W1 := hd.trans (hbc.mono hd.size)
    dsimp only
    refine hK.out _ _ (HS.out _ hW1) (fun _ => ?_)
    clear hK K hbc
    refine wpAnyH_take (i := 7) (v := ?_) rfl (by kernel_rfl) (by kernel_rfl) (by kernel_rfl) (fun _ _ _ h => h) (Or.inl ⟨by rfl, ?_⟩) (HS.out _ hW1) ?_
    rotate_left 1
    next => intro w hSw; rw [hSe] at hSw; obtain ⟨s1, s2, s3, s4⟩ := hSw; go_simp; try with_reducible rfl
    have hbr5 := Hbr.out.below hW1 Hbr.out.2.2.2.2
    try simp only [Act.put, ny1, ny2, ny3, ny4, ny5, ny6]
    refine wpAnyH_ready (rs := [8]) (by kernel_rfl) (by simp) ?_
    refine AllReadyH.cons rfl (fun K hK => ?_) AllReadyH.nil
    have hq5 := hbr5
    obtain ⟨q0, q1, q2, q3, q4⟩ := hq5
    go_simp
    refine hK.out _ _ (HS2.out _ _ _ (HS.out _ hW1)) (fun _ => ?_)
    clear hK K q0 q1 q2 q3 q4
    refine wpAnyH_done (by kernel_rfl) ?_ _
    have hbr6 := boxp_set hbr5 (.bool X.neg) (.string ⟨(beb (x.natAbs - y.natAbs)).toArray⟩)
    have hbw : Below w.heap.size w ((W1.setCell ⟨gx + 1 + 1, 0, none⟩ (.bool X.neg)).setCell ⟨gx + 1 + 1, 1, none⟩ (.string ⟨(beb (x.natAbs - y.natAbs)).toArray⟩)) := ((Hb.out.trans (hW1.mono Hb.out.size)).setCell (by rw [hgx]; exact Nat.le_add_right gx 2) _).setCell (by rw [hgx]; exact Nat.le_add_right gx 2) _
    obtain ⟨c0, c1, _, _, _⟩ := hbr6
    go_wp2
    refine bodyPost_ret (v := .agg #[.bool X.neg, .string ⟨(beb (x.natAbs - y.natAbs)).toArray⟩]) (by simp [results, Tryz.results48, go_sem, c0, c1]) rfl ⟨by rw [HR.out _ _ HQ.out.1 HQ.out.2], hbw⟩
set_option maxRecDepth 100000 in
set_option maxHeartbeats 8000000 in
theorem refMulZ_any (zx zy : ZI) (hzx : zx.mag.size < 100000000) (hzy : zy.mag.size < 100000000) (x y : Int) (hvx : valZ zx = x) (hvy : valZ zy = y) (hxz : zx.mag.size + zy.mag.size ≤ 100000000) (w : World) :
  Calls Tryz.prog 49 #[.agg #[.bool zx.neg, .string zx.mag], .agg #[.bool zy.neg, .string zy.mag]] w (RetZ (canon (x * y)) w) := by
 have hx : (canon x).mag.size < 100000000 := by rw [← hvx]; exact Nat.lt_of_le_of_lt (canon_size_le zx) hzx
 have hy : (canon y).mag.size < 100000000 := by rw [← hvy]; exact Nat.lt_of_le_of_lt (canon_size_le zy) hzy
 have hxy : (canon x).mag.size + (canon y).mag.size ≤ 100000000 := by
  have h1 := canon_size_le zx
  have h2 := canon_size_le zy
  rw [hvx] at h1
  rw [hvy] at h2
  omega
 have hcx := fun W => refCanonical_any zx (by omega) W
 have hcy := fun W => refCanonical_any zy (by omega) W
 rw [hvx] at hcx
 rw [hvy] at hcy
 have HCx := lhd hcx
 have HCy := lhd hcy
 clear hcx hcy
 have hbx := BoxAt.new w (.bool zx.neg) (.string zx.mag) 24
 have hby := BoxAt.new (w.alloc (.cells #[.bool zx.neg, .string zx.mag] 24)) (.bool zy.neg) (.string zy.mag) 24
 have hbr := BoxAt.new ((w.alloc (.cells #[.bool zx.neg, .string zx.mag] 24)).alloc (.cells #[.bool zy.neg, .string zy.mag] 24)) (.bool false) (.string ⟨#[]⟩) 24
 have hbx := (hbx.alloc (.cells #[.bool zy.neg, .string zy.mag] 24)).alloc (.cells #[.bool false, .string ⟨#[]⟩] 24)
 have hby := hby.alloc (.cells #[.bool false, .string ⟨#[]⟩] 24)
 rw [World.size_alloc] at hby
 rw [World.size_alloc, World.size_alloc] at hbr
 have hb0 : Below w.heap.size w (((w.alloc (.cells #[.bool zx.neg, .string zx.mag] 24)).alloc (.cells #[.bool zy.neg, .string zy.mag] 24)).alloc (.cells #[.bool false, .string ⟨#[]⟩] 24)) := (((Below.refl _ w).alloc (Nat.le_refl _) _).alloc (by simp) _).alloc (by simp; omega) _
 have HVx := lhd (fun (h : (canon x).mag.size ≤ 7) W => refValue_any x h W)
 have HVy := lhd (fun (h : (canon y).mag.size ≤ 7) W => refValue_any y h W)
 have hBx := canon_bval x
 have hBy := canon_bval y
 have hNx := canon_neg x
 have hNy := canon_neg y
 have HMm := lhd (fun W => refMulMag_any (canon x).mag (canon y).mag hxy W)
 rw [hBx, hBy] at HMm
 have HSl := lhd (fun (h : (canon x).mag.size + (canon y).mag.size ≤ 7) => small_mul h)
 have HOf := lhd (fun (h : (canon x).mag.size + (canon y).mag.size ≤ 7) W => refOfInt_any (x * y) (by have := small_mul h; omega) (by have := small_mul h; omega) W)
 have HR : Hid (∀ (a : Bool) (m : Nat), a = decide (x * y < 0) → m = (x * y).natAbs → (.agg #[.bool a, .string ⟨(beb m).toArray⟩] : Value) = .agg #[.bool (canon (x * y)).neg, .string (canon (x * y)).mag]) := lhd (fun a m ha hm => by rw [ha, hm]; rfl)
 have HEx : Hid (x = 0 ∨ (canon x).mag.toList.isEmpty = false) := lhd (empty_mag x)
 have HEy : Hid (y = 0 ∨ (canon y).mag.toList.isEmpty = false) := lhd (empty_mag y)
 have HEx0 : Hid (x = 0 → canon x = ⟨false, ⟨#[]⟩⟩) := lhd (fun h => by rw [h]; rfl)
 have HEy0 : Hid (y = 0 → canon y = ⟨false, ⟨#[]⟩⟩) := lhd (fun h => by rw [h]; rfl)
 obtain ⟨X, hX⟩ : ∃ Z, canon x = Z := ⟨_, rfl⟩
 obtain ⟨Y, hY⟩ : ∃ Z, canon y = Z := ⟨_, rfl⟩
 obtain ⟨R, hR⟩ : ∃ Z, canon (x * y) = Z := ⟨_, rfl⟩
 rw [hX] at HVx HMm HOf HSl HCx hNx hx hxy HEx HEx0
 rw [hY] at HVy HMm HOf HSl HCy hNy hy hxy HEy HEy0
 rw [hR] at HOf HR ⊢
 have HNx := lhd hNx
 have HNy := lhd hNy
 clear hX hY hR hBx hBy hNx hNy
 obtain ⟨W0, hW0⟩ : ∃ W, (((w.alloc (.cells #[.bool zx.neg, .string zx.mag] 24)).alloc (.cells #[.bool zy.neg, .string zy.mag] 24)).alloc (.cells #[.bool false, .string ⟨#[]⟩] 24)) = W := ⟨_, rfl⟩
 rw [hW0] at hbx hby hbr hb0
 have Hbx := lhd hbx
 have Hby := lhd hby
 have Hbr := lhd hbr
 have Hb0 := lhd hb0
 have HW0 := lhd hW0
 clear hbx hby hbr hb0 hW0
 go_enter Tryz.func49, Tryz.ntmps49
 go_wp2_with fail
 rw [HW0.out]
 clear HW0
 obtain ⟨gx, hgx⟩ : ∃ g, w.heap.size = g := ⟨_, rfl⟩
 rw [hgx] at Hbx Hby Hbr ⊢
 obtain ⟨SS, hSe⟩ : ∃ SS : World → Prop, SS = fun W => W.cell? ⟨gx, 0, none⟩ = some (.bool X.neg) ∧ W.cell? ⟨gx, 1, none⟩ = some (.string X.mag) ∧ W.cell? ⟨gx + 1, 0, none⟩ = some (.bool Y.neg) ∧ W.cell? ⟨gx + 1, 1, none⟩ = some (.string Y.mag) := ⟨_, rfl⟩
 have HSB : Hid (∀ W, BoxAt W gx (.bool X.neg) (.string X.mag) → BoxAt W (gx + 1) (.bool Y.neg) (.string Y.mag) → SS W) := lhd (fun W h1 h2 => by rw [hSe]; exact ⟨h1.1, h1.2.1, h2.1, h2.2.1⟩)
 have n01 : gx ≠ gx + 1 := by omega
 have n10 : gx + 1 ≠ gx := by omega
 have n02 : gx ≠ gx + 1 + 1 := by omega
 have n12 : gx + 1 ≠ gx + 1 + 1 := by omega
 have l0 : w.heap.size ≤ gx := by omega
 have l1 : w.heap.size ≤ gx + 1 := by omega
 have Hgx := lhd hgx
 clear hgx
 go_cut [6] (fun _ wx => Hid (BoxAt wx gx (.bool X.neg) (.string X.mag)) ∧ Hid (BoxAt wx (gx + 1) (.bool Y.neg) (.string Y.mag)) ∧ Hid (BoxAt wx (gx + 1 + 1) (.bool false) (.string ⟨#[]⟩)) ∧ Hid (Below w.heap.size w wx))
 case first =>
  refine wp_region_held_drew (S := fun _ => True) (by kernel_rfl) trivial (fun _ => ?_)
  have A_q1 := lhd (BoxAt.drz Hbx.out)
  have B_q1 := lhd (BoxAt.drz Hby.out)
  have Z_q1 := lhd (Hb0.out.drew)
  have R_q1 := lhd (BoxAt.drz Hbr.out)
  try simp only [Act.put, ny1, ny2, ny3, ny4, ny5, ny6]
  refine wpAnyH_ready (rs := [0, 2]) (by kernel_rfl) (by simp) ?_
  refine AllReadyH.cons rfl (fun K hK => ?_) (AllReadyH.cons rfl (fun K hK => ?_) AllReadyH.nil)
  ·obtain ⟨z0, z1, _, _, _⟩ := A_q1.out
   go_simp
   refine hK.out _ _ trivial (fun _ => ?_)
   clear hK K z0 z1
   try simp only [Act.put, ny1, ny2, ny3, ny4, ny5, ny6]
   refine wpAnyH_ready (rs := [1, 2]) (by kernel_rfl) (by simp) ?_
   refine AllReadyH.cons rfl (fun K hK => ?_) (AllReadyH.cons rfl (fun K hK => ?_) AllReadyH.nil)
   ·go_simp
    refine (HCx.out _).mono ?_
    rintro e wq2 ⟨rfl, hbc⟩
    have A_q2 := lhd (A_q1.out.below hbc A_q1.out.2.2.2.2)
    have B_q2 := lhd (B_q1.out.below hbc B_q1.out.2.2.2.2)
    have Z_q2 := lhd (Z_q1.out.trans (hbc.mono Z_q1.out.size))
    have R_q2 := lhd (R_q1.out.below hbc R_q1.out.2.2.2.2)
    dsimp only
    refine hK.out _ _ trivial (fun _ => ?_)
    clear hK K hbc
    try simp only [Act.put, ny1, ny2, ny3, ny4, ny5, ny6]
    refine wpAnyH_ready (rs := [2]) (by kernel_rfl) (by simp) ?_
    refine AllReadyH.cons rfl (fun K hK => ?_) AllReadyH.nil
    obtain ⟨z0, z1, _, _, _⟩ := B_q2.out
    go_simp
    refine hK.out _ _ trivial (fun _ => ?_)
    clear hK K z0 z1
    try simp only [Act.put, ny1, ny2, ny3, ny4, ny5, ny6]
    refine wpAnyH_ready (rs := [3]) (by kernel_rfl) (by simp) ?_
    refine AllReadyH.cons rfl (fun K hK => ?_) AllReadyH.nil
    go_simp
    refine (HCy.out _).mono ?_
    rintro e wq3 ⟨rfl, hbc⟩
    have A_q3 := lhd (A_q2.out.below hbc A_q2.out.2.2.2.2)
    have B_q3 := lhd (B_q2.out.below hbc B_q2.out.2.2.2.2)
    have Z_q3 := lhd (Z_q2.out.trans (hbc.mono Z_q2.out.size))
    have R_q3 := lhd (R_q2.out.below hbc R_q2.out.2.2.2.2)
    dsimp only
    refine hK.out _ _ trivial (fun _ => ?_)
    clear hK K hbc
    try simp only [Act.put, ny1, ny2, ny3, ny4, ny5, ny6]
    refine wpAnyH_ready (rs := [4]) (by kernel_rfl) (by simp) ?_
    refine AllReadyH.cons rfl (fun K hK => ?_) AllReadyH.nil
    obtain ⟨z0, z1, z2, z3, _⟩ := A_q3.out
    have A_q4 := lhd (A_q3.out.set2 (.bool X.neg) (.string X.mag))
    have B_q4 := lhd (((B_q3.out).far ⟨gx, 0, none⟩ (.bool X.neg) n01).far ⟨gx, 1, none⟩ (.string X.mag) n01)
    have Z_q4 := lhd (((Z_q3.out).setCell (p := ⟨gx, 0, none⟩) l0 (.bool X.neg)).setCell (p := ⟨gx, 1, none⟩) l0 (.string X.mag))
    have R_q4 := lhd (((R_q3.out).far ⟨gx, 0, none⟩ (.bool X.neg) n02).far ⟨gx, 1, none⟩ (.string X.mag) n02)
    go_simp
    refine hK.out _ _ trivial (fun _ => ?_)
    clear hK K z0 z1 z2 z3
    try simp only [Act.put, ny1, ny2, ny3, ny4, ny5, ny6]
    refine wpAnyH_ready (rs := [5]) (by kernel_rfl) (by simp) ?_
    refine AllReadyH.cons rfl (fun K hK => ?_) AllReadyH.nil
    obtain ⟨z0, z1, z2, z3, _⟩ := B_q4.out
    have A_q5 := lhd (((A_q4.out).far ⟨(gx + 1), 0, none⟩ (.bool Y.neg) n10).far ⟨(gx + 1), 1, none⟩ (.string Y.mag) n10)
    have B_q5 := lhd (B_q4.out.set2 (.bool Y.neg) (.string Y.mag))
    have Z_q5 := lhd (((Z_q4.out).setCell (p := ⟨(gx + 1), 0, none⟩) l1 (.bool Y.neg)).setCell (p := ⟨(gx + 1), 1, none⟩) l1 (.string Y.mag))
    have R_q5 := lhd (((R_q4.out).far ⟨(gx + 1), 0, none⟩ (.bool Y.neg) n12).far ⟨(gx + 1), 1, none⟩ (.string Y.mag) n12)
    go_simp
    refine hK.out _ _ trivial (fun _ => ?_)
    clear hK K z0 z1 z2 z3
    refine wpAnyH_done (by kernel_rfl) ?_ _
    go_wp2_with fail
    go_meet
    exact ⟨A_q5, B_q5, R_q5, Z_q5⟩
   ·obtain ⟨z0, z1, _, _, _⟩ := B_q1.out
    go_simp
    refine hK.out _ _ trivial (fun _ => ?_)
    clear hK K z0 z1
    try simp only [Act.put, ny1, ny2, ny3, ny4, ny5, ny6]
    refine wpAnyH_ready (rs := [1]) (by kernel_rfl) (by simp) ?_
    refine AllReadyH.cons rfl (fun K hK => ?_) AllReadyH.nil
    go_simp
    refine (HCx.out _).mono ?_
    rintro e wq6 ⟨rfl, hbc⟩
    have A_q6 := lhd (A_q1.out.below hbc A_q1.out.2.2.2.2)
    have B_q6 := lhd (B_q1.out.below hbc B_q1.out.2.2.2.2)
    have Z_q6 := lhd (Z_q1.out.trans (hbc.mono Z_q1.out.size))
    have R_q6 := lhd (R_q1.out.below hbc R_q1.out.2.2.2.2)
    dsimp only
    refine hK.out _ _ trivial (fun _ => ?_)
    clear hK K hbc
    try simp only [Act.put, ny1, ny2, ny3, ny4, ny5, ny6]
    refine wpAnyH_ready (rs := [3]) (by kernel_rfl) (by simp) ?_
    refine AllReadyH.cons rfl (fun K hK => ?_) AllReadyH.nil
    go_simp
    refine (HCy.out _).mono ?_
    rintro e wq7 ⟨rfl, hbc⟩
    have A_q7 := lhd (A_q6.out.below hbc A_q6.out.2.2.2.2)
    have B_q7 := lhd (B_q6.out.below hbc B_q6.out.2.2.2.2)
    have Z_q7 := lhd (Z_q6.out.trans (hbc.mono Z_q6.out.size))
    have R_q7 := lhd (R_q6.out.below hbc R_q6.out.2.2.2.2)
    dsimp only
    refine hK.out _ _ trivial (fun _ => ?_)
    clear hK K hbc
    try simp only [Act.put, ny1, ny2, ny3, ny4, ny5, ny6]
    refine wpAnyH_ready (rs := [4]) (by kernel_rfl) (by simp) ?_
    refine AllReadyH.cons rfl (fun K hK => ?_) AllReadyH.nil
    obtain ⟨z0, z1, z2, z3, _⟩ := A_q7.out
    have A_q8 := lhd (A_q7.out.set2 (.bool X.neg) (.string X.mag))
    have B_q8 := lhd (((B_q7.out).far ⟨gx, 0, none⟩ (.bool X.neg) n01).far ⟨gx, 1, none⟩ (.string X.mag) n01)
    have Z_q8 := lhd (((Z_q7.out).setCell (p := ⟨gx, 0, none⟩) l0 (.bool X.neg)).setCell (p := ⟨gx, 1, none⟩) l0 (.string X.mag))
    have R_q8 := lhd (((R_q7.out).far ⟨gx, 0, none⟩ (.bool X.neg) n02).far ⟨gx, 1, none⟩ (.string X.mag) n02)
    go_simp
    refine hK.out _ _ trivial (fun _ => ?_)
    clear hK K z0 z1 z2 z3
    try simp only [Act.put, ny1, ny2, ny3, ny4, ny5, ny6]
    refine wpAnyH_ready (rs := [5]) (by kernel_rfl) (by simp) ?_
    refine AllReadyH.cons rfl (fun K hK => ?_) AllReadyH.nil
    obtain ⟨z0, z1, z2, z3, _⟩ := B_q8.out
    have A_q9 := lhd (((A_q8.out).far ⟨(gx + 1), 0, none⟩ (.bool Y.neg) n10).far ⟨(gx + 1), 1, none⟩ (.string Y.mag) n10)
    have B_q9 := lhd (B_q8.out.set2 (.bool Y.neg) (.string Y.mag))
    have Z_q9 := lhd (((Z_q8.out).setCell (p := ⟨(gx + 1), 0, none⟩) l1 (.bool Y.neg)).setCell (p := ⟨(gx + 1), 1, none⟩) l1 (.string Y.mag))
    have R_q9 := lhd (((R_q8.out).far ⟨(gx + 1), 0, none⟩ (.bool Y.neg) n12).far ⟨(gx + 1), 1, none⟩ (.string Y.mag) n12)
    go_simp
    refine hK.out _ _ trivial (fun _ => ?_)
    clear hK K z0 z1 z2 z3
    refine wpAnyH_done (by kernel_rfl) ?_ _
    go_wp2_with fail
    go_meet
    exact ⟨A_q9, B_q9, R_q9, Z_q9⟩
  ·obtain ⟨z0, z1, _, _, _⟩ := B_q1.out
   go_simp
   refine hK.out _ _ trivial (fun _ => ?_)
   clear hK K z0 z1
   try simp only [Act.put, ny1, ny2, ny3, ny4, ny5, ny6]
   refine wpAnyH_ready (rs := [0]) (by kernel_rfl) (by simp) ?_
   refine AllReadyH.cons rfl (fun K hK => ?_) AllReadyH.nil
   obtain ⟨z0, z1, _, _, _⟩ := A_q1.out
   go_simp
   refine hK.out _ _ trivial (fun _ => ?_)
   clear hK K z0 z1
   try simp only [Act.put, ny1, ny2, ny3, ny4, ny5, ny6]
   refine wpAnyH_ready (rs := [1]) (by kernel_rfl) (by simp) ?_
   refine AllReadyH.cons rfl (fun K hK => ?_) AllReadyH.nil
   go_simp
   refine (HCx.out _).mono ?_
   rintro e wq10 ⟨rfl, hbc⟩
   have A_q10 := lhd (A_q1.out.below hbc A_q1.out.2.2.2.2)
   have B_q10 := lhd (B_q1.out.below hbc B_q1.out.2.2.2.2)
   have Z_q10 := lhd (Z_q1.out.trans (hbc.mono Z_q1.out.size))
   have R_q10 := lhd (R_q1.out.below hbc R_q1.out.2.2.2.2)
   dsimp only
   refine hK.out _ _ trivial (fun _ => ?_)
   clear hK K hbc
   try simp only [Act.put, ny1, ny2, ny3, ny4, ny5, ny6]
   refine wpAnyH_ready (rs := [3]) (by kernel_rfl) (by simp) ?_
   refine AllReadyH.cons rfl (fun K hK => ?_) AllReadyH.nil
   go_simp
   refine (HCy.out _).mono ?_
   rintro e wq11 ⟨rfl, hbc⟩
   have A_q11 := lhd (A_q10.out.below hbc A_q10.out.2.2.2.2)
   have B_q11 := lhd (B_q10.out.below hbc B_q10.out.2.2.2.2)
   have Z_q11 := lhd (Z_q10.out.trans (hbc.mono Z_q10.out.size))
   have R_q11 := lhd (R_q10.out.below hbc R_q10.out.2.2.2.2)
   dsimp only
   refine hK.out _ _ trivial (fun _ => ?_)
   clear hK K hbc
   try simp only [Act.put, ny1, ny2, ny3, ny4, ny5, ny6]
   refine wpAnyH_ready (rs := [4]) (by kernel_rfl) (by simp) ?_
   refine AllReadyH.cons rfl (fun K hK => ?_) AllReadyH.nil
   obtain ⟨z0, z1, z2, z3, _⟩ := A_q11.out
   have A_q12 := lhd (A_q11.out.set2 (.bool X.neg) (.string X.mag))
   have B_q12 := lhd (((B_q11.out).far ⟨gx, 0, none⟩ (.bool X.neg) n01).far ⟨gx, 1, none⟩ (.string X.mag) n01)
   have Z_q12 := lhd (((Z_q11.out).setCell (p := ⟨gx, 0, none⟩) l0 (.bool X.neg)).setCell (p := ⟨gx, 1, none⟩) l0 (.string X.mag))
   have R_q12 := lhd (((R_q11.out).far ⟨gx, 0, none⟩ (.bool X.neg) n02).far ⟨gx, 1, none⟩ (.string X.mag) n02)
   go_simp
   refine hK.out _ _ trivial (fun _ => ?_)
   clear hK K z0 z1 z2 z3
   try simp only [Act.put, ny1, ny2, ny3, ny4, ny5, ny6]
   refine wpAnyH_ready (rs := [5]) (by kernel_rfl) (by simp) ?_
   refine AllReadyH.cons rfl (fun K hK => ?_) AllReadyH.nil
   obtain ⟨z0, z1, z2, z3, _⟩ := B_q12.out
   have A_q13 := lhd (((A_q12.out).far ⟨(gx + 1), 0, none⟩ (.bool Y.neg) n10).far ⟨(gx + 1), 1, none⟩ (.string Y.mag) n10)
   have B_q13 := lhd (B_q12.out.set2 (.bool Y.neg) (.string Y.mag))
   have Z_q13 := lhd (((Z_q12.out).setCell (p := ⟨(gx + 1), 0, none⟩) l1 (.bool Y.neg)).setCell (p := ⟨(gx + 1), 1, none⟩) l1 (.string Y.mag))
   have R_q13 := lhd (((R_q12.out).far ⟨(gx + 1), 0, none⟩ (.bool Y.neg) n12).far ⟨(gx + 1), 1, none⟩ (.string Y.mag) n12)
   go_simp
   refine hK.out _ _ trivial (fun _ => ?_)
   clear hK K z0 z1 z2 z3
   refine wpAnyH_done (by kernel_rfl) ?_ _
   go_wp2_with fail
   go_meet
   exact ⟨A_q13, B_q13, R_q13, Z_q13⟩
 obtain ⟨Hbx, Hby, Hbr, Hb⟩ := hcut
 clear n01 n10 n02 n12 l0 l1
 have hgx := Hgx.out
 generalize wc = V at *
 clear HCx HCy Hb0
 obtain ⟨x0, x1, x2, x3, x4⟩ := Hbx.out
 obtain ⟨y0, y1, y2, y3, y4⟩ := Hby.out
 by_cases hx0 : x = 0
 ·have hxy0 : x * y = 0 := by rw [hx0, Int.zero_mul]
  have hXe := HEx0.out hx0
  have e1 : X.mag.toList.isEmpty = true := by rw [hXe, ByteArray.toList_eq]; rfl
  clear hXe hx0
  have HQ : Hid (false = decide (x * y < 0) ∧ 0 = (x * y).natAbs) := lhd (by rw [hxy0]; exact ⟨rfl, rfl⟩)
  clear hxy0
  obtain ⟨r0, r1, r2, r3, r4⟩ := Hbr.out
  have hbr6 := boxp_set Hbr.out (.bool false) (.string ⟨#[]⟩)
  have hbw : Below w.heap.size w ((V.setCell ⟨gx + 1 + 1, 0, none⟩ (.bool false)).setCell ⟨gx + 1 + 1, 1, none⟩ (.string ⟨#[]⟩)) := (Hb.out.setCell (by rw [hgx]; exact Nat.le_add_right gx 2) _).setCell (by rw [hgx]; exact Nat.le_add_right gx 2) _
  obtain ⟨c0, c1, _, _, _⟩ := hbr6
  go_wp2
  refine bodyPost_ret (v := .agg #[.bool false, .string ⟨#[]⟩]) (by simp [results, Tryz.results49, go_sem, c0, c1]) rfl ⟨by rw [← HR.out _ _ HQ.out.1 HQ.out.2]; rfl, hbw⟩
 ·have e1 := HEx.out.resolve_left hx0
  by_cases hy0 : y = 0
  ·have hxy0 : x * y = 0 := by rw [hy0, Int.mul_zero]
   have hYe := HEy0.out hy0
   have e2 : Y.mag.toList.isEmpty = true := by rw [hYe, ByteArray.toList_eq]; rfl
   clear hYe hy0 hx0
   have HQ : Hid (false = decide (x * y < 0) ∧ 0 = (x * y).natAbs) := lhd (by rw [hxy0]; exact ⟨rfl, rfl⟩)
   clear hxy0
   obtain ⟨r0, r1, r2, r3, r4⟩ := Hbr.out
   have hbr6 := boxp_set Hbr.out (.bool false) (.string ⟨#[]⟩)
   have hbw : Below w.heap.size w ((V.setCell ⟨gx + 1 + 1, 0, none⟩ (.bool false)).setCell ⟨gx + 1 + 1, 1, none⟩ (.string ⟨#[]⟩)) := (Hb.out.setCell (by rw [hgx]; exact Nat.le_add_right gx 2) _).setCell (by rw [hgx]; exact Nat.le_add_right gx 2) _
   obtain ⟨c0, c1, _, _, _⟩ := hbr6
   go_wp2
   refine bodyPost_ret (v := .agg #[.bool false, .string ⟨#[]⟩]) (by simp [results, Tryz.results49, go_sem, c0, c1]) rfl ⟨by rw [← HR.out _ _ HQ.out.1 HQ.out.2]; rfl, hbw⟩
  ·have e2 := HEy.out.resolve_left hy0
   by_cases h7 : X.mag.size + Y.mag.size < 8
   ·have i7 : (X.mag.size : Int) + (Y.mag.size : Int) < 8 := by omega
    have hsl := HSl.out (by omega)
    have hwr : IntKind.i64.wrap (x * y) = x * y := IntWalk.i64_in _ (by omega)
    clear hx0 hy0
    go_wp2_with fail
    have W0e : ∃ W0, V = W0 := ⟨_, rfl⟩
    obtain ⟨W0, hV⟩ := W0e
    rw [hV] at Hbx Hby Hbr Hb x0 x1 y0 y1 ⊢
    clear hV
    have HS : Hid (∀ W, Below W0.heap.size W0 W → SS W) := lhd (fun W hW => by rw [hSe]; exact ⟨cell_below hW x0, cell_below hW x1, cell_below hW y0, cell_below hW y1⟩)
    have HS2 : Hid (∀ W a b, SS W → SS ((W.setCell ⟨gx + 1 + 1, 0, none⟩ a).setCell ⟨gx + 1 + 1, 1, none⟩ b)) := lhd (fun W a b hW => by
     rw [hSe] at hW ⊢
     obtain ⟨s1, s2, s3, s4⟩ := hW
     refine ⟨?_, ?_, ?_, ?_⟩ <;> (rw [World.cell?_setCell_other _ _ _ _ (by intro hh; simp only [Addr.mk.injEq] at hh; omega), World.cell?_setCell_other _ _ _ _ (by intro hh; simp only [Addr.mk.injEq] at hh; omega)]; assumption))
    have hd : Below W0.heap.size W0 W0.drew := (Below.refl W0.heap.size W0).drew
    clear x0 x1 x2 x3 x4 y0 y1 y2 y3 y4
    refine wp_region_held_drew (S := SS) (by kernel_rfl) (HS.out _ hd) (fun hSS => ?_)
    refine wpAnyH_take (i := 0) (v := ?_) rfl (by kernel_rfl) (by kernel_rfl) (by kernel_rfl) (fun _ _ _ h => h) (Or.inl ⟨by rfl, ?_⟩) hSS ?_
    rotate_left 1
    next => intro w hSw; rw [hSe] at hSw; obtain ⟨s1, s2, s3, s4⟩ := hSw; go_simp; try with_reducible rfl
    refine wpAnyH_take (i := 2) (v := ?_) rfl (by kernel_rfl) (by kernel_rfl) (by kernel_rfl) (fun _ _ _ h => h) (Or.inl ⟨by rfl, ?_⟩) hSS ?_
    rotate_left 1
    next => intro w hSw; rw [hSe] at hSw; obtain ⟨s1, s2, s3, s4⟩ := hSw; go_simp; try with_reducible rfl
    try simp only [Act.put, ny1, ny2, ny3, ny4, ny5, ny6]
    refine wpAnyH_ready (rs := [1]) (by kernel_rfl) (by simp) ?_
    refine AllReadyH.cons rfl (fun K hK => ?_) AllReadyH.nil
    go_simp
    refine (HVx.out (by omega) _).mono ?_
    rintro e W1 ⟨rfl, hbc⟩
    have hW1 : Below W0.heap.size W0 W1 := hd.trans (hbc.mono hd.size)
    dsimp only
    refine hK.out _ _ (HS.out _ hW1) (fun _ => ?_)
    clear hK K hbc
    try simp only [Act.put, ny1, ny2, ny3, ny4, ny5, ny6]
    refine wpAnyH_ready (rs := [3]) (by kernel_rfl) (by simp) ?_
    refine AllReadyH.cons rfl (fun K hK => ?_) AllReadyH.nil
    go_simp
    refine (HVy.out (by omega) _).mono ?_
    rintro e W2 ⟨rfl, hbc⟩
    have hW2 : Below W0.heap.size W0 W2 := hW1.trans (hbc.mono hW1.size)
    dsimp only
    refine hK.out _ _ (HS.out _ hW2) (fun _ => ?_)
    clear hK K hbc
    refine wpAnyH_take (i := 4) (v := ?_) rfl (by kernel_rfl) (by kernel_rfl) (by kernel_rfl) (fun _ _ _ h => h) (Or.inl ⟨by rfl, ?_⟩) (HS.out _ hW2) ?_
    rotate_left 1
    next => intro w hSw; rw [hSe] at hSw; obtain ⟨s1, s2, s3, s4⟩ := hSw; go_simp; try with_reducible rfl
    try simp only [Act.put, ny1, ny2, ny3, ny4, ny5, ny6]
    refine wpAnyH_ready (rs := [5]) (by kernel_rfl) (by simp) ?_
    refine AllReadyH.cons rfl (fun K hK => ?_) AllReadyH.nil
    go_simp
    refine (HOf.out (by omega) _).mono ?_
    rintro e W3 ⟨rfl, hbc⟩
    have hW3 : Below W0.heap.size W0 W3 := hW2.trans (hbc.mono hW2.size)
    dsimp only
    refine hK.out _ _ (HS.out _ hW3) (fun _ => ?_)
    clear hK K hbc
    have hbr5 := Hbr.out.below hW3 Hbr.out.2.2.2.2
    try simp only [Act.put, ny1, ny2, ny3, ny4, ny5, ny6]
    refine wpAnyH_ready (rs := [6]) (by kernel_rfl) (by simp) ?_
    refine AllReadyH.cons rfl (fun K hK => ?_) AllReadyH.nil
    have hq5 := hbr5
    obtain ⟨q0, q1, q2, q3, q4⟩ := hq5
    go_simp
    refine hK.out _ _ (HS2.out _ _ _ (HS.out _ hW3)) (fun _ => ?_)
    clear hK K q0 q1 q2 q3 q4
    refine wpAnyH_done (by kernel_rfl) ?_ _
    have hbr6 := boxp_set hbr5 (.bool R.neg) (.string R.mag)
    have hbw : Below w.heap.size w ((W3.setCell ⟨gx + 1 + 1, 0, none⟩ (.bool R.neg)).setCell ⟨gx + 1 + 1, 1, none⟩ (.string R.mag)) := ((Hb.out.trans (hW3.mono Hb.out.size)).setCell (by rw [hgx]; exact Nat.le_add_right gx 2) _).setCell (by rw [hgx]; exact Nat.le_add_right gx 2) _
    obtain ⟨c0, c1, _, _, _⟩ := hbr6
    go_wp2
    refine bodyPost_ret (v := .agg #[.bool R.neg, .string R.mag]) (by simp [results, Tryz.results49, go_sem, c0, c1]) rfl ⟨rfl, hbw⟩
   ·have i7 : ¬ (X.mag.size : Int) + (Y.mag.size : Int) < 8 := by omega
    have HQ : Hid ((!(X.neg == Y.neg)) = decide (x * y < 0) ∧ x.natAbs * y.natAbs = (x * y).natAbs) := lhd ⟨by rw [HNx.out, HNy.out]; exact sign_mul hx0 hy0, (Int.natAbs_mul x y).symm⟩
    clear hx0 hy0 HVx HVy HOf HSl
    go_wp2_with fail
    have W0e : ∃ W0, V = W0 := ⟨_, rfl⟩
    obtain ⟨W0, hV⟩ := W0e
    rw [hV] at Hbx Hby Hbr Hb x0 x1 y0 y1 ⊢
    clear hV
    have HS : Hid (∀ W, Below W0.heap.size W0 W → SS W) := lhd (fun W hW => by rw [hSe]; exact ⟨cell_below hW x0, cell_below hW x1, cell_below hW y0, cell_below hW y1⟩)
    have HS2 : Hid (∀ W a b, SS W → SS ((W.setCell ⟨gx + 1 + 1, 0, none⟩ a).setCell ⟨gx + 1 + 1, 1, none⟩ b)) := lhd (fun W a b hW => by
     rw [hSe] at hW ⊢
     obtain ⟨s1, s2, s3, s4⟩ := hW
     refine ⟨?_, ?_, ?_, ?_⟩ <;> (rw [World.cell?_setCell_other _ _ _ _ (by intro hh; simp only [Addr.mk.injEq] at hh; omega), World.cell?_setCell_other _ _ _ _ (by intro hh; simp only [Addr.mk.injEq] at hh; omega)]; assumption))
    have hd : Below W0.heap.size W0 W0.drew := (Below.refl W0.heap.size W0).drew
    clear x0 x1 x2 x3 x4 y0 y1 y2 y3 y4
    refine wp_region_held_drew (S := SS) (by kernel_rfl) (HS.out _ hd) (fun hSS => ?_)
    refine wpAnyH_take (i := 0) (v := ?_) rfl (by kernel_rfl) (by kernel_rfl) (by kernel_rfl) (fun _ _ _ h => h) (Or.inl ⟨by rfl, ?_⟩) hSS ?_
    rotate_left 1
    next => intro w hSw; rw [hSe] at hSw; obtain ⟨s1, s2, s3, s4⟩ := hSw; go_simp; try with_reducible rfl
    refine wpAnyH_take (i := 1) (v := ?_) rfl (by kernel_rfl) (by kernel_rfl) (by kernel_rfl) (fun _ _ _ h => h) (Or.inl ⟨by rfl, ?_⟩) hSS ?_
    rotate_left 1
    next => intro w hSw; rw [hSe] at hSw; obtain ⟨s1, s2, s3, s4⟩ := hSw; go_simp; try with_reducible rfl
    refine wpAnyH_take (i := 2) (v := ?_) rfl (by kernel_rfl) (by kernel_rfl) (by kernel_rfl) (fun _ _ _ h => h) (Or.inl ⟨by rfl, ?_⟩) hSS ?_
    rotate_left 1
    next => intro w hSw; rw [hSe] at hSw; obtain ⟨s1, s2, s3, s4⟩ := hSw; go_simp; try with_reducible rfl
    refine wpAnyH_take (i := 3) (v := ?_) rfl (by kernel_rfl) (by kernel_rfl) (by kernel_rfl) (fun _ _ _ h => h) (Or.inl ⟨by rfl, ?_⟩) hSS ?_
    rotate_left 1
    next => intro w hSw; rw [hSe] at hSw; obtain ⟨s1, s2, s3, s4⟩ := hSw; go_simp; try with_reducible rfl
    refine wpAnyH_take (i := 4) (v := ?_) rfl (by kernel_rfl) (by kernel_rfl) (by kernel_rfl) (fun _ _ _ h => h) (Or.inl ⟨by rfl, ?_⟩) hSS ?_
    rotate_left 1
    next => intro w hSw; rw [hSe] at hSw; obtain ⟨s1, s2, s3, s4⟩ := hSw; go_simp; try with_reducible rfl
    refine wpAnyH_take (i := 5) (v := ?_) rfl (by kernel_rfl) (by kernel_rfl) (by kernel_rfl) (fun _ _ _ h => h) (Or.inl ⟨by rfl, ?_⟩) hSS ?_
    rotate_left 1
    next => intro w hSw; rw [hSe] at hSw; obtain ⟨s1, s2, s3, s4⟩ := hSw; go_simp; try with_reducible rfl
    refine wpAnyH_take (i := 6) (v := ?_) rfl (by kernel_rfl) (by kernel_rfl) (by kernel_rfl) (fun _ _ _ h => h) (Or.inl ⟨by rfl, ?_⟩) hSS ?_
    rotate_left 1
    next => intro w hSw; rw [hSe] at hSw; obtain ⟨s1, s2, s3, s4⟩ := hSw; go_simp; try with_reducible rfl
    refine wpAnyH_take (i := 7) (v := ?_) rfl (by kernel_rfl) (by kernel_rfl) (by kernel_rfl) (fun _ _ _ h => h) (Or.inl ⟨by rfl, ?_⟩) hSS ?_
    rotate_left 1
    next => intro w hSw; rw [hSe] at hSw; obtain ⟨s1, s2, s3, s4⟩ := hSw; go_simp; try with_reducible rfl
    refine wpAnyH_take (i := 8) (v := ?_) rfl (by kernel_rfl) (by kernel_rfl) (by kernel_rfl) (fun _ _ _ h => h) (Or.inl ⟨by rfl, ?_⟩) hSS ?_
    rotate_left 1
    next => intro w hSw; rw [hSe] at hSw; obtain ⟨s1, s2, s3, s4⟩ := hSw; go_simp; try with_reducible rfl
    try simp only [Act.put, ny1, ny2, ny3, ny4, ny5, ny6]
    refine wpAnyH_ready (rs := [9]) (by kernel_rfl) (by simp) ?_
    refine AllReadyH.cons rfl (fun K hK => ?_) AllReadyH.nil
    go_simp
    refine (HMm.out _).mono ?_
    rintro e W1 ⟨rfl, hbc⟩
    have hW1 : Below W0.heap.size W0 W1 := hd.trans (hbc.mono hd.size)
    dsimp only
    refine hK.out _ _ (HS.out _ hW1) (fun _ => ?_)
    clear hK K hbc
    refine wpAnyH_take (i := 10) (v := ?_) rfl (by kernel_rfl) (by kernel_rfl) (by kernel_rfl) (fun _ _ _ h => h) (Or.inl ⟨by rfl, ?_⟩) (HS.out _ hW1) ?_
    rotate_left 1
    next => intro w hSw; rw [hSe] at hSw; obtain ⟨s1, s2, s3, s4⟩ := hSw; go_simp; try with_reducible rfl
    have hbr5 := Hbr.out.below hW1 Hbr.out.2.2.2.2
    try simp only [Act.put, ny1, ny2, ny3, ny4, ny5, ny6]
    refine wpAnyH_ready (rs := [11]) (by kernel_rfl) (by simp) ?_
    refine AllReadyH.cons rfl (fun K hK => ?_) AllReadyH.nil
    have hq5 := hbr5
    obtain ⟨q0, q1, q2, q3, q4⟩ := hq5
    go_simp
    refine hK.out _ _ (HS2.out _ _ _ (HS.out _ hW1)) (fun _ => ?_)
    clear hK K q0 q1 q2 q3 q4
    refine wpAnyH_done (by kernel_rfl) ?_ _
    have hbr6 := boxp_set hbr5 (.bool (!(X.neg == Y.neg))) (.string ⟨(beb (x.natAbs * y.natAbs)).toArray⟩)
    have hbw : Below w.heap.size w ((W1.setCell ⟨gx + 1 + 1, 0, none⟩ (.bool (!(X.neg == Y.neg)))).setCell ⟨gx + 1 + 1, 1, none⟩ (.string ⟨(beb (x.natAbs * y.natAbs)).toArray⟩)) := ((Hb.out.trans (hW1.mono Hb.out.size)).setCell (by rw [hgx]; exact Nat.le_add_right gx 2) _).setCell (by rw [hgx]; exact Nat.le_add_right gx 2) _
    obtain ⟨c0, c1, _, _, _⟩ := hbr6
    go_wp2
    refine bodyPost_ret (v := .agg #[.bool (!(X.neg == Y.neg)), .string ⟨(beb (x.natAbs * y.natAbs)).toArray⟩]) (by simp [results, Tryz.results49, go_sem, c0, c1]) rfl ⟨by rw [HR.out _ _ HQ.out.1 HQ.out.2], hbw⟩
end Go.Proofs.YtmbamcpndbimaaaGreatDoor
