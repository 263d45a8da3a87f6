/- top23Golden, top23Awake. -/
import Derived.Test.YtlaoijfphkhchaaTrl
import Derived.Test.YtlaoijfphkhchaaEqz
namespace Go.Proofs.Ytlaoijfphkhchaa
open Go.RowKit Go.Shelf
/-- The edges of the example. -/
def goldE (i j : Nat) : Int := ([[0, 0, 0], [0, 1, 1], [1, 0, 0]].getD i []).getD j 0
theorem gold_cells (V : World) (i j : Nat) (hi : i < 3) (hj : j < 3) : (V.alloc (.cells #[.int .i64 0, .int .i64 0, .int .i64 0, .int .i64 0, .int .i64 1, .int .i64 1, .int .i64 1, .int .i64 0, .int .i64 0] 97)).cell? ⟨V.heap.size, i * 3 + j, none⟩ = some (edC goldE i j) := by
  rw [World.cell?_alloc_new]
  match i, hi, j, hj with
  | 0, _, 0, _ => rfl
  | 0, _, 1, _ => rfl
  | 0, _, 2, _ => rfl
  | 1, _, 0, _ => rfl
  | 1, _, 1, _ => rfl
  | 1, _, 2, _ => rfl
  | 2, _, 0, _ => rfl
  | 2, _, 1, _ => rfl
  | 2, _, 2, _ => rfl
set_option maxRecDepth 100000 in
theorem golden_any (w : World) : Calls Try.prog 39 #[] w fun e w' => ∃ g, e = .returned (.agg #[.int .i64 2, .int .i64 2, .slice (some ⟨g, 0, none⟩) 3 3]) ∧ EdgAt w' (some ⟨g, 0, none⟩) 3 goldE ∧ Below w.heap.size w w' := by
  go_enter Try.func39, Try.ntmps39
  go_wp2
  refine bodyPost_ret (v := .agg #[.int .i64 2, .int .i64 2, .slice (some ⟨w.heap.size + 1, 0, none⟩) 3 3]) (by simp [results, Try.results39, go_sem]) rfl ?_
  refine ⟨w.heap.size + 1, rfl, .inr ⟨w.heap.size + 1, 0, rfl, by simp, fun i hi j hj => ?_⟩, ((Below.refl _ _).alloc (Nat.le_refl _) _).alloc (by simp) _⟩
  have h9 := gold_cells (w.alloc (.cells #[.int .i64 2, .int .i64 2, .slice (some ⟨w.heap.size + 1, 0, none⟩) 3 3] 24)) i j hi hj
  simpa using h9
theorem gold_chk : gChk 2 2 3 goldE = 0 := by decide +kernel
theorem gold_cap : capChk 2 2 3 goldE false = 0 := by decide +kernel
theorem gold_tr : trF 2 (powF 2 (adjE goldE 3) 3) = 4 := by decide +kernel
def goldC (k : Nat) : Int := [-1, -1, 1].getD k 0
theorem gold_chr : ∀ k, k < 3 → chrP 2 (adjE goldE 3) 2 k = goldC k := by decide +kernel
theorem gold_row (V : World) (i j : Nat) (hi : i < 3) (hj : j < 2) : (V.alloc (.cells #[.bool (canon (-1)).neg, .string (canon (-1)).mag, .bool (canon (-1)).neg, .string (canon (-1)).mag, .bool (canon 1).neg, .string (canon 1).mag] 28)).cell? ⟨V.heap.size, i * 2 + j, none⟩ = some (zc (goldC i) j) := by
  rw [World.cell?_alloc_new]
  match i, hi, j, hj with
  | 0, _, 0, _ => rfl
  | 0, _, 1, _ => rfl
  | 1, _, 0, _ => rfl
  | 1, _, 1, _ => rfl
  | 2, _, 0, _ => rfl
  | 2, _, 1, _ => rfl
theorem max3z {P : Program} (ts : Array TypeId) (t : TypeId) (w : World) : (Builtin.max_ ts t #[.int .i64 0, .int .i64 0, .int .i64 0]).run P w = .ok (.int .i64 0) w := by rfl
set_option maxRecDepth 100000 in
set_option maxHeartbeats 8000000 in
theorem topAwake_any (w : World) : Calls Try.prog 11 #[] w (RetB true w) := by
  have HG := Lib.hid (fun W => golden_any W)
  have hok : EdOk 2 3 goldE := by have := gChk_ok gold_chk; simpa using this
  have HCl := Lib.hid (show ∀ (W : World) (g : Nat), EdgAt W (some ⟨g, 0, none⟩) 3 goldE → Calls Try.prog 12 #[.agg #[.int .i64 2, .int .i64 2, .slice (some ⟨g, 0, none⟩) 3 3], .int .i64 3] W (RetNumE 0 4 W) from fun W g hE => by
    have := Closed_any 2 2 3 3 goldE (some ⟨g, 0, none⟩) 3 (by decide) (by decide) (by decide) (by decide) gold_chk W hE
    rw [gold_tr] at this
    exact this)
  have HAd := Lib.hid (show ∀ (W : World) (g : Nat), EdgAt W (some ⟨g, 0, none⟩) 3 goldE → Calls Try.prog 40 #[.agg #[.int .i64 2, .int .i64 2, .slice (some ⟨g, 0, none⟩) 3 3]] W (RetMatE 0 2 2 (adjE goldE 3) W) from fun W g hE => capAdjacency_any 2 2 3 goldE (some ⟨g, 0, none⟩) 3 gold_cap hok (by decide) (by decide) W hE)
  have HCh := Lib.hid (show ∀ (W : World) (q : Option Addr) (c : Nat), MatF W q 2 2 (adjE goldE 3) → Calls Try.prog 41 #[.slice q 2 c] W (RetRowE 0 3 goldC W) from fun W q c hM => (matChr_any (by decide) (by decide) (adjE goldE 3) q c (adjE_bn goldE 3 2 (by decide)) (by decide) W hM).mono fun e w' h => by
    obtain ⟨hb, h⟩ := h
    rcases h with ⟨h0, q, k, he, hM⟩ | h
    · exact ⟨hb, .inl ⟨h0, q, k, he, hM.congr gold_chr⟩⟩
    · exact ⟨hb, .inr h⟩)
  have HO4 := Lib.hid (fun W => of_any 4 (by decide) (by decide) W)
  have HO1 := Lib.hid (fun W => of_any 1 (by decide) (by decide) W)
  have HOm := Lib.hid (fun W => of_any (-1) (by decide) (by decide) W)
  have Hbb : Hid (Below w.heap.size w w) := Lib.hid (Below.refl _ _)
  go_enter Try.func11, Try.ntmps11
  go_wp2_with fail
  refine (HG.out _).mono ?_
  rintro e W1 ⟨g1, rfl, hE1, hbc⟩
  dsimp only
  have HE1 := Lib.hid hE1
  have Hb1 := Lib.hid (Hbb.out.trans (hbc.mono Hbb.out.size))
  clear hE1 hbc Hbb
  go_wp2_with fail
  refine (HCl.out _ g1 HE1.out).mono ?_
  rintro e W2 ⟨hbc, hr⟩
  rcases hr with ⟨_, rfl⟩ | ⟨h0, _⟩
  rotate_left 1
  · exact absurd rfl h0
  dsimp only
  have hbc := hbc.alloc hbc.size (.cells #[.bool (canon 4).neg, .string (canon 4).mag] 28)
  have HX := Lib.hid (BoxAt.new W2 (.bool (canon 4).neg) (.string (canon 4).mag) 28)
  have Hb2 := Lib.hid (Hb1.out.trans (hbc.mono Hb1.out.size))
  clear hbc HE1 HCl Hb1
  go_wp2_with fail
  obtain ⟨gX, hgX⟩ : ∃ g, W2.heap.size = g := ⟨_, rfl⟩
  rw [hgX] at HX ⊢
  clear hgX
  generalize W2.alloc (.cells #[.bool (canon 4).neg, .string (canon 4).mag] 28) = W3 at *
  refine (HG.out _).mono ?_
  rintro e W4 ⟨g2, rfl, hE2, hbc⟩
  dsimp only
  have HE2 := Lib.hid hE2
  have HX4 := Lib.hid (HX.out.below hbc HX.out.2.2.2.2)
  have Hb4 := Lib.hid (Hb2.out.trans (hbc.mono Hb2.out.size))
  clear hE2 hbc HX Hb2 HG
  go_wp2_with fail
  refine (HAd.out _ g2 HE2.out).mono ?_
  rintro e W5 ⟨hbc, hr⟩
  rcases hr with ⟨_, q5, c5, rfl, hM5⟩ | ⟨h0, _⟩
  rotate_left 1
  · exact absurd rfl h0
  dsimp only
  have HM5 := Lib.hid hM5
  have HX5 := Lib.hid (HX4.out.below hbc HX4.out.2.2.2.2)
  have Hb5 := Lib.hid (Hb4.out.trans (hbc.mono Hb4.out.size))
  clear hM5 hbc HX4 Hb4 HE2 HAd
  go_wp2_with fail
  refine (HCh.out _ q5 c5 HM5.out).mono ?_
  rintro e W0 ⟨hbc, hr⟩
  rcases hr with ⟨_, q6, c6, rfl, hR6⟩ | ⟨h0, _⟩
  rotate_left 1
  · exact absurd rfl h0
  dsimp only
  have HR6 := Lib.hid hR6
  have HX6 := Lib.hid (HX5.out.below hbc HX5.out.2.2.2.2)
  have Hb6 := Lib.hid (Hb5.out.trans (hbc.mono Hb5.out.size))
  clear hR6 hbc HX5 Hb5 HM5 HCh
  go_upto_region 4 with (fail)
  have hmax := @max3z Try.prog
  obtain ⟨XX, hXX⟩ : ∃ Z, canon 4 = Z := ⟨_, rfl⟩
  rw [hXX] at HX6 HO4
  obtain ⟨a1, a2, _, _, _⟩ := HX6.out
  obtain ⟨SS, hSe⟩ : ∃ SS : World → Prop, SS = fun W => W.cell? ⟨gX, 0, none⟩ = some (.bool XX.neg) ∧ W.cell? ⟨gX, 1, none⟩ = some (.string XX.mag) := ⟨_, rfl⟩
  have HS : Hid (∀ W, Below W0.heap.size W0 W → SS W) := Lib.hid (fun W hW => by rw [hSe]; exact ⟨cell_below hW a1, cell_below hW a2⟩)
  clear a1 a2 HX6 hXX
  have hd : Below W0.heap.size W0 W0.drew := (Below.refl W0.heap.size W0).drew
  refine wp_region_held_drew (S := SS) (by kernel_rfl) (HS.out _ hd) (fun hSS => ?_)
  refine wpAnyH_take (i := 0) (v := ?_) rfl (by kernel_rfl) (by kernel_rfl) (by kernel_rfl) (fun _ _ _ h => h) (Or.inl ⟨by rfl, ?_⟩) hSS ?_
  rotate_left 1
  next => intro w hSw; rw [hSe] at hSw; obtain ⟨s1, s2⟩ := hSw; go_simp; try with_reducible rfl
  try simp only [Act.put, List.getElem_toArray, List.getElem_cons_zero, List.getElem_cons_succ, List.setIfInBounds_toArray, List.set_cons_zero, List.set_cons_succ]
  refine wpAnyH_take (i := 1) (v := ?_) rfl (by kernel_rfl) (by kernel_rfl) (by kernel_rfl) (fun _ _ _ h => h) (Or.inl ⟨by rfl, ?_⟩) hSS ?_
  rotate_left 1
  next => intro w hSw; rw [hSe] at hSw; obtain ⟨s1, s2⟩ := hSw; go_simp; try with_reducible rfl
  try simp only [Act.put, List.getElem_toArray, List.getElem_cons_zero, List.getElem_cons_succ, List.setIfInBounds_toArray, List.set_cons_zero, List.set_cons_succ]
  refine wpAnyH_take (i := 2) (v := ?_) rfl (by kernel_rfl) (by kernel_rfl) (by kernel_rfl) (fun _ _ _ h => h) (Or.inl ⟨by rfl, ?_⟩) hSS ?_
  rotate_left 1
  next => intro w hSw; rw [hSe] at hSw; obtain ⟨s1, s2⟩ := hSw; go_simp; try with_reducible rfl
  try simp only [Act.put, List.getElem_toArray, List.getElem_cons_zero, List.getElem_cons_succ, List.setIfInBounds_toArray, List.set_cons_zero, List.set_cons_succ]
  refine wpAnyH_take (i := 3) (v := ?_) rfl (by kernel_rfl) (by kernel_rfl) (by kernel_rfl) (fun _ _ _ h => h) (Or.inl ⟨by rfl, ?_⟩) hSS ?_
  rotate_left 1
  next => intro w hSw; rw [hSe] at hSw; obtain ⟨s1, s2⟩ := hSw; go_simp; try with_reducible rfl
  try simp only [Act.put, List.getElem_toArray, List.getElem_cons_zero, List.getElem_cons_succ, List.setIfInBounds_toArray, List.set_cons_zero, List.set_cons_succ]
  refine wpAnyH_take (i := 4) (v := ?_) rfl (by kernel_rfl) (by kernel_rfl) (by kernel_rfl) (fun _ _ _ h => h) (Or.inl ⟨by rfl, ?_⟩) hSS ?_
  rotate_left 1
  next => intro w hSw; rw [hSe] at hSw; obtain ⟨s1, s2⟩ := hSw; go_simp; try with_reducible rfl
  try simp only [Act.put, List.getElem_toArray, List.getElem_cons_zero, List.getElem_cons_succ, List.setIfInBounds_toArray, List.set_cons_zero, List.set_cons_succ]
  refine wpAnyH_take (i := 5) (v := ?_) rfl (by kernel_rfl) (by kernel_rfl) (by kernel_rfl) (fun _ _ _ h => h) (Or.inl ⟨by rfl, ?_⟩) hSS ?_
  rotate_left 1
  next => intro w hSw; rw [hSe] at hSw; obtain ⟨s1, s2⟩ := hSw; go_simp; try with_reducible rfl
  try simp only [Act.put, List.getElem_toArray, List.getElem_cons_zero, List.getElem_cons_succ, List.setIfInBounds_toArray, List.set_cons_zero, List.set_cons_succ]
  refine wpAnyH_take (i := 6) (v := ?_) rfl (by kernel_rfl) (by kernel_rfl) (by kernel_rfl) (fun _ _ _ h => h) (Or.inl ⟨by rfl, ?_⟩) hSS ?_
  rotate_left 1
  next => intro w hSw; rw [hSe] at hSw; obtain ⟨s1, s2⟩ := hSw; go_simp; try with_reducible rfl
  try simp only [Act.put, List.getElem_toArray, List.getElem_cons_zero, List.getElem_cons_succ, List.setIfInBounds_toArray, List.set_cons_zero, List.set_cons_succ]
  try simp only [Act.put, List.getElem_toArray, List.getElem_cons_zero, List.getElem_cons_succ, List.setIfInBounds_toArray, List.set_cons_zero, List.set_cons_succ]
  refine wpAnyH_ready (rs := [7]) (by kernel_rfl) (by simp) ?_
  refine AllReadyH.cons rfl (fun K hK => ?_) AllReadyH.nil
  go_simp
  refine (HO4.out _).mono ?_
  rintro e V1 ⟨rfl, hbc⟩
  have hV1 : Below W0.heap.size W0 V1 := hd.trans (hbc.mono hd.size)
  dsimp only
  refine hK.out _ _ (HS.out _ hV1) (fun _ => ?_)
  clear hK K hbc
  refine wpAnyH_take (i := 8) (v := ?_) rfl (by kernel_rfl) (by kernel_rfl) (by kernel_rfl) (fun _ _ _ h => h) (Or.inl ⟨by rfl, ?_⟩) (HS.out _ hV1) ?_
  rotate_left 1
  next => intro w hSw; rw [hSe] at hSw; obtain ⟨s1, s2⟩ := hSw; go_simp; try with_reducible rfl
  try simp only [Act.put, List.getElem_toArray, List.getElem_cons_zero, List.getElem_cons_succ, List.setIfInBounds_toArray, List.set_cons_zero, List.set_cons_succ]
  refine wpAnyH_take (i := 9) (v := ?_) rfl (by kernel_rfl) (by kernel_rfl) (by kernel_rfl) (fun _ _ _ h => h) (Or.inl ⟨by rfl, ?_⟩) (HS.out _ hV1) ?_
  rotate_left 1
  next => intro w hSw; rw [hSe] at hSw; obtain ⟨s1, s2⟩ := hSw; go_simp; try with_reducible rfl
  try simp only [Act.put, List.getElem_toArray, List.getElem_cons_zero, List.getElem_cons_succ, List.setIfInBounds_toArray, List.set_cons_zero, List.set_cons_succ]
  refine wpAnyH_take (i := 10) (v := ?_) rfl (by kernel_rfl) (by kernel_rfl) (by kernel_rfl) (fun _ _ _ h => h) (Or.inl ⟨by rfl, ?_⟩) (HS.out _ hV1) ?_
  rotate_left 1
  next => intro w hSw; rw [hSe] at hSw; obtain ⟨s1, s2⟩ := hSw; go_simp; try with_reducible rfl
  try simp only [Act.put, List.getElem_toArray, List.getElem_cons_zero, List.getElem_cons_succ, List.setIfInBounds_toArray, List.set_cons_zero, List.set_cons_succ]
  refine wpAnyH_take (i := 11) (v := ?_) rfl (by kernel_rfl) (by kernel_rfl) (by kernel_rfl) (fun _ _ _ h => h) (Or.inl ⟨by rfl, ?_⟩) (HS.out _ hV1) ?_
  rotate_left 1
  next => intro w hSw; rw [hSe] at hSw; obtain ⟨s1, s2⟩ := hSw; go_simp; try with_reducible rfl
  try simp only [Act.put, List.getElem_toArray, List.getElem_cons_zero, List.getElem_cons_succ, List.setIfInBounds_toArray, List.set_cons_zero, List.set_cons_succ]
  try simp only [Act.put, List.getElem_toArray, List.getElem_cons_zero, List.getElem_cons_succ, List.setIfInBounds_toArray, List.set_cons_zero, List.set_cons_succ]
  refine wpAnyH_ready (rs := [12]) (by kernel_rfl) (by simp) ?_
  refine AllReadyH.cons rfl (fun K hK => ?_) AllReadyH.nil
  go_simp
  refine (HOm.out _).mono ?_
  rintro e V2 ⟨rfl, hbc⟩
  have hV2 : Below W0.heap.size W0 V2 := hV1.trans (hbc.mono hV1.size)
  dsimp only
  refine hK.out _ _ (HS.out _ hV2) (fun _ => ?_)
  clear hK K hbc
  try simp only [Act.put, List.getElem_toArray, List.getElem_cons_zero, List.getElem_cons_succ, List.setIfInBounds_toArray, List.set_cons_zero, List.set_cons_succ]
  refine wpAnyH_ready (rs := [13]) (by kernel_rfl) (by simp) ?_
  refine AllReadyH.cons rfl (fun K hK => ?_) AllReadyH.nil
  go_simp
  refine (HOm.out _).mono ?_
  rintro e V3 ⟨rfl, hbc⟩
  have hV3 : Below W0.heap.size W0 V3 := hV2.trans (hbc.mono hV2.size)
  dsimp only
  refine hK.out _ _ (HS.out _ hV3) (fun _ => ?_)
  clear hK K hbc
  try simp only [Act.put, List.getElem_toArray, List.getElem_cons_zero, List.getElem_cons_succ, List.setIfInBounds_toArray, List.set_cons_zero, List.set_cons_succ]
  refine wpAnyH_ready (rs := [14]) (by kernel_rfl) (by simp) ?_
  refine AllReadyH.cons rfl (fun K hK => ?_) AllReadyH.nil
  go_simp
  refine (HO1.out _).mono ?_
  rintro e V4 ⟨rfl, hbc⟩
  have hV4 : Below W0.heap.size W0 V4 := hV3.trans (hbc.mono hV3.size)
  dsimp only
  refine hK.out _ _ (HS.out _ hV4) (fun _ => ?_)
  clear hK K hbc
  try simp only [Act.put, List.getElem_toArray, List.getElem_cons_zero, List.getElem_cons_succ, List.setIfInBounds_toArray, List.set_cons_zero, List.set_cons_succ]
  refine wpAnyH_ready (rs := [15]) (by kernel_rfl) (by simp) ?_
  refine AllReadyH.cons rfl (fun K hK => ?_) AllReadyH.nil
  go_simp
  have hV5 : Below W0.heap.size W0 (V4.alloc (.cells #[.bool (canon (-1)).neg, .string (canon (-1)).mag, .bool (canon (-1)).neg, .string (canon (-1)).mag, .bool (canon 1).neg, .string (canon 1).mag] 28)) := hV4.alloc hV4.size _
  have hr5 : RowF (V4.alloc (.cells #[.bool (canon (-1)).neg, .string (canon (-1)).mag, .bool (canon (-1)).neg, .string (canon (-1)).mag, .bool (canon 1).neg, .string (canon 1).mag] 28)) (some ⟨V4.heap.size, 0, none⟩) 3 goldC := .inr ⟨V4.heap.size, 0, rfl, by simp, fun i hi j hj => by
    have h9 := gold_row V4 i j hi hj
    simpa using h9⟩
  refine hK.out _ _ (HS.out _ hV5) (fun _ => ?_)
  clear hK K
  generalize V4.alloc (.cells #[.bool (canon (-1)).neg, .string (canon (-1)).mag, .bool (canon (-1)).neg, .string (canon (-1)).mag, .bool (canon 1).neg, .string (canon 1).mag] 28) = V5 at *
  have hr6 := HR6.out.below (Nat.le_refl _) hV5
  try simp only [Act.put, List.getElem_toArray, List.getElem_cons_zero, List.getElem_cons_succ, List.setIfInBounds_toArray, List.set_cons_zero, List.set_cons_succ]
  refine wpAnyH_ready (rs := [16]) (by kernel_rfl) (by simp) ?_
  refine AllReadyH.cons rfl (fun K hK => ?_) AllReadyH.nil
  go_simp
  refine (sameZs_any 3 goldC _ _ _ _ _ hr6 hr5 (by decide)).mono ?_
  rintro e V6 ⟨rfl, hbc⟩
  have hV6 : Below W0.heap.size W0 V6 := hV5.trans (hbc.mono hV5.size)
  dsimp only
  refine hK.out _ _ (HS.out _ hV6) (fun _ => ?_)
  clear hK K hbc
  refine wpAnyH_take (i := 17) (v := ?_) rfl (by kernel_rfl) (by kernel_rfl) (by kernel_rfl) (fun _ _ _ h => h) (Or.inl ⟨by rfl, ?_⟩) (HS.out _ hV6) ?_
  rotate_left 1
  next => intro w hSw; rw [hSe] at hSw; obtain ⟨s1, s2⟩ := hSw; go_simp; try with_reducible rfl
  try simp only [Act.put, List.getElem_toArray, List.getElem_cons_zero, List.getElem_cons_succ, List.setIfInBounds_toArray, List.set_cons_zero, List.set_cons_succ]
  refine wpAnyH_take (i := 18) (v := ?_) rfl (by kernel_rfl) (by kernel_rfl) (by kernel_rfl) (fun _ _ _ h => h) (Or.inl ⟨by rfl, ?_⟩) (HS.out _ hV6) ?_
  rotate_left 1
  next => intro w hSw; rw [hSe] at hSw; obtain ⟨s1, s2⟩ := hSw; go_simp; try with_reducible rfl
  try simp only [Act.put, List.getElem_toArray, List.getElem_cons_zero, List.getElem_cons_succ, List.setIfInBounds_toArray, List.set_cons_zero, List.set_cons_succ]
  refine wpAnyH_done (by kernel_rfl) ?_ _
  go_wp2
  go_ret
  exact ⟨rfl, Hb6.out.trans (hV6.mono Hb6.out.size)⟩
end Go.Proofs.Ytlaoijfphkhchaa
