/- TopTraces: the walk. -/
import Derived.Test.YtlkoiekdafaapaaTaw
namespace Go.Proofs.Ytlkoiekdafaapaa
open Go.RowKit Go.Shelf
theorem max4z {P : Program} (ts : Array TypeId) (t : TypeId) (w : World) : (Builtin.max_ ts t #[.int .i64 0, .int .i64 0, .int .i64 0, .int .i64 0]).run P w = .ok (.int .i64 0) w := by rfl
theorem RowF.far {w : World} {q : Option Addr} {c : Nat} {f : Nat → Int} (h : RowF w q c f) {a : Addr} (v : Value) (hne : ∀ b, q = some b → a.block ≠ b.block) : RowF (w.setCell a v) q c f := by
  rcases h with h | ⟨b, off, rfl, hlt, hc⟩
  · exact .inl h
  · have h1 := hne _ rfl
    refine .inr ⟨b, off, rfl, by simpa using hlt, fun i hi j hj => ?_⟩
    rw [World.cell?_setCell_other _ _ _ _ (by intro hh; rw [hh] at h1; exact h1 rfl)]
    exact hc i hi j hj
theorem anyN_no (n : Nat) : anyN (fun _ => false) n = false := by
  induction n with
  | zero => rfl
  | succ n ih => simp [anyN, ih]
set_option maxRecDepth 100000 in
set_option maxHeartbeats 16000000 in
theorem lawTraces (LL S : Int) (n : Nat) (E : Nat → Nat → Int) (p : Option Addr) (c x : Nat) (w : World) (hE : EdgAt w p n E) (hx : x ≤ 255) :
    Calls Try.prog 8 #[.agg #[.int .i64 LL, .int .i64 S, .slice p n c], .int .u8 (x : Int)] w (RetB true w) := by
  obtain ⟨W0, hW0⟩ : ∃ W, w.alloc (.cells #[.int .i64 LL, .int .i64 S, .slice p n c] 51) = W := ⟨_, rfl⟩
  have hb0 : Below w.heap.size w W0 := by rw [← hW0]; exact (Below.refl _ _).alloc (Nat.le_refl _) _
  have hbx : BoxAt3 W0 w.heap.size (.int .i64 LL) (.int .i64 S) (.slice p n c) := by rw [← hW0]; exact BoxAt3.new w _ _ _ _
  have hE0 : EdgAt W0 p n E := hE.mono (Nat.le_refl _) hb0
  have HF := Lib.hid (topFine_any LL S n E p c W0 hE0)
  by_cases hf : fineG LL S n E = true
  rotate_left 1
  · rw [Bool.not_eq_true] at hf
    rw [hf] at HF
    have Hb := Lib.hid hb0
    obtain ⟨_, c0, c1, c2⟩ := hbx
    clear hf hE hE0 hb0
    go_enter Try.func8, Try.ntmps8
    go_wp2_with fail
    refine HF.out.mono ?_
    rintro e W1 ⟨rfl, hbc⟩
    dsimp only
    have Hb1 := Lib.hid (Hb.out.trans (hbc.mono Hb.out.size))
    clear hbc HF Hb c0 c1 c2 hW0
    go_wp2_with fail
    refine (topAwake_any _).mono ?_
    rintro e W2 ⟨rfl, hbc⟩
    dsimp only
    have Hb2 := Lib.hid (Hb1.out.trans (hbc.mono Hb1.out.size))
    clear hbc Hb1
    go_wp2
    go_ret
    exact ⟨rfl, Hb2.out⟩
  rw [hf] at HF
  unfold fineG at hf
  simp only [Bool.and_eq_true, Bool.not_eq_true', decide_eq_true_eq] at hf
  obtain ⟨⟨hgt, hg⟩, hS0⟩ := hf
  obtain ⟨g1, g2, g3, g4, g5, _⟩ := gChk_zero hg
  unfold gGreatB at hgt
  rw [decide_eq_false_iff_not] at hgt
  obtain ⟨N, rfl⟩ : ∃ N : Nat, S = N := ⟨S.toNat, by omega⟩
  have h1 : 0 < N := by omega
  have h6 : N ≤ 6 := by omega
  have hn : n ≤ 30 := by omega
  have hok : EdOk N n E := by have := gChk_ok hg; simpa using this
  have hcap : capChk LL N n E false = 0 := by
    unfold capChk
    rw [if_neg (by simp [hg]), if_neg (by simp), if_neg (by omega), if_neg (by omega)]
  clear hgt g1 g2 g3 g4 g5 hS0 hE
  obtain ⟨k, hk⟩ : ∃ k, x % 10 = k := ⟨_, rfl⟩
  have hk9 : k ≤ 9 := by omega
  have hkx : ((x : Int) % 10) = (k : Int) := by omega
  obtain ⟨A, hA⟩ : ∃ A, adjE E n = A := ⟨_, rfl⟩
  have hbnA : BnM N N A 20 := by rw [← hA]; exact adjE_bn E n N (by omega)
  obtain ⟨u, hu⟩ : ∃ u : Nat → Nat → Int, u = cntI (toE E) (frE E) n (fun _ => 1) := ⟨_, rfl⟩
  obtain ⟨C, hC⟩ : ∃ C : Nat → Int, chrP N A N = C := ⟨_, rfl⟩
  obtain ⟨P, hP⟩ : ∃ P : Nat → Nat → Int, powF N A k = P := ⟨_, rfl⟩
  have HAd := Lib.hid (show ∀ W, Below W0.heap.size W0 W → Calls Try.prog 38 #[.agg #[.int .i64 LL, .int .i64 (N : Int), .slice p n c]] W (RetMatE 0 N N A W) from fun W hW => by
    rw [← hA]; exact capAdjacency_any LL N n E p c hcap hok (by omega) (by omega) W (hE0.mono (Nat.le_refl _) hW))
  have HPw := Lib.hid (show ∀ (W : World) (q : Option Addr) (d : Nat), MatF W q N N A → Calls Try.prog 15 #[.slice q N d, .int .i64 (k : Int)] W (RetMatE 0 N N P W) from fun W q d hM => by
    rw [← hP]; exact matPow_any h1 (by omega) A q d k hbnA (by omega) (by omega) W hM)
  have HCl := Lib.hid (show ∀ W, Below W0.heap.size W0 W → Calls Try.prog 39 #[.agg #[.int .i64 LL, .int .i64 (N : Int), .slice p n c], .int .i64 (k : Int)] W (RetNumE 0 (trF N P) W) from fun W hW => by
    rw [← hP, ← hA]; exact Closed_any LL N n k E p c h1 (by omega) (by omega) (by omega) hg W (hE0.mono (Nat.le_refl _) hW))
  have HCh := Lib.hid (show ∀ (W : World) (q : Option Addr) (d : Nat), MatF W q N N A → Calls Try.prog 22 #[.slice q N d] W (RetRowE 0 (N + 1) C W) from fun W q d hM => by
    rw [← hC]; exact matChr_any h1 (by omega) A q d hbnA (by omega) W hM)
  have HPt := Lib.hid (show ∀ (W : World) (s t : Nat), s < N → t < N → Below W0.heap.size W0 W → Calls Try.prog 40 #[.agg #[.int .i64 LL, .int .i64 (N : Int), .slice p n c], .int .i64 (s : Int), .int .i64 (t : Int), .int .i64 (k : Int)] W (RetNumE 0 (P s t) W) from fun W s t hs ht hW => by
    have := Paths_any LL N n k s t E p c (by omega) (by omega) (by omega) hs ht hg (paths_ok hok (by omega) (by omega) (by omega) hs) W (hE0.mono (Nat.le_refl _) hW)
    rw [cnt_paths hok, hA, hP] at this
    exact this)
  have HFr := Lib.hid (show ∀ (W : World) (d : Nat), d ≤ N → Below W0.heap.size W0 W → Calls Try.prog 41 #[.agg #[.int .i64 LL, .int .i64 (N : Int), .slice p n c], .int .i64 ((k : Int) + (d : Int))] W (RetRowN N (u (k + d)) W) from fun W d hd hW => by
    have := From_any LL N n (k + d) E p c (by omega) (by omega) (by omega) hg (from_ok hok (by omega) (by omega) (by omega)) W (hE0.mono (Nat.le_refl _) hW)
    rw [← hu] at this
    rw [show ((k : Int) + (d : Int)) = ((k + d : Nat) : Int) from by push_cast; rfl]
    exact this)
  have hrec : ∀ s, s < N → dotN (fun d => C d * u (k + d) s) (N + 1) = 0 := fun s hs => by
    have := traces_rec h1 hok k s hs
    rw [hA, hC, ← hu] at this
    exact this
  have hbu : ∀ e s, e ≤ 20 → s < N → Bn (u e s) 500 := fun e s he hs => by
    rw [hu]
    exact (from_bn hok (by omega) (by omega) e s hs).up (by omega)
  have hbP : BnM N N P 500 := by rw [← hP]; exact (powF_bn hbnA (pow5 (by omega)) k).up (by omega)
  have hbC : ∀ d, d < N + 1 → Bn (C d) 1000 := fun d hd => by
    rw [← hC]
    unfold chrP
    split
    · exact Bn.one _
    · rw [if_pos (by omega)]
      have h := chrC_bn hbnA (pow5 (by omega)) (N - 1 - d) (chrM_bn hbnA (pow5 (by omega)) (N - 1 - d))
      have h2 : (N - 1 - d) * (20 + 5 + 5 + 1) ≤ 6 * (20 + 5 + 5 + 1) := Nat.mul_le_mul_right _ (by omega)
      exact h.up (by omega)
  have HB : Hid (∀ W, Below W0.heap.size W0 W → BoxAt3 W w.heap.size (.int .i64 LL) (.int .i64 (N : Int)) (.slice p n c) ∧ Below w.heap.size w W) := Lib.hid (fun W hW => ⟨hbx.below hW, hb0.trans (hW.mono hb0.size)⟩)
  obtain ⟨_, c0, c1, c2⟩ := hbx
  have Hrec := Lib.hid hrec
  have Hbu := Lib.hid hbu
  have HbP := Lib.hid hbP
  have HbC := Lib.hid hbC
  have Hbb : Hid (Below W0.heap.size W0 W0) := Lib.hid (Below.refl _ _)
  have wx : IntKind.i64.wrap (x : Int) = (x : Int) := IntWalk.i64_in _ (by omega)
  have wk : IntKind.i64.wrap (k : Int) = (k : Int) := IntWalk.i64_in _ (by omega)
  clear hrec hbu hbP hbC hok hcap hg hA hu hC hP hbnA hk hb0 hE0
  obtain ⟨g0, hg0⟩ : ∃ g, w.heap.size = g := ⟨_, rfl⟩
  rw [hg0] at HB c0 c1 c2
  have Hg0 := Lib.hid hg0
  go_enter Try.func8, Try.ntmps8
  go_wp2_with fail
  try rw [hg0]
  try rw [hW0]
  refine HF.out.mono ?_
  rintro e y1 ⟨rfl, hbc⟩
  dsimp only
  have Hb1 := Lib.hid (Hbb.out.trans (hbc.mono Hbb.out.size))
  obtain ⟨⟨_, z0, z1, z2⟩, _⟩ := HB.out _ Hb1.out
  clear hbc HF Hbb c0 c1 c2 hW0 hg0
  go_wp2_with fail
  clear z0 z1 z2
  refine (HAd.out _ Hb1.out).mono ?_
  rintro e y2 ⟨hbc, hr⟩
  rcases hr with ⟨_, q1, k1, rfl, hM⟩ | ⟨h0, _⟩
  rotate_left 1
  · exact absurd rfl h0
  dsimp only
  have HMA := Lib.hid hM
  have Hb2 := Lib.hid (Hb1.out.trans (hbc.mono Hb1.out.size))
  clear hbc hM HAd Hb1
  go_wp2_with fail
  refine (HPw.out _ q1 k1 HMA.out).mono ?_
  rintro e y3 ⟨hbc, hr⟩
  rcases hr with ⟨_, q2, k2, rfl, hM⟩ | ⟨h0, _⟩
  rotate_left 1
  · exact absurd rfl h0
  dsimp only
  have HMA3 := Lib.hid (HMA.out.below (Nat.le_refl _) hbc)
  have HMP := Lib.hid hM
  have Hb3 := Lib.hid (Hb2.out.trans (hbc.mono Hb2.out.size))
  obtain ⟨⟨_, z0, z1, z2⟩, _⟩ := HB.out _ Hb3.out
  clear hbc hM HPw Hb2 HMA
  go_wp2_with fail
  clear z0 z1 z2
  refine (HCl.out _ Hb3.out).mono ?_
  rintro e y4 ⟨hbc, hr⟩
  rcases hr with ⟨_, rfl⟩ | ⟨h0, _⟩
  rotate_left 1
  · exact absurd rfl h0
  dsimp only
  obtain ⟨X, hX⟩ : ∃ X, canon (trF N P) = X := ⟨_, rfl⟩
  have HX := Lib.hid hX
  rw [hX]
  have hbc := hbc.alloc hbc.size (.cells #[.bool X.neg, .string X.mag] 27)
  have HBC := Lib.hid (BoxAt.new y4 (.bool X.neg) (.string X.mag) 27)
  have HMA4 := Lib.hid (HMA3.out.below (Nat.le_refl _) hbc)
  have HMP4 := Lib.hid (HMP.out.below (Nat.le_refl _) hbc)
  have Hb4 := Lib.hid (Hb3.out.trans (hbc.mono Hb3.out.size))
  clear hbc HCl Hb3 HMA3 HMP hX
  go_wp2_with fail
  obtain ⟨gC, hgC⟩ : ∃ g, y4.heap.size = g := ⟨_, rfl⟩
  rw [hgC] at HBC ⊢
  clear hgC
  generalize y4.alloc (.cells #[.bool X.neg, .string X.mag] 27) = y5 at *
  refine (HCh.out _ q1 k1 HMA4.out).mono ?_
  rintro e Y ⟨hbc, hr⟩
  rcases hr with ⟨_, q3, k3, rfl, hR⟩ | ⟨h0, _⟩
  rotate_left 1
  · exact absurd rfl h0
  dsimp only
  have hMP := HMP4.out.below (Nat.le_refl _) hbc
  have hBC := HBC.out.below hbc HBC.out.2.2.2.2
  have hb5 := Hb4.out.trans (hbc.mono Hb4.out.size)
  have HBY : Hid (∀ W, Below Y.heap.size Y W → BoxAt3 W g0 (.int .i64 LL) (.int .i64 (N : Int)) (.slice p n c) ∧ Below w.heap.size w W ∧ Below W0.heap.size W0 W ∧ BoxAt W gC (.bool X.neg) (.string X.mag) ∧ RowF W q3 (N + 1) C ∧ MatF W q2 N N P) := Lib.hid (fun W hW => by
    have hbw := hb5.trans (hW.mono hb5.size)
    exact ⟨(HB.out W hbw).1, by have := (HB.out W hbw).2; rwa [← Hg0.out] at this, hbw, hBC.below hW hBC.2.2.2.2, hR.below (Nat.le_refl _) hW, hMP.below (Nat.le_refl _) hW⟩)
  obtain ⟨⟨_, z0, z1, z2⟩, _, _, _, _, _⟩ := HBY.out _ (Below.refl _ _)
  clear hbc hMP hBC hb5 hR HB HCh Hb4 HMA4 HMP4 HBC
  have hmax := @max4z Try.prog
  have wN : IntKind.i64.wrap ((N : Int) + 1) = (N : Int) + 1 := IntWalk.i64_in _ (by omega)
  have nn : ((N : Int) != (N : Int)) = false := by simp
  have nn1 : (((N : Int) + 1) != ((N : Int) + 1)) = false := by simp
  go_wp2_with fail
  clear z0 z1 z2 hmax
  obtain ⟨pb, po, rfl, hpl, H, hH, hR⟩ := (HBY.out _ (Below.refl _ _)).2.2.2.2.2.cells h1
  have Hx : Hid (BoxAt (Y.alloc (.cells #[.bool false, .string ⟨#[]⟩] 27)) Y.heap.size (.bool (canon (dotN (fun i => P i i) 0)).neg) (.string (canon (dotN (fun i => P i i) 0)).mag)) := Lib.hid (BoxAt.new Y (.bool false) (.string ⟨#[]⟩) 27)
  have Hy : Hid (Below Y.heap.size Y (Y.alloc (.cells #[.bool false, .string ⟨#[]⟩] 27))) := Lib.hid ((Below.refl _ _).alloc (Nat.le_refl _) _)
  have HH : Hid (∀ W, Below Y.heap.size Y W → ∀ i, i < N → W.cell? ⟨pb, po + i, none⟩ = some (.slice (H i).1 N (H i).2) ∧ RowF W (H i).1 N (P i)) := Lib.hid (fun W hW i hi => ⟨cell_below hW (hH i hi), (hR i hi).below (Nat.le_refl _) hW⟩)
  have HHb : Hid (∀ i, i < N → ∀ b, (H i).1 = some b → b.block < Y.heap.size) := Lib.hid (fun i hi b hb => by
    obtain ⟨rb, ro, he, hl, _⟩ := RowF.cells (hR i hi) h1
    rw [he] at hb
    cases hb
    exact hl)
  clear hH hR hpl
  obtain ⟨gT, hgT⟩ : ∃ g, Y.heap.size = g := ⟨_, rfl⟩
  rw [hgT] at Hx Hy HBY HH HHb ⊢
  have HgT := Lib.hid hgT
  generalize Y.alloc (.cells #[.bool false, .string ⟨#[]⟩] 27) = V at *
  clear hgT
  go_loopw [79] (fun iv wr => ∃ i : Nat, i ≤ N ∧ iv = .int .i64 (i : Nat) ∧ Hid (BoxAt wr gT (.bool (canon (dotN (fun i => P i i) i)).neg) (.string (canon (dotN (fun i => P i i) i)).mag)) ∧ Hid (Below gT Y wr)) (fun iv _ => N - (intOf iv).toNat)
  case atStart => exact ⟨0, by omega, by go_num, Hx, Hy⟩
  case round =>
    clear Hx Hy
    obtain ⟨i, hi, rfl, Hx, Hy⟩ := hrel
    by_cases hil : i < N
    · have i1 : (i : Int) < (N : Int) := by omega
      have i0 : (0 : Int) ≤ (i : Int) := by omega
      obtain ⟨c0, hrow⟩ := HH.out wr Hy.out i hil
      obtain ⟨⟨_, z0, z1, z2⟩, _⟩ := HBY.out wr Hy.out
      have hHb := HHb.out i hil
      obtain ⟨hp, hhp⟩ : ∃ h, (H i).1 = h := ⟨_, rfl⟩
      obtain ⟨hc, hhc⟩ : ∃ h, (H i).2 = h := ⟨_, rfl⟩
      have HRow : Hid (∀ W, Below gT Y W → RowF W hp N (P i)) := Lib.hid (fun W hW => by rw [← hhp]; exact (HH.out W hW i hil).2)
      rw [hhp, hhc] at c0
      rw [hhp] at hrow hHb
      clear hhp hhc
      obtain ⟨rb, ro, rfl, _, hrc⟩ := RowF.cells hrow hil
      have hrl : rb < gT := hHb _ rfl
      obtain ⟨d0, d1⟩ := hrc i hil
      have hs1 : (canon (dotN (fun i => P i i) i)).mag.size ≤ 100000000 := (Bn.dot (e := 500) (m := 5) i (by omega) fun l hl => HbP.out l l (by omega) (by omega)).size _ (by omega)
      have hs2 : (canon (P i i)).mag.size ≤ 100000000 := (HbP.out i i hil hil).size _ (by omega)
      have hnx : dotN (fun i => P i i) (i + 1) = dotN (fun i => P i i) i + P i i := rfl
      obtain ⟨x1, hx1⟩ : ∃ x, dotN (fun i => P i i) i = x := ⟨_, rfl⟩
      obtain ⟨y, hy⟩ : ∃ x, P i i = x := ⟨_, rfl⟩
      rw [hx1] at hs1 hnx Hx
      rw [hy] at hs2 hnx d0 d1
      have HA := Lib.hid (fun W => addc_any x1 y hs1 hs2 W)
      obtain ⟨v, hv⟩ : ∃ u, x1 + y = u := ⟨_, rfl⟩
      rw [hv] at HA hnx
      have Hnx := Lib.hid hnx
      obtain ⟨YY, hYY⟩ : ∃ Z, canon y = Z := ⟨_, rfl⟩
      obtain ⟨XX, hXX⟩ : ∃ Z, canon x1 = Z := ⟨_, rfl⟩
      rw [hYY] at d0 d1 HA
      rw [hXX] at Hx HA
      clear hs1 hs2 hnx hx1 hy hv hrc hrow hYY hXX hHb
      go_upto_region 16 with (fail)
      clear z0 z1 z2 c0
      obtain ⟨V0, hV0⟩ : ∃ V, wr = V := ⟨_, rfl⟩
      rw [hV0] at d0 d1 Hx Hy ⊢
      clear hV0
      obtain ⟨SS, hSe⟩ : ∃ SS : World → Prop, SS = fun W => W.cell? ⟨rb, ro + i * 2, none⟩ = some (.bool YY.neg) ∧ W.cell? ⟨rb, ro + i * 2 + 1, none⟩ = some (.string YY.mag) := ⟨_, rfl⟩
      have HS : Hid (∀ W, Below V0.heap.size V0 W → SS W) := Lib.hid (fun W hW => by rw [hSe]; exact ⟨cell_below hW d0, cell_below hW d1⟩)
      clear d0 d1
      have hd : Below V0.heap.size V0 V0.drew := (Below.refl V0.heap.size V0).drew
      have HXX : Hid (∀ W, Below V0.heap.size V0 W → BoxAt W gT (.bool XX.neg) (.string XX.mag) ∧ Below gT Y W) := Lib.hid (fun W hW => ⟨Hx.out.below hW Hx.out.2.2.2.2, Hy.out.trans (hW.mono (Nat.le_of_lt Hx.out.2.2.2.2))⟩)
      refine wp_region_held_drew (S := SS) (by kernel_rfl) (HS.out _ hd) (fun hSS => ?_)
      refine wpAnyH_take (i := 1) (v := ?_) rfl (by kernel_rfl) (by kernel_rfl) (by kernel_rfl) (fun _ _ _ h => h) (Or.inl ⟨by rfl, ?_⟩) hSS ?_
      rotate_left 1
      next => intro w hSw; rw [hSe] at hSw; obtain ⟨s1, s2⟩ := hSw; go_simp; try with_reducible rfl
      refine wpAnyH_take (i := 2) (v := ?_) rfl (by kernel_rfl) (by kernel_rfl) (by kernel_rfl) (fun _ _ _ h => h) (Or.inl ⟨by rfl, ?_⟩) hSS ?_
      rotate_left 1
      next => intro w hSw; rw [hSe] at hSw; obtain ⟨s1, s2⟩ := hSw; go_simp; try with_reducible rfl
      refine wpAnyH_take (i := 3) (v := ?_) rfl (by kernel_rfl) (by kernel_rfl) (by kernel_rfl) (fun _ _ _ h => h) (Or.inl ⟨by rfl, ?_⟩) hSS ?_
      rotate_left 1
      next => intro w hSw; rw [hSe] at hSw; obtain ⟨s1, s2⟩ := hSw; go_simp; try with_reducible rfl
      refine wpAnyH_take (i := 4) (v := ?_) rfl (by kernel_rfl) (by kernel_rfl) (by kernel_rfl) (fun _ _ _ h => h) (Or.inl ⟨by rfl, ?_⟩) hSS ?_
      rotate_left 1
      next => intro w hSw; rw [hSe] at hSw; obtain ⟨s1, s2⟩ := hSw; go_simp; try with_reducible rfl
      obtain ⟨⟨z1, z2, z3, z4, _⟩, _⟩ := HXX.out _ hd
      try simp only [Act.put, List.getElem_toArray, List.getElem_cons_zero, List.getElem_cons_succ, List.setIfInBounds_toArray, List.set_cons_zero, List.set_cons_succ]
      refine wpAnyH_ready (rs := [0]) (by kernel_rfl) (by simp) ?_
      refine AllReadyH.cons rfl (fun K hK => ?_) AllReadyH.nil
      go_simp
      refine hK.out _ _ (HS.out _ hd) (fun _ => ?_)
      clear hK K z1 z2 z3 z4
      try simp only [Act.put, List.getElem_toArray, List.getElem_cons_zero, List.getElem_cons_succ, List.setIfInBounds_toArray, List.set_cons_zero, List.set_cons_succ]
      refine wpAnyH_ready (rs := [5]) (by kernel_rfl) (by simp) ?_
      refine AllReadyH.cons rfl (fun K hK => ?_) AllReadyH.nil
      go_simp
      refine (HA.out _).mono ?_
      rintro e V1 ⟨rfl, hbc⟩
      have hV1 : Below V0.heap.size V0 V1 := hd.trans (hbc.mono hd.size)
      dsimp only
      refine hK.out _ _ (HS.out _ hV1) (fun _ => ?_)
      clear hK K hbc
      obtain ⟨hx1, hy1⟩ := HXX.out _ hV1
      have hx2 := boxp_set hx1 (.bool (canon v).neg) (.string (canon v).mag)
      have hx9 : BoxAt ((V1.setCell ⟨gT, 0, none⟩ (.bool (canon v).neg)).setCell ⟨gT, 1, none⟩ (.string (canon v).mag)) gT (.bool (canon (dotN (fun i => P i i) (i + 1))).neg) (.string (canon (dotN (fun i => P i i) (i + 1))).mag) := by rw [Hnx.out]; exact hx2
      have hy2 : Below gT Y ((V1.setCell ⟨gT, 0, none⟩ (.bool (canon v).neg)).setCell ⟨gT, 1, none⟩ (.string (canon v).mag)) := (hy1.setCell (Nat.le_refl _) _).setCell (Nat.le_refl _) _
      obtain ⟨z1, z2, z3, z4, _⟩ := hx1
      have hSS1 := HS.out _ hV1
      have HS4 : SS ((V1.setCell ⟨gT, 0, none⟩ (.bool (canon v).neg)).setCell ⟨gT, 1, none⟩ (.string (canon v).mag)) := by
        rw [hSe] at hSS1 ⊢
        obtain ⟨s1, s2⟩ := hSS1
        refine ⟨?_, ?_⟩ <;> rw [World.cell?_setCell_other _ _ _ _ (by intro hh; simp only [Addr.mk.injEq] at hh; omega), World.cell?_setCell_other _ _ _ _ (by intro hh; simp only [Addr.mk.injEq] at hh; omega)]
        · exact s1
        · exact s2
      try simp only [Act.put, List.getElem_toArray, List.getElem_cons_zero, List.getElem_cons_succ, List.setIfInBounds_toArray, List.set_cons_zero, List.set_cons_succ]
      refine wpAnyH_ready (rs := [6]) (by kernel_rfl) (by simp) ?_
      refine AllReadyH.cons rfl (fun K hK => ?_) AllReadyH.nil
      go_simp
      refine hK.out _ _ (HS4) (fun _ => ?_)
      clear hK K
      refine wpAnyH_done (by kernel_rfl) ?_ _
      have HX9 := Lib.hid hx9
      have HY9 := Lib.hid hy2
      clear hx2 hx9 hy2 hy1 z1 z2 z3 z4 HS4 hSS1 HS hSe hSS hd hV1 HXX HA
      clear Hx Hy
      go_wp2_with fail
      go_loopw [97] (fun jv wr => ∃ j : Nat, j ≤ N ∧ jv = .int .i64 (j : Nat) ∧ Hid (BoxAt wr gT (.bool (canon (dotN (fun i => P i i) (i + 1))).neg) (.string (canon (dotN (fun i => P i i) (i + 1))).mag)) ∧ Hid (Below gT Y wr)) (fun jv _ => N - (intOf jv).toNat)
      case atStart => exact ⟨0, by omega, by go_num, HX9, HY9⟩
      case round =>
        clear HX9 HY9
        obtain ⟨j, hj, rfl, Hx, Hy⟩ := hrel
        by_cases hjl : j < N
        · have j1 : (j : Int) < (N : Int) := by omega
          have j0 : (0 : Int) ≤ (j : Int) := by omega
          obtain ⟨rb', ro', he, _, hrc⟩ := RowF.cells (HRow.out wr Hy.out) hjl
          cases he
          obtain ⟨d0, d1⟩ := hrc j hjl
          have HPij := Lib.hid (fun W hW => HPt.out W i j hil hjl hW)
          obtain ⟨m, hm⟩ : ∃ m, P i j = m := ⟨_, rfl⟩
          obtain ⟨M, hM⟩ : ∃ M, canon m = M := ⟨_, rfl⟩
          rw [hm] at d0 d1 HPij
          rw [hM] at d0 d1
          have HM := Lib.hid hM
          have hal := (Below.refl wr.heap.size wr).alloc (Nat.le_refl _) (.cells #[.bool M.neg, .string M.mag] 27)
          have hbm := BoxAt.new wr (.bool M.neg) (.string M.mag) 27
          have hgw : gT < wr.heap.size := Hx.out.2.2.2.2
          have Hx2 := Lib.hid (Hx.out.below hal hgw)
          have Hy2 := Lib.hid (Hy.out.trans (hal.mono (Nat.le_of_lt hgw)))
          obtain ⟨⟨_, z0, z1, z2⟩, _, hbw0, _⟩ := HBY.out _ Hy2.out
          have Hbw0 := Lib.hid hbw0
          have HBm := Lib.hid hbm
          clear hrc hm hM hal hbm Hx Hy hbw0
          go_upto_region 20 with (fail)
          obtain ⟨gm, hgm⟩ : ∃ g, wr.heap.size = g := ⟨_, rfl⟩
          rw [hgm] at HBm ⊢
          clear hgm
          generalize wr.alloc (.cells #[.bool M.neg, .string M.mag] 27) = w2 at *
          clear d0 d1
          go_wp2_with fail
          refine (HPij.out _ Hbw0.out).mono ?_
          rintro e w3 ⟨hbc, hr⟩
          rcases hr with ⟨_, rfl⟩ | ⟨h0, _⟩
          rotate_left 1
          · exact absurd rfl h0
          dsimp only
          rw [HM.out]
          have hbc2 := hbc.alloc hbc.size (.cells #[.bool M.neg, .string M.mag] 27)
          obtain ⟨b0, b1, _, _, _⟩ := HBm.out.below hbc HBm.out.2.2.2.2
          have Hx3 := Lib.hid (Hx2.out.below hbc2 Hx2.out.2.2.2.2)
          have Hy3 := Lib.hid (Hy2.out.trans (hbc2.mono (Nat.le_of_lt Hx2.out.2.2.2.2)))
          clear hbc hbc2 HBm Hx2 Hy2 Hbw0 HPij z0 z1 z2
          go_wp2_with fail
          go_roundw
          case rel => exact ⟨j + 1, by omega, by go_num, Hx3, Hy3⟩
          case measure => simp [intOf]; omega
        · have j1 : ¬ (j : Int) < (N : Int) := by omega
          go_wp2_with fail
          go_roundw
          case rel => exact ⟨i + 1, by omega, by go_num, Hx, Hy⟩
          case measure => simp [intOf]; omega
    · have i1 : ¬ (i : Int) < (N : Int) := by omega
      have hie : i = N := by omega
      rw [hie, show dotN (fun i => P i i) N = trF N P from rfl, HX.out] at Hx
      clear hie HH HHb HPt
      obtain ⟨Y2, hY2⟩ : ∃ Z, wr = Z := ⟨_, rfl⟩
      rw [hY2] at Hx Hy ⊢
      clear hY2
      have HBZ : Hid (∀ W, Below Y2.heap.size Y2 W → BoxAt3 W g0 (.int .i64 LL) (.int .i64 (N : Int)) (.slice p n c) ∧ Below w.heap.size w W ∧ Below W0.heap.size W0 W ∧ BoxAt W gC (.bool X.neg) (.string X.mag) ∧ RowF W q3 (N + 1) C ∧ BoxAt W gT (.bool X.neg) (.string X.mag)) := Lib.hid (fun W hW => by
        obtain ⟨a1, a2, a3, a4, a5, _⟩ := HBY.out W (Hy.out.trans (hW.mono (Nat.le_of_lt Hx.out.2.2.2.2)))
        exact ⟨a1, a2, a3, a4, a5, Hx.out.below hW Hx.out.2.2.2.2⟩)
      obtain ⟨⟨_, z0, z1, z2⟩, _⟩ := HBZ.out _ (Below.refl _ _)
      have hmk := make_zs N (by omega) Y2
      have Hrow : Hid (RowT (Y2.alloc (.cells (madeCells #[.bool false, .string ⟨#[]⟩] (N * 2)) 27)) Y2.heap.size N (fun s => dotN (fun d => C d * u (k + d) s) 0)) := Lib.hid RowT.of_made
      have Hz : Hid (Below Y2.heap.size Y2 (Y2.alloc (.cells (madeCells #[.bool false, .string ⟨#[]⟩] (N * 2)) 27))) := Lib.hid ((Below.refl _ _).alloc (Nat.le_refl _) _)
      clear Hx Hy HBY
      go_wp2_with fail
      clear hmk z0 z1 z2
      obtain ⟨gs, hgs⟩ : ∃ g, Y2.heap.size = g := ⟨_, rfl⟩
      rw [hgs] at Hrow Hz HBZ ⊢
      have Hgs := Lib.hid hgs
      generalize Y2.alloc (.cells (madeCells #[.bool false, .string ⟨#[]⟩] (N * 2)) 27) = V2 at *
      clear hgs
      go_loopw [124] (fun dv wr => ∃ d : Nat, d ≤ N + 1 ∧ dv = .int .i64 (d : Nat) ∧ Hid (RowT wr gs N (fun s => dotN (fun d => C d * u (k + d) s) d)) ∧ Hid (Below gs Y2 wr)) (fun dv _ => N + 1 - (intOf dv).toNat)
      case atStart => exact ⟨0, by omega, by go_num, Hrow, Hz⟩
      case round =>
        clear Hrow Hz
        obtain ⟨d, hd9, rfl, Hrow, Hz⟩ := hrel
        by_cases hdl : d < N + 1
        · have d1 : (d : Int) < (N : Int) + 1 := by omega
          have d0 : (0 : Int) ≤ (d : Int) := by omega
          have wkd : IntKind.i64.wrap ((k : Int) + (d : Int)) = (k : Int) + (d : Int) := IntWalk.i64_in _ (by omega)
          obtain ⟨_, _, _, _, hq3, _⟩ := HBZ.out wr Hz.out
          obtain ⟨rb, ro, rfl, _, hrc⟩ := RowF.cells hq3 hdl
          obtain ⟨e0, e1⟩ := hrc d hdl
          have HFd := Lib.hid (fun W hW => HFr.out W d (by omega) hW)
          have hsC : (canon (C d)).mag.size ≤ 100000000 := (HbC.out d hdl).size _ (by omega)
          have HsC := Lib.hid hsC
          obtain ⟨M, hM⟩ : ∃ M, canon (C d) = M := ⟨_, rfl⟩
          have HMe := Lib.hid hM
          rw [hM] at e0 e1
          have hgw : gs < wr.heap.size := Hrow.out.z.1
          have hal := (Below.refl wr.heap.size wr).alloc (Nat.le_refl _) (.cells #[.bool M.neg, .string M.mag] 27)
          have HBm := Lib.hid (BoxAt.new wr (.bool M.neg) (.string M.mag) 27)
          have Hrow2 := Lib.hid (Hrow.out.kept (hal.block _ hgw))
          have Hz2 := Lib.hid (Hz.out.trans (hal.mono (Nat.le_of_lt hgw)))
          obtain ⟨⟨_, z0, z1, z2⟩, _, hbw0, _⟩ := HBZ.out _ Hz2.out
          have Hbw0 := Lib.hid hbw0
          clear hq3 hrc hM hsC hal Hrow Hz hbw0
          go_upto_region 29 with (fail)
          obtain ⟨gm, hgm⟩ : ∃ g, wr.heap.size = g := ⟨_, rfl⟩
          rw [hgm] at HBm hgw ⊢
          clear hgm
          generalize wr.alloc (.cells #[.bool M.neg, .string M.mag] 27) = w2 at *
          clear e0 e1
          go_wp2_with fail
          refine (HFd.out _ Hbw0.out).mono ?_
          rintro e w3 ⟨lq, lc, rfl, hl, hbc, hlB⟩
          dsimp only
          have Hl := Lib.hid hl
          have HlB : Hid (∀ b, lq = some b → gs ≠ b.block) := Lib.hid (fun b hb => by
            have := hlB b hb
            have h2 := Hrow2.out.z.1
            omega)
          have HBm3 := Lib.hid (HBm.out.below hbc HBm.out.2.2.2.2)
          have Hrow3 := Lib.hid (Hrow2.out.kept (hbc.block _ Hrow2.out.z.1))
          have Hz3 := Lib.hid (Hz2.out.trans (hbc.mono (Nat.le_of_lt Hrow2.out.z.1)))
          obtain ⟨⟨_, y0, y1, y2⟩, _⟩ := HBZ.out _ Hz3.out
          have Hr0 : Hid (RowT w3 gs N (fun j => if j < 0 then dotN (fun d => C d * u (k + d) j) (d + 1) else dotN (fun d => C d * u (k + d) j) d)) := Lib.hid (Hrow3.out.congr fun j _ => (if_neg (by omega)).symm)
          clear hl hbc hlB HBm Hrow2 Hz2 Hbw0 HFd z0 z1 z2 Hrow3
          go_wp2_with fail
          clear y0 y1 y2
          go_loopw [148] (fun sv wr => ∃ s : Nat, s ≤ N ∧ sv = .int .i64 (s : Nat) ∧ Hid (RowT wr gs N (fun j => if j < s then dotN (fun d => C d * u (k + d) j) (d + 1) else dotN (fun d => C d * u (k + d) j) d)) ∧ Hid (Below gs Y2 wr) ∧ Hid (RowF wr lq N (u (k + d))) ∧ Hid (BoxAt wr gm (.bool M.neg) (.string M.mag))) (fun sv _ => N - (intOf sv).toNat)
          case atStart => exact ⟨0, by omega, by go_num, Hr0, Hz3, Hl, HBm3⟩
          case round =>
            clear Hr0 Hz3 Hl HBm3
            obtain ⟨s, hs, rfl, Hrow, Hz, Hl, HBm⟩ := hrel
            by_cases hsl : s < N
            · have s1 : (s : Int) < (N : Int) := by omega
              have s0 : (0 : Int) ≤ (s : Int) := by omega
              have hrw := Hrow.out
              have hb1 : Bn (dotN (fun d => C d * u (k + d) s) d) 1600 := (Bn.dot (e := 1500) (m := 5) d (by omega) fun l hl => (HbC.out l (by omega)).mul (Hbu.out (k + l) s (by omega) hsl)).up (by omega)
              have hb2 : Bn (C d * u (k + d) s) 1600 := ((HbC.out d hdl).mul (Hbu.out (k + d) s (by omega) hsl)).up (by omega)
              have Hsz := Lib.hid (show (canon (dotN (fun d => C d * u (k + d) s) d)).mag.size ≤ 100000000 ∧ (canon (C d * u (k + d) s)).mag.size ≤ 100000000 ∧ (canon (u (k + d) s)).mag.size ≤ 100000000 from ⟨hb1.size _ (by omega), hb2.size _ (by omega), (Hbu.out (k + d) s (by omega) hsl).size _ (by omega)⟩)
              have Hst : Hid (∀ j, (if j = s then dotN (fun d => C d * u (k + d) s) d + C d * u (k + d) s else if j < s then dotN (fun d => C d * u (k + d) j) (d + 1) else dotN (fun d => C d * u (k + d) j) d) = if j < s + 1 then dotN (fun d => C d * u (k + d) j) (d + 1) else dotN (fun d => C d * u (k + d) j) d) := Lib.hid (fun j => by
                by_cases e : j = s
                · rw [if_pos e, if_pos (by omega), e]; rfl
                · rw [if_neg e]
                  by_cases e2 : j < s
                  · rw [if_pos e2, if_pos (by omega)]
                  · rw [if_neg e2, if_neg (by omega)])
              obtain ⟨⟨b1, b2⟩, _, _⟩ := hrw.z.2 s hsl
              dsimp only at b1 b2
              rw [if_neg (Nat.lt_irrefl s)] at b1 b2
              have HXR : Hid (∀ W, Below wr.heap.size wr W → (W.cell? ⟨gs, s * 2, none⟩ = some (.bool (canon (dotN (fun d => C d * u (k + d) s) d)).neg) ∧ W.cell? ⟨gs, s * 2 + 1, none⟩ = some (.string (canon (dotN (fun d => C d * u (k + d) s) d)).mag)) ∧ W.frozen? ⟨gs, s * 2, none⟩ = false ∧ W.frozen? ⟨gs, s * 2 + 1, none⟩ = false) := Lib.hid (fun W hW => by
                have h := (hrw.kept (hW.block _ hrw.z.1)).z.2 s hsl
                dsimp only at h
                rw [if_neg (Nat.lt_irrefl s)] at h
                exact h)
              obtain ⟨lb, lo, rfl, _, hlc⟩ := RowF.cells Hl.out hsl
              obtain ⟨l0, l1⟩ := hlc s hsl
              have hlne : gs ≠ lb := HlB.out _ rfl
              obtain ⟨a, ha⟩ : ∃ a, dotN (fun d => C d * u (k + d) s) d = a := ⟨_, rfl⟩
              obtain ⟨f, hf⟩ : ∃ f, u (k + d) s = f := ⟨_, rfl⟩
              have HMl : Hid (∀ W, Calls Try.prog 31 #[.agg #[.bool M.neg, .string M.mag], .agg #[.bool (canon f).neg, .string (canon f).mag]] W (RetZ (canon (C d * f)) W)) := Lib.hid (fun W => by
                have := mulc_any (C d) f HsC.out (by rw [← hf]; exact Hsz.out.2.2) W
                rw [HMe.out] at this
                exact this)
              rw [ha, hf] at Hsz Hst
              rw [hf] at l0 l1
              rw [ha] at HXR
              have HAd : Hid (∀ W, Calls Try.prog 34 #[.agg #[.bool (canon a).neg, .string (canon a).mag], .agg #[.bool (canon (C d * f)).neg, .string (canon (C d * f)).mag]] W (RetZ (canon (a + C d * f)) W)) := Lib.hid (fun W => addc_any a (C d * f) Hsz.out.1 Hsz.out.2.1 W)
              obtain ⟨t, ht⟩ : ∃ t, a + C d * f = t := ⟨_, rfl⟩
              rw [ht] at HAd Hst
              have Hst2 := Lib.hid Hst.out
              obtain ⟨m, hm⟩ : ∃ m, C d * f = m := ⟨_, rfl⟩
              rw [hm] at HAd HMl
              obtain ⟨LF, hLF⟩ : ∃ Z, canon f = Z := ⟨_, rfl⟩
              rw [hLF] at l0 l1 HMl
              obtain ⟨b0, b9, _, _, _⟩ := HBm.out
              have hgm2 : gs ≠ gm := by omega
              clear ha hf ht hm Hsz Hst b1 b2 hb1 hb2 hlc hLF
              go_upto_region 35 with (fail)
              obtain ⟨V0, hV0⟩ : ∃ V, wr = V := ⟨_, rfl⟩
              rw [hV0] at l0 l1 b0 b9 hrw HXR Hz Hl HBm ⊢
              clear hV0 Hrow
              have Hrw := Lib.hid hrw
              clear hrw
              obtain ⟨SS, hSe⟩ : ∃ SS : World → Prop, SS = fun W => W.cell? ⟨lb, lo + s * 2, none⟩ = some (.bool LF.neg) ∧ W.cell? ⟨lb, lo + s * 2 + 1, none⟩ = some (.string LF.mag) ∧ W.cell? ⟨gm, 0, none⟩ = some (.bool M.neg) ∧ W.cell? ⟨gm, 1, none⟩ = some (.string M.mag) := ⟨_, rfl⟩
              have HS : Hid (∀ W, Below V0.heap.size V0 W → SS W) := Lib.hid (fun W hW => by rw [hSe]; exact ⟨cell_below hW l0, cell_below hW l1, cell_below hW b0, cell_below hW b9⟩)
              clear l0 l1 b0 b9
              have hd : Below V0.heap.size V0 V0.drew := (Below.refl V0.heap.size V0).drew
              refine wp_region_held_drew (S := SS) (by kernel_rfl) (HS.out _ hd) (fun hSS => ?_)
              refine wpAnyH_take (i := 0) (v := ?_) rfl (by kernel_rfl) (by kernel_rfl) (by kernel_rfl) (fun _ _ _ h => h) (Or.inl ⟨by rfl, ?_⟩) hSS ?_
              rotate_left 1
              next => intro w hSw; rw [hSe] at hSw; obtain ⟨s1, s2, s3, s4⟩ := hSw; go_simp; try with_reducible rfl
              refine wpAnyH_take (i := 1) (v := ?_) rfl (by kernel_rfl) (by kernel_rfl) (by kernel_rfl) (fun _ _ _ h => h) (Or.inl ⟨by rfl, ?_⟩) hSS ?_
              rotate_left 1
              next => intro w hSw; rw [hSe] at hSw; obtain ⟨s1, s2, s3, s4⟩ := hSw; go_simp; try with_reducible rfl
              refine wpAnyH_take (i := 2) (v := ?_) rfl (by kernel_rfl) (by kernel_rfl) (by kernel_rfl) (fun _ _ _ h => h) (Or.inl ⟨by rfl, ?_⟩) hSS ?_
              rotate_left 1
              next => intro w hSw; rw [hSe] at hSw; obtain ⟨s1, s2, s3, s4⟩ := hSw; go_simp; try with_reducible rfl
              refine wpAnyH_take (i := 3) (v := ?_) rfl (by kernel_rfl) (by kernel_rfl) (by kernel_rfl) (fun _ _ _ h => h) (Or.inl ⟨by rfl, ?_⟩) hSS ?_
              rotate_left 1
              next => intro w hSw; rw [hSe] at hSw; obtain ⟨s1, s2, s3, s4⟩ := hSw; go_simp; try with_reducible rfl
              refine wpAnyH_take (i := 4) (v := ?_) rfl (by kernel_rfl) (by kernel_rfl) (by kernel_rfl) (fun _ _ _ h => h) (Or.inl ⟨by rfl, ?_⟩) hSS ?_
              rotate_left 1
              next => intro w hSw; rw [hSe] at hSw; obtain ⟨s1, s2, s3, s4⟩ := hSw; go_simp; try with_reducible rfl
              refine wpAnyH_take (i := 6) (v := ?_) rfl (by kernel_rfl) (by kernel_rfl) (by kernel_rfl) (fun _ _ _ h => h) (Or.inl ⟨by rfl, ?_⟩) hSS ?_
              rotate_left 1
              next => intro w hSw; rw [hSe] at hSw; obtain ⟨s1, s2, s3, s4⟩ := hSw; go_simp; try with_reducible rfl
              refine wpAnyH_take (i := 7) (v := ?_) rfl (by kernel_rfl) (by kernel_rfl) (by kernel_rfl) (fun _ _ _ h => h) (Or.inl ⟨by rfl, ?_⟩) hSS ?_
              rotate_left 1
              next => intro w hSw; rw [hSe] at hSw; obtain ⟨s1, s2, s3, s4⟩ := hSw; go_simp; try with_reducible rfl
              refine wpAnyH_take (i := 8) (v := ?_) rfl (by kernel_rfl) (by kernel_rfl) (by kernel_rfl) (fun _ _ _ h => h) (Or.inl ⟨by rfl, ?_⟩) hSS ?_
              rotate_left 1
              next => intro w hSw; rw [hSe] at hSw; obtain ⟨s1, s2, s3, s4⟩ := hSw; go_simp; try with_reducible rfl
              refine wpAnyH_take (i := 9) (v := ?_) rfl (by kernel_rfl) (by kernel_rfl) (by kernel_rfl) (fun _ _ _ h => h) (Or.inl ⟨by rfl, ?_⟩) hSS ?_
              rotate_left 1
              next => intro w hSw; rw [hSe] at hSw; obtain ⟨s1, s2, s3, s4⟩ := hSw; go_simp; try with_reducible rfl
              refine wpAnyH_take (i := 10) (v := ?_) rfl (by kernel_rfl) (by kernel_rfl) (by kernel_rfl) (fun _ _ _ h => h) (Or.inl ⟨by rfl, ?_⟩) hSS ?_
              rotate_left 1
              next => intro w hSw; rw [hSe] at hSw; obtain ⟨s1, s2, s3, s4⟩ := hSw; go_simp; try with_reducible rfl
              try simp only [Act.put, List.getElem_toArray, List.getElem_cons_zero, List.getElem_cons_succ, List.setIfInBounds_toArray, List.set_cons_zero, List.set_cons_succ]
              refine wpAnyH_ready (rs := [5, 11]) (by kernel_rfl) (by simp) ?_
              refine AllReadyH.cons rfl (fun K hK => ?_) (AllReadyH.cons rfl (fun K hK => ?_) AllReadyH.nil)
              · obtain ⟨⟨z1, z2⟩, z3, z4⟩ := HXR.out _ hd
                go_simp
                refine hK.out _ _ (HS.out _ hd) (fun _ => ?_)
                clear hK K z1 z2 z3 z4
                try simp only [Act.put, List.getElem_toArray, List.getElem_cons_zero, List.getElem_cons_succ, List.setIfInBounds_toArray, List.set_cons_zero, List.set_cons_succ]
                refine wpAnyH_ready (rs := [11]) (by kernel_rfl) (by simp) ?_
                refine AllReadyH.cons rfl (fun K hK => ?_) AllReadyH.nil
                go_simp
                refine (HMl.out _).mono ?_
                rintro e V1 ⟨rfl, hbc⟩
                have hV1 : Below V0.heap.size V0 V1 := hd.trans (hbc.mono hd.size)
                dsimp only
                refine hK.out _ _ (HS.out _ hV1) (fun _ => ?_)
                clear hK K hbc
                try simp only [Act.put, List.getElem_toArray, List.getElem_cons_zero, List.getElem_cons_succ, List.setIfInBounds_toArray, List.set_cons_zero, List.set_cons_succ]
                refine wpAnyH_ready (rs := [12]) (by kernel_rfl) (by simp) ?_
                refine AllReadyH.cons rfl (fun K hK => ?_) AllReadyH.nil
                go_simp
                refine (HAd.out _).mono ?_
                rintro e V3 ⟨rfl, hbc⟩
                have hV3 : Below V0.heap.size V0 V3 := hV1.trans (hbc.mono hV1.size)
                dsimp only
                refine hK.out _ _ (HS.out _ hV3) (fun _ => ?_)
                clear hK K hbc
                refine wpAnyH_take (i := 13) (v := ?_) rfl (by kernel_rfl) (by kernel_rfl) (by kernel_rfl) (fun _ _ _ h => h) (Or.inl ⟨by rfl, ?_⟩) (HS.out _ hV3) ?_
                rotate_left 1
                next => intro w hSw; rw [hSe] at hSw; obtain ⟨s1, s2, s3, s4⟩ := hSw; go_simp; try with_reducible rfl
                have hr3 := Hrw.out.kept (hV3.block _ Hrw.out.z.1)
                obtain ⟨⟨z1, z2⟩, z3, z4⟩ := HXR.out _ hV3
                have hr4 := (hr3.set s t).congr fun j _ => Hst2.out j
                have hz4 : Below gs Y2 ((V3.setCell ⟨gs, s * 2, none⟩ (.bool (canon t).neg)).setCell ⟨gs, s * 2 + 1, none⟩ (.string (canon t).mag)) := ((Hz.out.trans (hV3.mono (Nat.le_of_lt Hrw.out.z.1))).setCell (Nat.le_refl _) _).setCell (Nat.le_refl _) _
                have hl4 : RowF ((V3.setCell ⟨gs, s * 2, none⟩ (.bool (canon t).neg)).setCell ⟨gs, s * 2 + 1, none⟩ (.string (canon t).mag)) (some ⟨lb, lo, none⟩) N (u (k + d)) := ((Hl.out.below (Nat.le_refl _) hV3).far _ (fun b hb => by cases hb; exact hlne)).far _ (fun b hb => by cases hb; exact hlne)
                have hb4 : BoxAt ((V3.setCell ⟨gs, s * 2, none⟩ (.bool (canon t).neg)).setCell ⟨gs, s * 2 + 1, none⟩ (.string (canon t).mag)) gm (.bool M.neg) (.string M.mag) := boxp_far (boxp_far (HBm.out.below hV3 HBm.out.2.2.2.2) (by show gm ≠ gs; omega) _) (by show gm ≠ gs; omega) _
                have hSS3 := HS.out _ hV3
                have HS4 : SS ((V3.setCell ⟨gs, s * 2, none⟩ (.bool (canon t).neg)).setCell ⟨gs, s * 2 + 1, none⟩ (.string (canon t).mag)) := by
                  rw [hSe] at hSS3 ⊢
                  obtain ⟨s1, s2, s3, s4⟩ := hSS3
                  refine ⟨?_, ?_, ?_, ?_⟩ <;> rw [World.cell?_setCell_other _ _ _ _ (by intro hh; simp only [Addr.mk.injEq] at hh; omega), World.cell?_setCell_other _ _ _ _ (by intro hh; simp only [Addr.mk.injEq] at hh; omega)]
                  · exact s1
                  · exact s2
                  · exact s3
                  · exact s4
                try simp only [Act.put, List.getElem_toArray, List.getElem_cons_zero, List.getElem_cons_succ, List.setIfInBounds_toArray, List.set_cons_zero, List.set_cons_succ]
                refine wpAnyH_ready (rs := [14]) (by kernel_rfl) (by simp) ?_
                refine AllReadyH.cons rfl (fun K hK => ?_) AllReadyH.nil
                go_simp
                refine hK.out _ _ (HS4) (fun _ => ?_)
                clear hK K
                refine wpAnyH_done (by kernel_rfl) ?_ _
                have HR4 := Lib.hid hr4
                have HZ4 := Lib.hid hz4
                have HL4 := Lib.hid hl4
                have HB4 := Lib.hid hb4
                clear hr4 hz4 hl4 hb4 hr3 z1 z2 z3 z4 HS4 hSS3 HS hSe hSS hd hV3 hV1 HXR HAd HMl
                go_wp2
                go_roundw
                case rel => exact ⟨s + 1, by omega, by go_num, HR4, HZ4, HL4, HB4⟩
                case measure => simp [intOf]; omega
              · go_simp
                refine (HMl.out _).mono ?_
                rintro e V1 ⟨rfl, hbc⟩
                have hV1 : Below V0.heap.size V0 V1 := hd.trans (hbc.mono hd.size)
                dsimp only
                refine hK.out _ _ (HS.out _ hV1) (fun _ => ?_)
                clear hK K hbc
                try simp only [Act.put, List.getElem_toArray, List.getElem_cons_zero, List.getElem_cons_succ, List.setIfInBounds_toArray, List.set_cons_zero, List.set_cons_succ]
                refine wpAnyH_ready (rs := [5]) (by kernel_rfl) (by simp) ?_
                refine AllReadyH.cons rfl (fun K hK => ?_) AllReadyH.nil
                obtain ⟨⟨z1, z2⟩, z3, z4⟩ := HXR.out _ hV1
                go_simp
                refine hK.out _ _ (HS.out _ hV1) (fun _ => ?_)
                clear hK K z1 z2 z3 z4
                try simp only [Act.put, List.getElem_toArray, List.getElem_cons_zero, List.getElem_cons_succ, List.setIfInBounds_toArray, List.set_cons_zero, List.set_cons_succ]
                refine wpAnyH_ready (rs := [12]) (by kernel_rfl) (by simp) ?_
                refine AllReadyH.cons rfl (fun K hK => ?_) AllReadyH.nil
                go_simp
                refine (HAd.out _).mono ?_
                rintro e V3 ⟨rfl, hbc⟩
                have hV3 : Below V0.heap.size V0 V3 := hV1.trans (hbc.mono hV1.size)
                dsimp only
                refine hK.out _ _ (HS.out _ hV3) (fun _ => ?_)
                clear hK K hbc
                refine wpAnyH_take (i := 13) (v := ?_) rfl (by kernel_rfl) (by kernel_rfl) (by kernel_rfl) (fun _ _ _ h => h) (Or.inl ⟨by rfl, ?_⟩) (HS.out _ hV3) ?_
                rotate_left 1
                next => intro w hSw; rw [hSe] at hSw; obtain ⟨s1, s2, s3, s4⟩ := hSw; go_simp; try with_reducible rfl
                have hr3 := Hrw.out.kept (hV3.block _ Hrw.out.z.1)
                obtain ⟨⟨z1, z2⟩, z3, z4⟩ := HXR.out _ hV3
                have hr4 := (hr3.set s t).congr fun j _ => Hst2.out j
                have hz4 : Below gs Y2 ((V3.setCell ⟨gs, s * 2, none⟩ (.bool (canon t).neg)).setCell ⟨gs, s * 2 + 1, none⟩ (.string (canon t).mag)) := ((Hz.out.trans (hV3.mono (Nat.le_of_lt Hrw.out.z.1))).setCell (Nat.le_refl _) _).setCell (Nat.le_refl _) _
                have hl4 : RowF ((V3.setCell ⟨gs, s * 2, none⟩ (.bool (canon t).neg)).setCell ⟨gs, s * 2 + 1, none⟩ (.string (canon t).mag)) (some ⟨lb, lo, none⟩) N (u (k + d)) := ((Hl.out.below (Nat.le_refl _) hV3).far _ (fun b hb => by cases hb; exact hlne)).far _ (fun b hb => by cases hb; exact hlne)
                have hb4 : BoxAt ((V3.setCell ⟨gs, s * 2, none⟩ (.bool (canon t).neg)).setCell ⟨gs, s * 2 + 1, none⟩ (.string (canon t).mag)) gm (.bool M.neg) (.string M.mag) := boxp_far (boxp_far (HBm.out.below hV3 HBm.out.2.2.2.2) (by show gm ≠ gs; omega) _) (by show gm ≠ gs; omega) _
                have hSS3 := HS.out _ hV3
                have HS4 : SS ((V3.setCell ⟨gs, s * 2, none⟩ (.bool (canon t).neg)).setCell ⟨gs, s * 2 + 1, none⟩ (.string (canon t).mag)) := by
                  rw [hSe] at hSS3 ⊢
                  obtain ⟨s1, s2, s3, s4⟩ := hSS3
                  refine ⟨?_, ?_, ?_, ?_⟩ <;> rw [World.cell?_setCell_other _ _ _ _ (by intro hh; simp only [Addr.mk.injEq] at hh; omega), World.cell?_setCell_other _ _ _ _ (by intro hh; simp only [Addr.mk.injEq] at hh; omega)]
                  · exact s1
                  · exact s2
                  · exact s3
                  · exact s4
                try simp only [Act.put, List.getElem_toArray, List.getElem_cons_zero, List.getElem_cons_succ, List.setIfInBounds_toArray, List.set_cons_zero, List.set_cons_succ]
                refine wpAnyH_ready (rs := [14]) (by kernel_rfl) (by simp) ?_
                refine AllReadyH.cons rfl (fun K hK => ?_) AllReadyH.nil
                go_simp
                refine hK.out _ _ (HS4) (fun _ => ?_)
                clear hK K
                refine wpAnyH_done (by kernel_rfl) ?_ _
                have HR4 := Lib.hid hr4
                have HZ4 := Lib.hid hz4
                have HL4 := Lib.hid hl4
                have HB4 := Lib.hid hb4
                clear hr4 hz4 hl4 hb4 hr3 z1 z2 z3 z4 HS4 hSS3 HS hSe hSS hd hV3 hV1 HXR HAd HMl
                go_wp2
                go_roundw
                case rel => exact ⟨s + 1, by omega, by go_num, HR4, HZ4, HL4, HB4⟩
                case measure => simp [intOf]; omega
            · have s1 : ¬ (s : Int) < (N : Int) := by omega
              have hse : s = N := by omega
              rw [hse] at Hrow
              have Hrow9 : Hid (RowT wr gs N (fun j => dotN (fun d => C d * u (k + d) j) (d + 1))) := Lib.hid (Hrow.out.congr fun j hj => if_pos hj)
              clear hse Hrow Hl HBm
              go_wp2_with fail
              go_roundw
              case rel => exact ⟨d + 1, by omega, by go_num, Hrow9, Hz⟩
              case measure => simp [intOf]; omega
        · have d1 : ¬ (d : Int) < (N : Int) + 1 := by omega
          have hde : d = N + 1 := by omega
          rw [hde] at Hrow
          have hrz := Hrow.out.z.row
          obtain ⟨_, hbw, _, hbC9, _, hbT9⟩ := HBZ.out wr Hz.out
          obtain ⟨b0, b1, _, _, _⟩ := hbC9
          obtain ⟨t0, t1, _, _, _⟩ := hbT9
          have Hbw := Lib.hid hbw
          have HCF := Lib.hid (containsFn_z N (some ⟨gs, 0, none⟩) N (fun s => canon (dotN (fun d => C d * u (k + d) s) (N + 1))) 43 #[] (fun _ => false) wr (fun args w => by rfl) (by omega)
            (hrz.congr (g := fun s => dotN (fun d => C d * u (k + d) s) (N + 1)) (fun _ _ => rfl)) (fun s W hs _ => by simpa using nonZero_any _ W (Hrec.out s hs)))
          have HCF2 := Lib.hid HCF.out
          rw [anyN_no] at HCF2
          clear hde Hrow hrz HBZ hbw HFr Hz HCF
          go_wp2_with fail
          refine HCF2.out.mono ?_
          rintro e y8 ⟨rfl, hbc⟩
          dsimp only
          have Hb8 := Lib.hid (Hbw.out.trans (hbc.mono Hbw.out.size))
          clear hbc HCF2 Hbw b0 b1 t0 t1
          go_wp2_with fail
          refine (topAwake_any _).mono ?_
          rintro e y9 ⟨rfl, hbc⟩
          dsimp only
          have Hb9 := Lib.hid (Hb8.out.trans (hbc.mono Hb8.out.size))
          clear hbc Hb8
          go_wp2
          go_ret
          exact ⟨rfl, Hb9.out⟩
end Go.Proofs.Ytlkoiekdafaapaa
