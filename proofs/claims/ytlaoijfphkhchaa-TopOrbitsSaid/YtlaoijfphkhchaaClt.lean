/- counting.Closed, sum, Total. -/
import Derived.Test.YtlaoijfphkhchaaClo
namespace Go.Proofs.Ytlaoijfphkhchaa
open Go.RowKit Go.Shelf
set_option maxRecDepth 100000 in
set_option maxHeartbeats 4000000 in
theorem Closed_any (L : Int) (N n K : Nat) (E : Nat → Nat → Int) (p : Option Addr) (c : Nat) (h1 : 0 < N) (hN : N ≤ 32) (hn : n ≤ 1000000) (hK : K ≤ 4096) (hg : gChk L N n E = 0) (w : World) (hE : EdgAt w p n E) :
    Calls Try.prog 12 #[.agg #[.int .i64 L, .int .i64 (N : Int), .slice p n c], .int .i64 (K : Int)] w (RetNumE 0 (trF N (powF N (adjE E n) K)) w) := by
  obtain ⟨W0, hW0⟩ : ∃ W, (w.alloc (.cells #[.int .i64 L, .int .i64 (N : Int), .slice p n c] 24)).alloc (.cells #[.bool false, .string ⟨#[]⟩] 28) = W := ⟨_, rfl⟩
  have hb0 : Below w.heap.size w W0 := by rw [← hW0]; exact ((Below.refl _ _).alloc (Nat.le_refl _) _).alloc (by simp) _
  have hbx : BoxAt3 W0 w.heap.size (.int .i64 L) (.int .i64 (N : Int)) (.slice p n c) := by rw [← hW0]; exact (BoxAt3.new w _ _ _ _).below ((Below.refl _ _).alloc (by simp) _)
  have hbr : BoxAt W0 (w.heap.size + 1) (.bool false) (.string ⟨#[]⟩) := by
    rw [← hW0]
    have := BoxAt.new (w.alloc (.cells #[.int .i64 L, .int .i64 (N : Int), .slice p n c] 24)) (.bool false) (.string ⟨#[]⟩) 28
    simpa using this
  have hE0 : EdgAt W0 p n E := hE.mono (Nat.le_refl _) hb0
  have hck : cntChk L N n E 0 (K : Int) = 0 := by unfold cntChk; rw [if_neg (by simp [hg]), if_neg (by omega)]
  have hh := cntChk_any L N n E 0 (K : Int) p c W0 hE0
  rw [hck] at hh
  have HK := Lib.hid hh
  have hok : EdOk N n E := by have := gChk_ok hg; simpa using this
  have HC := Lib.hid (show ∀ W, Below W0.heap.size W0 W → Calls Try.prog 44 #[.agg #[.int .i64 L, .int .i64 (N : Int), .slice p n c], .int .i64 (K : Int)] W (RetZ (canon (trF N (powF N (adjE E n) K))) W) from fun W hW => closed_any L N n K E p c h1 hN hn hK hok W (hE0.mono (Nat.le_refl _) hW))
  have HB : Hid (∀ W, Below W0.heap.size W0 W → BoxAt3 W w.heap.size (.int .i64 L) (.int .i64 (N : Int)) (.slice p n c) ∧ Below w.heap.size w W ∧ BoxAt W (w.heap.size + 1) (.bool false) (.string ⟨#[]⟩)) := Lib.hid (fun W hW => ⟨hbx.below hW, hb0.trans (hW.mono hb0.size), hbr.below hW hbr.2.2.2.2⟩)
  obtain ⟨_, c0, c1, c2⟩ := hbx
  have n1 : ¬ (N : Int) > 32 := by omega
  clear hE hE0 hok hb0 hck hh hg hbr
  generalize trF N (powF N (adjE E n) K) = T at *
  go_enter Try.func12, Try.ntmps12
  go_wp2_with fail
  try rw [hW0]
  refine HK.out.mono ?_
  rintro e W1 ⟨rfl, hb⟩
  dsimp only
  obtain ⟨⟨_, z0, z1, z2⟩, _, _⟩ := HB.out _ hb
  have Hb := Lib.hid hb
  have HC1 := Lib.hid (HC.out _ hb)
  clear hb HK HC c0 c1 c2 hW0
  go_wp2_with fail
  refine HC1.out.mono ?_
  rintro e W2 ⟨rfl, hb2⟩
  dsimp only
  obtain ⟨_, hbw, hbr⟩ := HB.out _ (Hb.out.trans (hb2.mono Hb.out.size))
  obtain ⟨r0, r1, r2, r3, r4⟩ := hbr
  have Hbw := Lib.hid hbw
  clear hb2 HB HC1 Hb z0 z1 z2 hbw
  go_wp2
  refine bodyPost_ret (v := .tuple #[.agg #[.bool (canon T).neg, .string (canon T).mag], .int .i64 0]) (by simp [results, Try.results12, go_sem, r0, r1]) rfl ?_
  exact ⟨(Hbw.out.setCell (by simp) _).setCell (by simp) _, .inl ⟨rfl, rfl⟩⟩
set_option maxRecDepth 100000 in
set_option maxHeartbeats 4000000 in
theorem sumZ_any (N : Nat) (f : Nat → Int) (p : Option Addr) (c : Nat) (hN : N ≤ 1000000) (hs : ∀ j, j ≤ N → (canon (dotN f j)).mag.size ≤ 100000000) (hf : ∀ j, j < N → (canon (f j)).mag.size ≤ 100000000) (w : World) (hp : RowF w p N f) :
    Calls Try.prog 55 #[.slice p N c] w (RetZ (canon (dotN f N)) w) := by
  obtain ⟨W0, hW0⟩ : ∃ W, (w.alloc (.cells #[.bool false, .string ⟨#[]⟩] 28)).alloc (.cells #[.bool false, .string ⟨#[]⟩] 28) = W := ⟨_, rfl⟩
  have hb0 : Below w.heap.size w W0 := by rw [← hW0]; exact ((Below.refl _ _).alloc (Nat.le_refl _) _).alloc (by simp) _
  have hbr : BoxAt W0 w.heap.size (.bool false) (.string ⟨#[]⟩) := by
    rw [← hW0]
    exact (BoxAt.new w (.bool false) (.string ⟨#[]⟩) 28).below (B := w.heap.size + 1) (by
      have := (Below.refl (w.heap.size + 1) (w.alloc (.cells #[.bool false, .string ⟨#[]⟩] 28))).alloc (by simp) (.cells #[.bool false, .string ⟨#[]⟩] 28)
      exact this) (by omega)
  have hx0 : BoxAt W0 (w.heap.size + 1) (.bool (canon (dotN f 0)).neg) (.string (canon (dotN f 0)).mag) := by
    rw [← hW0]
    have := BoxAt.new (w.alloc (.cells #[.bool false, .string ⟨#[]⟩] 28)) (.bool false) (.string ⟨#[]⟩) 28
    have c0 : canon (dotN f 0) = ⟨false, ⟨#[]⟩⟩ := rfl
    rw [c0]
    simpa using this
  have hsz : w.heap.size + 1 < W0.heap.size := hx0.2.2.2.2
  have HP := Lib.hid hp
  have Hs := Lib.hid hs
  have Hf := Lib.hid hf
  have Hx := Lib.hid hx0
  have Hr := Lib.hid hbr
  have Hb := Lib.hid hb0
  clear hp hs hf hx0 hbr hb0
  obtain ⟨g0, hg0⟩ : ∃ g, w.heap.size = g := ⟨_, rfl⟩
  rw [hg0] at Hx Hr hsz
  have Hg0 := Lib.hid hg0
  go_enter Try.func55, Try.ntmps55
  go_wp2_with fail
  try rw [hW0]
  try rw [hg0]
  clear hg0 hW0
  go_loopw [8] (fun iv wr => ∃ i : Nat, i ≤ N ∧ iv = .int .i64 (i : Nat) ∧ Hid (BoxAt wr g0 (.bool false) (.string ⟨#[]⟩)) ∧ Hid (BoxAt wr (g0 + 1) (.bool (canon (dotN f i)).neg) (.string (canon (dotN f i)).mag)) ∧ Hid (Below w.heap.size w wr)) (fun iv _ => N - (intOf iv).toNat)
  case atStart => exact ⟨0, by omega, by go_num, Hr, Hx, Hb⟩
  case round =>
    clear Hr Hx Hb
    obtain ⟨i, hi, rfl, Hr, Hx, Hb⟩ := hrel
    by_cases hil : i < N
    · have i1 : (i : Int) < (N : Int) := by omega
      have i0 : (0 : Int) ≤ (i : Int) := by omega
      obtain ⟨rb, ro, rfl, hrb, hrc⟩ := RowF.cells (HP.out.below (Nat.le_refl _) Hb.out) hil
      obtain ⟨d0, d1⟩ := hrc i hil
      have hs1 := Hs.out i (by omega)
      have hs2 := Hf.out i hil
      have hnx : dotN f (i + 1) = dotN f i + f i := rfl
      obtain ⟨x, hx⟩ : ∃ x, dotN f i = x := ⟨_, rfl⟩
      obtain ⟨y, hy⟩ : ∃ x, f i = x := ⟨_, rfl⟩
      rw [hx] at hs1 hnx Hx
      rw [hy] at hs2 hnx d0 d1
      have HA := Lib.hid (fun W => addc_any x y hs1 hs2 W)
      obtain ⟨u, hu⟩ : ∃ u, x + y = u := ⟨_, rfl⟩
      rw [hu] at HA hnx
      have Hnx := Lib.hid hnx
      obtain ⟨Y, hY⟩ : ∃ Z, canon y = Z := ⟨_, rfl⟩
      obtain ⟨X, hX⟩ : ∃ Z, canon x = Z := ⟨_, rfl⟩
      rw [hY] at d0 d1 HA
      rw [hX] at Hx HA
      clear hs1 hs2 hnx hx hy hu hrc hY hX
      obtain ⟨z1, z2, z3, z4, z5⟩ := Hx.out
      have hal := (Below.refl wr.heap.size wr).alloc (Nat.le_refl _) (.cells #[.bool Y.neg, .string Y.mag] 28)
      have Hr2 := Lib.hid (Hr.out.below hal Hr.out.2.2.2.2)
      have Hx2 := Lib.hid (Hx.out.below hal Hx.out.2.2.2.2)
      have Hb2 := Lib.hid (Hb.out.trans (hal.mono Hb.out.size))
      clear hal Hr Hx Hb hrb
      go_wp2_with fail
      refine (HA.out _).mono ?_
      rintro e V1 ⟨rfl, hbc⟩
      dsimp only
      have hlow : w.heap.size ≤ g0 + 1 := by have := Hg0.out; omega
      have hr3 := boxp_far (boxp_far (Hr2.out.below hbc Hr2.out.2.2.2.2) (p := ⟨g0 + 1, 0, none⟩) (by show g0 ≠ g0 + 1; omega) (.bool (canon u).neg)) (p := ⟨g0 + 1, 1, none⟩) (by show g0 ≠ g0 + 1; omega) (.string (canon u).mag)
      have hx3 := Hx2.out.below hbc Hx2.out.2.2.2.2
      have hx4 : BoxAt ((V1.setCell ⟨g0 + 1, 0, none⟩ (.bool (canon u).neg)).setCell ⟨g0 + 1, 1, none⟩ (.string (canon u).mag)) (g0 + 1) (.bool (canon (dotN f (i + 1))).neg) (.string (canon (dotN f (i + 1))).mag) := by rw [Hnx.out]; exact boxp_set hx3 _ _
      have hb3 : Below w.heap.size w ((V1.setCell ⟨g0 + 1, 0, none⟩ (.bool (canon u).neg)).setCell ⟨g0 + 1, 1, none⟩ (.string (canon u).mag)) := ((Hb2.out.trans (hbc.mono Hb2.out.size)).setCell hlow _).setCell hlow _
      have Hr4 := Lib.hid hr3
      have Hx4 := Lib.hid hx4
      have Hb4 := Lib.hid hb3
      obtain ⟨y1, y2, y3, y4, y5⟩ := hx3
      clear hbc hr3 hx4 hb3 HA Hr2 Hx2 Hb2 d0 d1 z1 z2 z3 z4 z5
      go_wp2_with fail
      go_roundw
      case rel => exact ⟨i + 1, by omega, by go_num, Hr4, Hx4, Hb4⟩
      case measure => simp [intOf]; omega
    · have i1 : ¬ (i : Int) < (N : Int) := by omega
      have hie : i = N := by omega
      rw [hie] at Hx
      have Htr : Hid (dotN f N = dotN f N) := Lib.hid rfl
      obtain ⟨T, hT⟩ : ∃ T, dotN f N = T := ⟨_, rfl⟩
      rw [hT] at Hx
      have HT := Lib.hid hT
      obtain ⟨r0, r1, r2, r3, r4⟩ := Hr.out
      obtain ⟨s0, s1, s2, s3, s4⟩ := Hx.out
      have hlow : w.heap.size ≤ g0 := by have := Hg0.out; omega
      clear hie Hx Hr hT
      go_wp2
      refine bodyPost_ret (v := .agg #[.bool (canon T).neg, .string (canon T).mag]) (by simp [results, Try.results55, go_sem, r0, r1]) rfl ?_
      rw [HT.out]
      exact ⟨rfl, (Hb.out.setCell hlow _).setCell hlow _⟩
set_option maxRecDepth 100000 in
set_option maxHeartbeats 4000000 in
theorem Total_any (L : Int) (N n K : Nat) (E : Nat → Nat → Int) (p : Option Addr) (c : Nat) (hN : N ≤ 1000000) (hn : n ≤ 1000000) (hK : K ≤ 4096) (hg : gChk L N n E = 0)
    (hc : CntOk (toE E) (frE E) n N K (fun _ => 1)) (hs : ∀ j, j ≤ N → (canon (dotN (cntI (toE E) (frE E) n (fun _ => 1) K) j)).mag.size ≤ 100000000) (hf : ∀ j, j < N → (canon (cntI (toE E) (frE E) n (fun _ => 1) K j)).mag.size ≤ 100000000) (w : World) (hE : EdgAt w p n E) :
    Calls Try.prog 18 #[.agg #[.int .i64 L, .int .i64 (N : Int), .slice p n c], .int .i64 (K : Int)] w (RetNumE 0 (dotN (cntI (toE E) (frE E) n (fun _ => 1) K) N) w) := by
  obtain ⟨W0, hW0⟩ : ∃ W, (w.alloc (.cells #[.int .i64 L, .int .i64 (N : Int), .slice p n c] 24)).alloc (.cells #[.bool false, .string ⟨#[]⟩] 28) = W := ⟨_, rfl⟩
  have hb0 : Below w.heap.size w W0 := by rw [← hW0]; exact ((Below.refl _ _).alloc (Nat.le_refl _) _).alloc (by simp) _
  have hbx : BoxAt3 W0 w.heap.size (.int .i64 L) (.int .i64 (N : Int)) (.slice p n c) := by rw [← hW0]; exact (BoxAt3.new w _ _ _ _).below ((Below.refl _ _).alloc (by simp) _)
  have hbr : BoxAt W0 (w.heap.size + 1) (.bool false) (.string ⟨#[]⟩) := by
    rw [← hW0]
    have := BoxAt.new (w.alloc (.cells #[.int .i64 L, .int .i64 (N : Int), .slice p n c] 24)) (.bool false) (.string ⟨#[]⟩) 28
    simpa using this
  have hE0 : EdgAt W0 p n E := hE.mono (Nat.le_refl _) hb0
  have HF := Lib.hid (From_any L N n K E p c hN hn hK hg hc W0 hE0)
  have HSm := Lib.hid (fun (W : World) (q : Option Addr) (d : Nat) (hq : RowF W q N (cntI (toE E) (frE E) n (fun _ => 1) K)) => sumZ_any N _ q d hN hs hf W hq)
  have HB : Hid (∀ W, Below W0.heap.size W0 W → Below w.heap.size w W ∧ BoxAt W (w.heap.size + 1) (.bool false) (.string ⟨#[]⟩)) := Lib.hid (fun W hW => ⟨hb0.trans (hW.mono hb0.size), hbr.below hW hbr.2.2.2.2⟩)
  obtain ⟨_, c0, c1, c2⟩ := hbx
  clear hE hE0 hb0 hg hbr hc hs hf
  generalize cntI (toE E) (frE E) n (fun _ => 1) K = F at *
  go_enter Try.func18, Try.ntmps18
  go_wp2_with fail
  try rw [hW0]
  refine HF.out.mono ?_
  rintro e W1 ⟨q1, k1, rfl, hM1, hb1, _⟩
  dsimp only
  have Hb := Lib.hid hb1
  have HS1 := Lib.hid (HSm.out _ q1 k1 hM1)
  clear hb1 HF HSm c0 c1 c2 hW0 hM1
  go_wp2_with fail
  refine HS1.out.mono ?_
  rintro e W2 ⟨rfl, hb2⟩
  dsimp only
  obtain ⟨hbw, hbr⟩ := HB.out _ (Hb.out.trans (hb2.mono Hb.out.size))
  obtain ⟨r0, r1, r2, r3, r4⟩ := hbr
  have Hbw := Lib.hid hbw
  obtain ⟨T, hT⟩ : ∃ T, dotN F N = T := ⟨_, rfl⟩
  have HT := Lib.hid hT
  rw [hT]
  clear hb2 HB HS1 Hb hbw hT
  go_wp2
  refine bodyPost_ret (v := .tuple #[.agg #[.bool (canon T).neg, .string (canon T).mag], .int .i64 0]) (by simp [results, Try.results18, go_sem, r0, r1]) rfl ?_
  rw [HT.out]
  exact ⟨(Hbw.out.setCell (by simp) _).setCell (by simp) _, .inl ⟨rfl, rfl⟩⟩
end Go.Proofs.Ytlaoijfphkhchaa
