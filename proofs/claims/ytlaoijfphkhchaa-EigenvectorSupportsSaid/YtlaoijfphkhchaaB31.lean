/- eigenvector: Greatest, Check. -/
import Derived.Test.YtlaoijfphkhchaaB30
namespace Go.Proofs.Ytlaoijfphkhchaa
open Go.RowKit Go.Shelf
theorem vChk_zero {L S : Int} {n : Nat} {E : Nat → Nat → Int} {m : Int} {nv : Nat} {v : Nat → Int} (h : vChk L S n E m nv v = 0) : gChk L S n E = 0 ∧ 1 ≤ m ∧ m ≤ 256 ∧ (nv : Int) = S ∧ ∀ k, k < nv → 0 ≤ v k ∧ v k ≤ 4096 := by
  unfold vChk at h
  split at h
  · cases h
  split at h
  · cases h
  split at h
  · cases h
  split at h
  · cases h
  rename_i h1 h2 h3 h4
  rw [Bool.not_eq_true] at h4
  exact ⟨by omega, by omega, by omega, by omega, fun k hk => by have := anyN_false.1 h4 k hk; rw [decide_eq_false_iff_not] at this; omega⟩
theorem vChk_ok {L S : Int} {n : Nat} {E : Nat → Nat → Int} {m : Int} {nv : Nat} {v : Nat → Int} (h1 : gChk L S n E = 0) (h2 : 1 ≤ m) (h3 : m ≤ 256) (h4 : (nv : Int) = S) (h5 : ∀ k, k < nv → 0 ≤ v k ∧ v k ≤ 4096) : vChk L S n E m nv v = 0 := by
  unfold vChk
  have h6 : anyN (fun k => decide (v k < 0 ∨ 4096 < v k)) nv = false := anyN_false.2 fun k hk => decide_eq_false (by have := h5 k hk; omega)
  rw [if_neg (by omega), if_neg (by omega), if_neg (by omega), h6]
  rfl
/-- What Greatest answers where check has nothing to say. -/
def RetGrE (fr te : Nat → Nat) (n N m : Nat) (v : Nat → Int) (w : World) (e : Ending) (w' : World) : Prop :=
  ∃ u q cq, GrO fr te n N m v u ∧ e = .returned (.tuple #[.slice q N cq, .int .i64 0]) ∧ VOwn w' w.heap.size q N u ∧ Below w.heap.size w w'
def RetNilE (r : Int) (w : World) (e : Ending) (w' : World) : Prop := e = .returned (.tuple #[.slice none 0 0, .int .i64 r]) ∧ Below w.heap.size w w'
set_option maxRecDepth 100000 in
theorem Greatest_err (L S : Int) (n : Nat) (E : Nat → Nat → Int) (p : Option Addr) (c : Nat) (m : Int) (nv : Nat) (v : Nat → Int) (pv : Option Addr) (cv : Nat) (hnv : nv ≤ 1000000000000) (r : Int) (hr : vChk L S n E m nv v = r) (hr0 : r ≠ 0) (w : World) (hE : EdgAt w p n E) (hV : VRow w pv nv v) :
    Calls Try.prog 22 #[.agg #[.int .i64 L, .int .i64 S, .slice p n c], .slice pv nv cv, .int .i64 m] w (RetNilE r w) := by
  obtain ⟨W0, hW0⟩ : ∃ W, w.alloc (.cells #[.int .i64 L, .int .i64 S, .slice p n c] 24) = W := ⟨_, rfl⟩
  have hb0 : Below w.heap.size w W0 := by rw [← hW0]; exact (Below.refl _ _).alloc (Nat.le_refl _) _
  have hbx : BoxAt3 W0 w.heap.size (.int .i64 L) (.int .i64 S) (.slice p n c) := by rw [← hW0]; exact BoxAt3.new w _ _ _ _
  have hE0 : EdgAt W0 p n E := hE.mono (Nat.le_refl _) hb0
  have hV0 : VRow W0 pv nv v := hV.below (Nat.le_refl _) hb0
  have HB : Hid (∀ W, Below W0.heap.size W0 W → BoxAt3 W w.heap.size (.int .i64 L) (.int .i64 S) (.slice p n c) ∧ Below w.heap.size w W) := Lib.hid (fun W hW => ⟨hbx.below hW, hb0.trans (hW.mono hb0.size)⟩)
  have HC := Lib.hid (evChk_any L S n E p c m nv v pv cv hnv W0 hE0 hV0)
  rw [hr] at HC
  obtain ⟨_, c0, c1, c2⟩ := hbx
  have e1 : (r != 0) = true := by rw [bne_iff_ne]; exact hr0
  clear hr hr0 hE hV hE0 hV0 hb0
  go_enter Try.func22, Try.ntmps22
  go_wp2_with fail
  try rw [hW0]
  refine HC.out.mono ?_
  rintro e W1 ⟨rfl, hb⟩
  dsimp only
  have Hb := Lib.hid (HB.out _ hb).2
  clear hb HC HB c0 c1 c2 hW0
  go_wp2
  go_ret2
  exact ⟨rfl, Hb.out⟩
set_option maxRecDepth 100000 in
theorem Greatest_ok (LL : Int) (N n m : Nat) (E : Nat → Nat → Int) (p : Option Addr) (c : Nat) (v : Nat → Int) (pv : Option Addr) (cv : Nat) (hr : vChk LL N n E m N v = 0) (w : World) (hE : EdgAt w p n E) (hV : VRow w pv N v) :
    Calls Try.prog 22 #[.agg #[.int .i64 LL, .int .i64 (N : Int), .slice p n c], .slice pv N cv, .int .i64 (m : Int)] w (RetGrE (frE E) (toE E) n N m v w) := by
  obtain ⟨hg, hm1, hm2, _, hv⟩ := vChk_zero hr
  obtain ⟨_, _, _, hS, hn, _⟩ := gChk_zero hg
  have hok : EdOk N n E := by have := gChk_ok hg; simpa using this
  obtain ⟨W0, hW0⟩ : ∃ W, w.alloc (.cells #[.int .i64 LL, .int .i64 (N : Int), .slice p n c] 24) = W := ⟨_, rfl⟩
  have hb0 : Below w.heap.size w W0 := by rw [← hW0]; exact (Below.refl _ _).alloc (Nat.le_refl _) _
  have hbx : BoxAt3 W0 w.heap.size (.int .i64 LL) (.int .i64 (N : Int)) (.slice p n c) := by rw [← hW0]; exact BoxAt3.new w _ _ _ _
  have hE0 : EdgAt W0 p n E := hE.mono (Nat.le_refl _) hb0
  have hV0 : VRow W0 pv N v := hV.below (Nat.le_refl _) hb0
  have HB : Hid (∀ W, Below W0.heap.size W0 W → BoxAt3 W w.heap.size (.int .i64 LL) (.int .i64 (N : Int)) (.slice p n c) ∧ Below w.heap.size w W) := Lib.hid (fun W hW => ⟨hbx.below hW, hb0.trans (hW.mono hb0.size)⟩)
  have HC := Lib.hid (evChk_any LL N n E p c m N v pv cv (by omega) W0 hE0 hV0)
  rw [hr] at HC
  have HG := Lib.hid (fun W (hW : Below W0.heap.size W0 W) => greatest_any LL N n m E p c v pv cv (by omega) (by omega) (by omega) (by omega) hok (fun s hs => ⟨(hv s hs).1, by have := (hv s hs).2; omega⟩) W (hE0.mono (Nat.le_refl _) hW) (hV0.below (Nat.le_refl _) hW))
  obtain ⟨_, c0, c1, c2⟩ := hbx
  clear hr hE hV hE0 hV0 hb0 hg hok hv
  go_enter Try.func22, Try.ntmps22
  go_wp2_with fail
  try rw [hW0]
  refine HC.out.mono ?_
  rintro e W1 ⟨rfl, hb⟩
  dsimp only
  obtain ⟨⟨_, z0, z1, z2⟩, hb1⟩ := HB.out _ hb
  have Hb := Lib.hid hb
  have Hb1 := Lib.hid hb1
  clear hb hb1 HC c0 c1 c2 hW0
  go_wp2_with fail
  refine (HG.out _ Hb.out).mono ?_
  rintro e W2 ⟨u, hu, q, cq, rfl, hq, hb2⟩
  dsimp only
  have Hu := Lib.hid hu
  have Hq := Lib.hid (hq.base Hb1.out.size)
  have Hb2 := Lib.hid (Hb1.out.trans (hb2.mono Hb1.out.size))
  clear hu hq hb2 HG Hb Hb1 HB z0 z1 z2
  go_wp2
  go_ret2
  exact ⟨u, q, cq, Hu.out, rfl, Hq.out, Hb2.out⟩
/-- What Check says where check has nothing to say. -/
def ckV (fr te : Nat → Nat) (n N m : Nat) (v : Nat → Int) : Int :=
  if anyN (fun k => v k != 0) N = false then 5 else if anyN (fun k => decide (smE fr te v n k < (m : Int) * v k)) N = true then 23 else 0
set_option maxRecDepth 100000 in
theorem EvCheck_err (L S : Int) (n : Nat) (E : Nat → Nat → Int) (p : Option Addr) (c : Nat) (m : Int) (nv : Nat) (v : Nat → Int) (pv : Option Addr) (cv : Nat) (hnv : nv ≤ 1000000000000) (r : Int) (hr : vChk L S n E m nv v = r) (hr0 : r ≠ 0) (w : World) (hE : EdgAt w p n E) (hV : VRow w pv nv v) :
    Calls Try.prog 27 #[.agg #[.int .i64 L, .int .i64 S, .slice p n c], .slice pv nv cv, .int .i64 m] w (RetInt r w) := by
  obtain ⟨W0, hW0⟩ : ∃ W, w.alloc (.cells #[.int .i64 L, .int .i64 S, .slice p n c] 24) = W := ⟨_, rfl⟩
  have hb0 : Below w.heap.size w W0 := by rw [← hW0]; exact (Below.refl _ _).alloc (Nat.le_refl _) _
  have hbx : BoxAt3 W0 w.heap.size (.int .i64 L) (.int .i64 S) (.slice p n c) := by rw [← hW0]; exact BoxAt3.new w _ _ _ _
  have hE0 : EdgAt W0 p n E := hE.mono (Nat.le_refl _) hb0
  have hV0 : VRow W0 pv nv v := hV.below (Nat.le_refl _) hb0
  have HB : Hid (∀ W, Below W0.heap.size W0 W → BoxAt3 W w.heap.size (.int .i64 L) (.int .i64 S) (.slice p n c) ∧ Below w.heap.size w W) := Lib.hid (fun W hW => ⟨hbx.below hW, hb0.trans (hW.mono hb0.size)⟩)
  have HC := Lib.hid (evChk_any L S n E p c m nv v pv cv hnv W0 hE0 hV0)
  rw [hr] at HC
  obtain ⟨_, c0, c1, c2⟩ := hbx
  have e1 : (r != 0) = true := by rw [bne_iff_ne]; exact hr0
  clear hr hr0 hE hV hE0 hV0 hb0
  go_enter Try.func27, Try.ntmps27
  go_wp2_with fail
  try rw [hW0]
  refine HC.out.mono ?_
  rintro e W1 ⟨rfl, hb⟩
  dsimp only
  have Hb := Lib.hid (HB.out _ hb).2
  clear hb HC HB c0 c1 c2 hW0
  go_wp2
  go_ret
  exact ⟨rfl, Hb.out⟩
set_option maxRecDepth 100000 in
set_option maxHeartbeats 4000000 in
theorem EvCheck_ok (LL : Int) (N n m : Nat) (E : Nat → Nat → Int) (p : Option Addr) (c : Nat) (v : Nat → Int) (pv : Option Addr) (cv : Nat) (hr : vChk LL N n E m N v = 0) (w : World) (hE : EdgAt w p n E) (hV : VRow w pv N v) :
    Calls Try.prog 27 #[.agg #[.int .i64 LL, .int .i64 (N : Int), .slice p n c], .slice pv N cv, .int .i64 (m : Int)] w (RetInt (ckV (frE E) (toE E) n N m v) w) := by
  obtain ⟨hg, hm1, hm2, _, hv⟩ := vChk_zero hr
  obtain ⟨_, _, _, hS, hn, _⟩ := gChk_zero hg
  have hok : EdOk N n E := by have := gChk_ok hg; simpa using this
  obtain ⟨W0, hW0⟩ : ∃ W, w.alloc (.cells #[.int .i64 LL, .int .i64 (N : Int), .slice p n c] 24) = W := ⟨_, rfl⟩
  have hb0 : Below w.heap.size w W0 := by rw [← hW0]; exact (Below.refl _ _).alloc (Nat.le_refl _) _
  have hbx : BoxAt3 W0 w.heap.size (.int .i64 LL) (.int .i64 (N : Int)) (.slice p n c) := by rw [← hW0]; exact BoxAt3.new w _ _ _ _
  have hE0 : EdgAt W0 p n E := hE.mono (Nat.le_refl _) hb0
  have hV0 : VRow W0 pv N v := hV.below (Nat.le_refl _) hb0
  have HB : Hid (∀ W, Below W0.heap.size W0 W → BoxAt3 W w.heap.size (.int .i64 LL) (.int .i64 (N : Int)) (.slice p n c) ∧ Below w.heap.size w W) := Lib.hid (fun W hW => ⟨hbx.below hW, hb0.trans (hW.mono hb0.size)⟩)
  have HC := Lib.hid (evChk_any LL N n E p c m N v pv cv (by omega) W0 hE0 hV0)
  rw [hr] at HC
  have HV : Hid (∀ W, Below W0.heap.size W0 W → VRow W pv N v) := Lib.hid (fun W hW => hV0.below (Nat.le_refl _) hW)
  have HZ := Lib.hid (fun W (hW : Below W0.heap.size W0 W) => evZero_any N pv cv v (by omega) W (hV0.below (Nat.le_refl _) hW))
  have HSu := Lib.hid (fun W (hW : Below W0.heap.size W0 W) => sums_any LL N n E p c v pv cv (by omega) (by omega) hok (fun s hs => ⟨(hv s hs).1, by have := (hv s hs).2; omega⟩) W (hE0.mono (Nat.le_refl _) hW) (hV0.below (Nat.le_refl _) hW))
  have Hv := Lib.hid hv
  have Hsm : Hid (∀ s, 0 ≤ smE (frE E) (toE E) v n s ∧ smE (frE E) (toE E) v n s ≤ 1000000000000) := Lib.hid (fun s => by
    have ht : ∀ e, e < n → toE E e < N := fun e he => (edOk_nat hok e he).2.2.2
    refine ⟨smE_nonneg ht (fun s hs => (hv s hs).1) s, ?_⟩
    have := smE_le (B := 4096) (by omega) ht (fun s hs => (hv s hs).2) (fr := frE E) s
    omega)
  obtain ⟨_, c0, c1, c2⟩ := hbx
  obtain ⟨r, hr2⟩ : ∃ r, ckV (frE E) (toE E) n N m v = r := ⟨_, rfl⟩
  rw [hr2]
  have HR := Lib.hid hr2
  unfold ckV at HR
  have HM : Hid (∀ k, k < N → ∀ y, (m : Int) * v k = y → wrap64 ((m : Int) * v k) = y ∧ IntKind.i64.wrap ((m : Int) * v k) = y) := Lib.hid (fun k hk y hy => by
    have h1 := hv k hk
    have h2 := mul_wrap (a := (m : Int)) (b := v k) (A := 256) (B := 4096) (by omega) (by omega) h1.1 h1.2 (by omega)
    exact ⟨h2.trans hy, (IntWalk.i64_in _ ⟨by have := Int.mul_nonneg (show (0 : Int) ≤ m by omega) h1.1; omega, by have := Int.mul_le_mul (show (m : Int) ≤ 256 by omega) h1.2 h1.1 (by omega); omega⟩).trans hy⟩)
  obtain ⟨b, hbz⟩ : ∃ b, anyN (fun k => v k != 0) N = b := ⟨_, rfl⟩
  rw [hbz] at HZ HR
  clear hr hr2 hE hV hE0 hV0 hb0 hg hok hv hbz
  go_enter Try.func27, Try.ntmps27
  go_wp2_with fail
  try rw [hW0]
  refine HC.out.mono ?_
  rintro e W1 ⟨rfl, hb⟩
  dsimp only
  have Hb := Lib.hid hb
  obtain ⟨⟨_, z0, z1, z2⟩, _⟩ := HB.out _ hb
  clear hb HC c0 c1 c2 hW0
  go_wp2_with fail
  refine (HZ.out _ Hb.out).mono ?_
  rintro e W2 ⟨rfl, hb2⟩
  dsimp only
  have Hb2 := Lib.hid (Hb.out.trans (hb2.mono Hb.out.size))
  clear hb2 Hb HZ z0 z1 z2
  cases b
  · have hr : (5 : Int) = r := by rw [← HR.out, if_pos rfl]
    have HR2 := Lib.hid hr
    clear hr HR
    go_wp2
    go_ret
    exact ⟨by rw [← HR2.out]; rfl, (HB.out _ Hb2.out).2⟩
  · obtain ⟨⟨_, z0, z1, z2⟩, _⟩ := HB.out _ Hb2.out
    go_wp2_with fail
    refine (HSu.out _ Hb2.out).mono ?_
    rintro e W3 ⟨g1, rfl, hz, hg1, hb3⟩
    dsimp only
    have hb4 := Hb2.out.trans (hb3.mono Hb2.out.size)
    have HZ3 : Hid (∀ W, Below W3.heap.size W3 W → VAt W g1 N (smE (frE E) (toE E) v n) ∧ Below W0.heap.size W0 W) := Lib.hid (fun W hW => ⟨hz.below hW hz.1, hb4.trans (hW.mono hb4.size)⟩)
    have Hw : Hid (Below W3.heap.size W3 W3) := Lib.hid (Below.refl _ _)
    have HN : Hid (∀ k, k < 0 → (m : Int) * v k ≤ smE (frE E) (toE E) v n k) := Lib.hid (fun k hk => by omega)
    clear hz hg1 hb3 hb4 Hb2 HSu z0 z1 z2
    go_wp2_with fail
    go_loopw [23] (fun tv wr => ∃ i : Nat, i ≤ N ∧ tv = .int .i64 (i : Nat) ∧ Hid (∀ k, k < i → (m : Int) * v k ≤ smE (frE E) (toE E) v n k) ∧ Hid (Below W3.heap.size W3 wr)) (fun tv _ => N - (intOf tv).toNat)
    case atStart => exact ⟨0, by omega, by go_num, HN, Hw⟩
    case round =>
      clear HN Hw
      obtain ⟨i, hi, rfl, HN, Hw⟩ := hrel
      obtain ⟨hz, hbw⟩ := HZ3.out _ Hw.out
      by_cases hil : i < N
      · have i3 : (i : Int) < (N : Int) := by omega
        have i4 : (0 : Int) ≤ (i : Int) := by omega
        have x0 := (hz.2 i hil).1
        obtain ⟨vb, vo, rfl, hvb, hvc⟩ := VRow.cells (HV.out _ hbw) hil
        have y0 := hvc i hil
        have hs0 := Hsm.out i
        have hv0 := Hv.out i hil
        obtain ⟨y, hy⟩ : ∃ y, (m : Int) * v i = y := ⟨_, rfl⟩
        obtain ⟨m1, m2⟩ := HM.out i hil y hy
        have HF := Lib.hid (fun (h : smE (frE E) (toE E) v n i < y) => show (23 : Int) = r from by
          rw [← HR.out, if_neg (by intro h; cases h), if_pos (anyN_true.2 ⟨i, hil, decide_eq_true (by rw [hy]; exact h)⟩)])
        have HN2 := Lib.hid (fun (h : ¬ smE (frE E) (toE E) v n i < y) (k : Nat) (hk : k < i + 1) => show (m : Int) * v k ≤ smE (frE E) (toE E) v n k from by
          by_cases e : k = i
          · rw [e, hy]; omega
          · exact HN.out k (by omega))
        have Hbw := Lib.hid (HB.out _ hbw).2
        dsimp only at x0
        obtain ⟨x, hx⟩ : ∃ x, smE (frE E) (toE E) v n i = x := ⟨_, rfl⟩
        obtain ⟨z, hzv⟩ : ∃ x, v i = x := ⟨_, rfl⟩
        rw [hx] at x0 hs0 HF HN2
        rw [hzv] at y0 hv0 m1 m2
        clear hvc hz hbw hy hx hzv HN
        by_cases hlt : x < y
        · have HF2 := Lib.hid (HF.out hlt)
          clear HF HN2
          go_wp2
          go_ret
          exact ⟨by rw [← HF2.out]; rfl, Hbw.out⟩
        · have HN3 := Lib.hid (HN2.out hlt)
          clear HF HN2
          go_wp2_with fail
          go_roundw
          case rel => exact ⟨i + 1, by omega, by go_num, HN3, Hw⟩
          case measure => simp [intOf]; omega
      · have i3 : ¬ (i : Int) < (N : Int) := by omega
        have hF : anyN (fun k => decide (smE (frE E) (toE E) v n k < (m : Int) * v k)) N = false := anyN_false.2 fun k hk => decide_eq_false (by have := HN.out k (by omega); omega)
        have hr : (0 : Int) = r := by rw [← HR.out, if_neg (by intro h; cases h), hF]; rfl
        have HR2 := Lib.hid hr
        have Hbw := Lib.hid (HB.out _ hbw).2
        clear hF hr hz hbw
        go_wp2
        go_ret
        exact ⟨by rw [← HR2.out]; rfl, Hbw.out⟩
end Go.Proofs.Ytlaoijfphkhchaa
