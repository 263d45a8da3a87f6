/- grooveref23.Greatest, Check. grooveref01: trim, Canonical. grooveref01: Canonical. grooveref01: Neg. grooveref01: small. -/
import Derived.Test.YtlaoijfphkhchaaGreatB36
import Derived.Test.YtlaoijfphkhchaaGreatB2
namespace Go.Proofs.YtlaoijfphkhchaaGreat
open Go.RowKit Go.Shelf
set_option maxRecDepth 100000 in
theorem rGreatest_err (L S : Int) (n : Nat) (E : Nat → Nat → Int) (p : Option Addr) (c : Nat) (m : Int) (nv : Nat) (v : Nat → Int) (pv : Option Addr) (cv : Nat) (hnv : nv ≤ 1000000000000) (r : Int) (hr : vChk L S n E m nv v = r) (hr0 : r ≠ 0) (w : World) (hE : EdgAt w p n E) (hV : VRow w pv nv v) :
    Calls Tryz.prog 9 #[.agg #[.int .i64 L, .int .i64 S, .slice p n c], .slice pv nv cv, .int .i64 m] w (RetNilE r w) := by
  obtain ⟨W0, hW0⟩ : ∃ W, w.alloc (.cells #[.int .i64 L, .int .i64 S, .slice p n c] 24) = W := ⟨_, rfl⟩
  have hb0 : Below w.heap.size w W0 := by rw [← hW0]; exact (Below.refl _ _).alloc (Nat.le_refl _) _
  have hbx : BoxAt3 W0 w.heap.size (.int .i64 L) (.int .i64 S) (.slice p n c) := by rw [← hW0]; exact BoxAt3.new w _ _ _ _
  have hE0 : EdgAt W0 p n E := hE.mono (Nat.le_refl _) hb0
  have hV0 : VRow W0 pv nv v := hV.below (Nat.le_refl _) hb0
  have HB : Hid (∀ W, Below W0.heap.size W0 W → BoxAt3 W w.heap.size (.int .i64 L) (.int .i64 S) (.slice p n c) ∧ Below w.heap.size w W) := Lib.hid (fun W hW => ⟨hbx.below hW, hb0.trans (hW.mono hb0.size)⟩)
  have HC := Lib.hid (rvChk_any L S n E p c m nv v pv cv hnv W0 hE0 hV0)
  rw [hr] at HC
  obtain ⟨_, c0, c1, c2⟩ := hbx
  have e1 : (r != 0) = true := by rw [bne_iff_ne]; exact hr0
  clear hr hr0 hE hV hE0 hV0 hb0
  go_enter Tryz.func9, Tryz.ntmps9
  go_wp2_with fail
  try rw [hW0]
  refine HC.out.mono ?_
  rintro e W1 ⟨rfl, hb⟩
  dsimp only
  have Hb := Lib.hid (HB.out _ hb).2
  clear hb HC HB c0 c1 c2 hW0
  go_wp2
  go_ret2
  exact ⟨rfl, Hb.out⟩
set_option maxRecDepth 100000 in
theorem rGreatest_ok (LL : Int) (N n m : Nat) (E : Nat → Nat → Int) (p : Option Addr) (c : Nat) (v : Nat → Int) (pv : Option Addr) (cv : Nat) (hr : vChk LL N n E m N v = 0) (hpc : pv = none → cv = 0) (w : World) (hE : EdgAt w p n E) (hV : VRow w pv N v) :
    Calls Tryz.prog 9 #[.agg #[.int .i64 LL, .int .i64 (N : Int), .slice p n c], .slice pv N cv, .int .i64 (m : Int)] w (RetGrE (frE E) (toE E) n N m v w) := by
  obtain ⟨hg, hm1, hm2, _, hv⟩ := vChk_zero hr
  obtain ⟨_, _, _, hS, hn, _⟩ := gChk_zero hg
  have hok : EdOk N n E := by have := gChk_ok hg; simpa using this
  obtain ⟨W0, hW0⟩ : ∃ W, w.alloc (.cells #[.int .i64 LL, .int .i64 (N : Int), .slice p n c] 24) = W := ⟨_, rfl⟩
  have hb0 : Below w.heap.size w W0 := by rw [← hW0]; exact (Below.refl _ _).alloc (Nat.le_refl _) _
  have hbx : BoxAt3 W0 w.heap.size (.int .i64 LL) (.int .i64 (N : Int)) (.slice p n c) := by rw [← hW0]; exact BoxAt3.new w _ _ _ _
  have hE0 : EdgAt W0 p n E := hE.mono (Nat.le_refl _) hb0
  have hV0 : VRow W0 pv N v := hV.below (Nat.le_refl _) hb0
  have HB : Hid (∀ W, Below W0.heap.size W0 W → BoxAt3 W w.heap.size (.int .i64 LL) (.int .i64 (N : Int)) (.slice p n c) ∧ Below w.heap.size w W) := Lib.hid (fun W hW => ⟨hbx.below hW, hb0.trans (hW.mono hb0.size)⟩)
  have HC := Lib.hid (rvChk_any LL N n E p c m N v pv cv (by omega) W0 hE0 hV0)
  rw [hr] at HC
  have HG := Lib.hid (fun W (hW : Below W0.heap.size W0 W) => rgreatest_any LL N n m E p c v pv cv (by omega) (by omega) (by omega) (by omega) hok (fun s hs => ⟨(hv s hs).1, by have := (hv s hs).2; omega⟩) hpc W (hE0.mono (Nat.le_refl _) hW) (hV0.below (Nat.le_refl _) hW))
  obtain ⟨_, c0, c1, c2⟩ := hbx
  clear hr hE hV hE0 hV0 hb0 hg hok hv
  go_enter Tryz.func9, Tryz.ntmps9
  go_wp2_with fail
  try rw [hW0]
  refine HC.out.mono ?_
  rintro e W1 ⟨rfl, hb⟩
  dsimp only
  obtain ⟨⟨_, z0, z1, z2⟩, hb1⟩ := HB.out _ hb
  have Hb := Lib.hid hb
  have Hb1 := Lib.hid hb1
  clear hb hb1 HC c0 c1 c2 hW0
  go_wp2_with fail
  refine (HG.out _ Hb.out).mono ?_
  rintro e W2 ⟨u, hu, q, cq, rfl, hq, hb2⟩
  dsimp only
  have Hu := Lib.hid hu
  have Hq := Lib.hid (hq.base Hb1.out.size)
  have Hb2 := Lib.hid (Hb1.out.trans (hb2.mono Hb1.out.size))
  clear hu hq hb2 HG Hb Hb1 HB z0 z1 z2
  go_wp2
  go_ret2
  exact ⟨u, q, cq, Hu.out, rfl, Hq.out, Hb2.out⟩
set_option maxRecDepth 100000 in
theorem rCheck_err (L S : Int) (n : Nat) (E : Nat → Nat → Int) (p : Option Addr) (c : Nat) (m : Int) (nv : Nat) (v : Nat → Int) (pv : Option Addr) (cv : Nat) (hnv : nv ≤ 1000000000000) (r : Int) (hr : vChk L S n E m nv v = r) (hr0 : r ≠ 0) (w : World) (hE : EdgAt w p n E) (hV : VRow w pv nv v) :
    Calls Tryz.prog 11 #[.agg #[.int .i64 L, .int .i64 S, .slice p n c], .slice pv nv cv, .int .i64 m] w (RetInt r w) := by
  obtain ⟨W0, hW0⟩ : ∃ W, w.alloc (.cells #[.int .i64 L, .int .i64 S, .slice p n c] 24) = W := ⟨_, rfl⟩
  have hb0 : Below w.heap.size w W0 := by rw [← hW0]; exact (Below.refl _ _).alloc (Nat.le_refl _) _
  have hbx : BoxAt3 W0 w.heap.size (.int .i64 L) (.int .i64 S) (.slice p n c) := by rw [← hW0]; exact BoxAt3.new w _ _ _ _
  have hE0 : EdgAt W0 p n E := hE.mono (Nat.le_refl _) hb0
  have hV0 : VRow W0 pv nv v := hV.below (Nat.le_refl _) hb0
  have HB : Hid (∀ W, Below W0.heap.size W0 W → BoxAt3 W w.heap.size (.int .i64 L) (.int .i64 S) (.slice p n c) ∧ Below w.heap.size w W) := Lib.hid (fun W hW => ⟨hbx.below hW, hb0.trans (hW.mono hb0.size)⟩)
  have HC := Lib.hid (rvChk_any L S n E p c m nv v pv cv hnv W0 hE0 hV0)
  rw [hr] at HC
  obtain ⟨_, c0, c1, c2⟩ := hbx
  have e1 : (r != 0) = true := by rw [bne_iff_ne]; exact hr0
  clear hr hr0 hE hV hE0 hV0 hb0
  go_enter Tryz.func11, Tryz.ntmps11
  go_wp2_with fail
  try rw [hW0]
  refine HC.out.mono ?_
  rintro e W1 ⟨rfl, hb⟩
  dsimp only
  have Hb := Lib.hid (HB.out _ hb).2
  clear hb HC HB c0 c1 c2 hW0
  go_wp2
  go_ret
  exact ⟨rfl, Hb.out⟩
set_option maxRecDepth 100000 in
set_option maxHeartbeats 4000000 in
theorem rCheck_ok (LL : Int) (N n m : Nat) (E : Nat → Nat → Int) (p : Option Addr) (c : Nat) (v : Nat → Int) (pv : Option Addr) (cv : Nat) (hr : vChk LL N n E m N v = 0) (w : World) (hE : EdgAt w p n E) (hV : VRow w pv N v) :
    Calls Tryz.prog 11 #[.agg #[.int .i64 LL, .int .i64 (N : Int), .slice p n c], .slice pv N cv, .int .i64 (m : Int)] w (RetInt (ckV (frE E) (toE E) n N m v) w) := by
  obtain ⟨hg, hm1, hm2, _, hv⟩ := vChk_zero hr
  obtain ⟨_, _, _, hS, hn, _⟩ := gChk_zero hg
  have hok : EdOk N n E := by have := gChk_ok hg; simpa using this
  obtain ⟨W0, hW0⟩ : ∃ W, w.alloc (.cells #[.int .i64 LL, .int .i64 (N : Int), .slice p n c] 24) = W := ⟨_, rfl⟩
  have hb0 : Below w.heap.size w W0 := by rw [← hW0]; exact (Below.refl _ _).alloc (Nat.le_refl _) _
  have hbx : BoxAt3 W0 w.heap.size (.int .i64 LL) (.int .i64 (N : Int)) (.slice p n c) := by rw [← hW0]; exact BoxAt3.new w _ _ _ _
  have hE0 : EdgAt W0 p n E := hE.mono (Nat.le_refl _) hb0
  have hV0 : VRow W0 pv N v := hV.below (Nat.le_refl _) hb0
  have HB : Hid (∀ W, Below W0.heap.size W0 W → BoxAt3 W w.heap.size (.int .i64 LL) (.int .i64 (N : Int)) (.slice p n c) ∧ Below w.heap.size w W) := Lib.hid (fun W hW => ⟨hbx.below hW, hb0.trans (hW.mono hb0.size)⟩)
  have HC := Lib.hid (rvChk_any LL N n E p c m N v pv cv (by omega) W0 hE0 hV0)
  rw [hr] at HC
  have HV : Hid (∀ W, Below W0.heap.size W0 W → VRow W pv N v) := Lib.hid (fun W hW => hV0.below (Nat.le_refl _) hW)
  have HZ := Lib.hid (fun W (hW : Below W0.heap.size W0 W) => rZero_any N pv cv v W (hV0.below (Nat.le_refl _) hW) (by omega))
  have HSu := Lib.hid (fun W (hW : Below W0.heap.size W0 W) => rSums_any LL N n E p c v pv cv (by omega) (by omega) hok (fun s hs => ⟨(hv s hs).1, by have := (hv s hs).2; omega⟩) W (hE0.mono (Nat.le_refl _) hW) (hV0.below (Nat.le_refl _) hW))
  have Hv := Lib.hid hv
  have Hsm : Hid (∀ s, 0 ≤ smE (frE E) (toE E) v n s ∧ smE (frE E) (toE E) v n s ≤ 1000000000000) := Lib.hid (fun s => by
    have ht : ∀ e, e < n → toE E e < N := fun e he => (edOk_nat hok e he).2.2.2
    refine ⟨smE_nonneg ht (fun s hs => (hv s hs).1) s, ?_⟩
    have := smE_le (B := 4096) (by omega) ht (fun s hs => (hv s hs).2) (fr := frE E) s
    omega)
  obtain ⟨_, c0, c1, c2⟩ := hbx
  obtain ⟨r, hr2⟩ : ∃ r, ckV (frE E) (toE E) n N m v = r := ⟨_, rfl⟩
  rw [hr2]
  have HR := Lib.hid hr2
  unfold ckV at HR
  have HM : Hid (∀ k, k < N → ∀ y, (m : Int) * v k = y → wrap64 ((m : Int) * v k) = y ∧ IntKind.i64.wrap ((m : Int) * v k) = y) := Lib.hid (fun k hk y hy => by
    have h1 := hv k hk
    have h2 := mul_wrap (a := (m : Int)) (b := v k) (A := 256) (B := 4096) (by omega) (by omega) h1.1 h1.2 (by omega)
    exact ⟨h2.trans hy, (IntWalk.i64_in _ ⟨by have := Int.mul_nonneg (show (0 : Int) ≤ m by omega) h1.1; omega, by have := Int.mul_le_mul (show (m : Int) ≤ 256 by omega) h1.2 h1.1 (by omega); omega⟩).trans hy⟩)
  obtain ⟨b, hbz⟩ : ∃ b, anyN (fun k => v k != 0) N = b := ⟨_, rfl⟩
  rw [hbz] at HZ HR
  clear hr hr2 hE hV hE0 hV0 hb0 hg hok hv hbz
  go_enter Tryz.func11, Tryz.ntmps11
  go_wp2_with fail
  try rw [hW0]
  refine HC.out.mono ?_
  rintro e W1 ⟨rfl, hb⟩
  dsimp only
  have Hb := Lib.hid hb
  obtain ⟨⟨_, z0, z1, z2⟩, _⟩ := HB.out _ hb
  clear hb HC c0 c1 c2 hW0
  go_wp2_with fail
  refine (HZ.out _ Hb.out).mono ?_
  rintro e W2 ⟨rfl, hb2⟩
  dsimp only
  have Hb2 := Lib.hid (Hb.out.trans (hb2.mono Hb.out.size))
  clear hb2 Hb HZ z0 z1 z2
  cases b
  · have hr : (5 : Int) = r := by rw [← HR.out, if_pos rfl]
    have HR2 := Lib.hid hr
    clear hr HR
    go_wp2
    go_ret
    exact ⟨by rw [← HR2.out]; rfl, (HB.out _ Hb2.out).2⟩
  · obtain ⟨⟨_, z0, z1, z2⟩, _⟩ := HB.out _ Hb2.out
    go_wp2_with fail
    refine (HSu.out _ Hb2.out).mono ?_
    rintro e W3 ⟨g1, rfl, hz, hg1, hb3⟩
    dsimp only
    have hb4 := Hb2.out.trans (hb3.mono Hb2.out.size)
    have HZ3 : Hid (∀ W, Below W3.heap.size W3 W → VAt W g1 N (smE (frE E) (toE E) v n) ∧ Below W0.heap.size W0 W) := Lib.hid (fun W hW => ⟨hz.below hW hz.1, hb4.trans (hW.mono hb4.size)⟩)
    have Hw : Hid (Below W3.heap.size W3 W3) := Lib.hid (Below.refl _ _)
    have HN : Hid (∀ k, k < 0 → (m : Int) * v k ≤ smE (frE E) (toE E) v n k) := Lib.hid (fun k hk => by omega)
    clear hz hg1 hb3 hb4 Hb2 HSu z0 z1 z2
    go_wp2_with fail
    go_loopw [9] (fun tv wr => ∃ i : Nat, i ≤ N ∧ tv = .int .i64 (i : Nat) ∧ Hid (∀ k, k < i → (m : Int) * v k ≤ smE (frE E) (toE E) v n k) ∧ Hid (Below W3.heap.size W3 wr)) (fun tv _ => N - (intOf tv).toNat)
    case atStart => exact ⟨0, by omega, by go_num, HN, Hw⟩
    case round =>
      clear HN Hw
      obtain ⟨i, hi, rfl, HN, Hw⟩ := hrel
      obtain ⟨hz, hbw⟩ := HZ3.out _ Hw.out
      obtain ⟨⟨_, z0, z1, z2⟩, _⟩ := HB.out _ hbw
      by_cases hil : i < N
      · have i3 : (i : Int) < (N : Int) := by omega
        have i4 : (0 : Int) ≤ (i : Int) := by omega
        have x0 := (hz.2 i hil).1
        obtain ⟨vb, vo, rfl, hvb, hvc⟩ := VRow.cells (HV.out _ hbw) hil
        have y0 := hvc i hil
        have hs0 := Hsm.out i
        have hv0 := Hv.out i hil
        obtain ⟨y, hy⟩ : ∃ y, (m : Int) * v i = y := ⟨_, rfl⟩
        obtain ⟨m1, m2⟩ := HM.out i hil y hy
        have HF := Lib.hid (fun (h : smE (frE E) (toE E) v n i < y) => show (23 : Int) = r from by
          rw [← HR.out, if_neg (by intro h; cases h), if_pos (anyN_true.2 ⟨i, hil, decide_eq_true (by rw [hy]; exact h)⟩)])
        have HN2 := Lib.hid (fun (h : ¬ smE (frE E) (toE E) v n i < y) (k : Nat) (hk : k < i + 1) => show (m : Int) * v k ≤ smE (frE E) (toE E) v n k from by
          by_cases e : k = i
          · rw [e, hy]; omega
          · exact HN.out k (by omega))
        have Hbw := Lib.hid (HB.out _ hbw).2
        dsimp only at x0
        obtain ⟨x, hx⟩ : ∃ x, smE (frE E) (toE E) v n i = x := ⟨_, rfl⟩
        obtain ⟨z, hzv⟩ : ∃ x, v i = x := ⟨_, rfl⟩
        rw [hx] at x0 hs0 HF HN2
        rw [hzv] at y0 hv0 m1 m2
        clear hvc hz hbw hy hx hzv HN
        by_cases hlt : x < y
        · have HF2 := Lib.hid (HF.out hlt)
          clear HF HN2
          go_wp2_with fail
          go_quiet (fail)
          go_wp2
          go_ret
          exact ⟨by rw [← HF2.out]; rfl, Hbw.out.trans ((Drawn.below ((Drawn.refl _).drewN _) _).mono Hbw.out.size)⟩
        · have HN3 := Lib.hid (HN2.out hlt)
          clear HF HN2
          go_wp2_with fail
          go_quiet (fail)
          go_wp2
          go_roundw
          case rel =>
            (repeat apply Exists.intro)
            exact ⟨⟨i + 1, by omega, by go_num, HN3, Lib.hid (Hw.out.trans ((Drawn.below ((Drawn.refl _).drewN _) _).mono Hw.out.size))⟩, rfl⟩
          case measure => simp [intOf]; omega
      · have i3 : ¬ (i : Int) < (N : Int) := by omega
        have hF : anyN (fun k => decide (smE (frE E) (toE E) v n k < (m : Int) * v k)) N = false := anyN_false.2 fun k hk => decide_eq_false (by have := HN.out k (by omega); omega)
        have hr : (0 : Int) = r := by rw [← HR.out, if_neg (by intro h; cases h), hF]; rfl
        have HR2 := Lib.hid hr
        have Hbw := Lib.hid (HB.out _ hbw).2
        clear hF hr hz hbw
        go_wp2
        go_ret
        exact ⟨by rw [← HR2.out]; rfl, Hbw.out⟩
end Go.Proofs.YtlaoijfphkhchaaGreat
namespace Go.Proofs.YtlaoijfphkhchaaGreat
open Go.RowKit

theorem beb_bval : ∀ (n : Nat) (l : List UInt8), l.length = n → beb (bval l) = l.dropWhile (· == 0)
  | 0, l, h => by
    have : l = [] := List.length_eq_zero_iff.1 h
    subst this; rfl
  | n + 1, l, h => by
    obtain ⟨r, c, rfl⟩ : ∃ r c, l = r ++ [c] := ⟨l.dropLast, l.getLast (fun h0 => by rw [h0] at h; simp at h), (List.dropLast_concat_getLast _).symm⟩
    have ih := beb_bval n r (by simpa using h)
    rw [bval_snoc, List.dropWhile_append, ← ih]
    have hc : UInt8.ofNat c.toNat = c := by simp
    by_cases h0 : bval r = 0
    · rw [h0, beb_zero]
      by_cases hz : c = 0
      · subst hz; rfl
      · have hz' : c.toNat ≠ 0 := fun h => hz (by rw [← hc, h]; rfl)
        have := beb_snoc (m := 0) (c := c.toNat) (UInt8.toNat_lt _) (.inr hz')
        rw [this, beb_zero, hc]
        have hb : (c == 0) = false := by rw [beq_eq_false_iff_ne]; exact hz
        simp [List.dropWhile, hb]
    · rw [beb_snoc (UInt8.toNat_lt _) (.inl h0), hc]
      have : (beb (bval r)).isEmpty = false := by
        rw [List.isEmpty_eq_false_iff]
        intro h; exact h0 (beb_len_zero.1 (by rw [h]; rfl))
      rw [this]; simp

theorem str_cons (t : ByteArray) (h : 0 < t.size) : t.data.toList = t[0] :: (t.extract 1 t.size).data.toList := by
  rcases t with ⟨⟨l⟩⟩
  cases l with
  | nil => exact absurd h (by decide)
  | cons c r =>
    rw [ByteArray.data_extract]
    show c :: r = c :: _
    congr 1
    simp [ByteArray.size]
theorem bval_cons_zero {c : UInt8} {r : List UInt8} (h : c.toNat = 0) : bval (c :: r) = bval r := by
  unfold bval
  rw [List.foldl_cons, h]
theorem beb_head {c : UInt8} {r : List UInt8} (h : c.toNat ≠ 0) : beb (bval (c :: r)) = c :: r := by
  rw [beb_bval _ _ rfl]
  have : (c == 0) = false := by
    rw [beq_eq_false_iff_ne]; intro h2; exact h (by rw [h2]; rfl)
  simp [List.dropWhile, this]

set_option maxRecDepth 100000 in
set_option maxHeartbeats 4000000 in
theorem refTrim_any (s : ByteArray) (hs : s.size ≤ 100000000) (w : World) :
    Calls Tryz.prog 79 #[.string s] w fun e w' => e = .returned (.string ⟨(beb (bval s.data.toList)).toArray⟩) ∧ w = w' := by
  go_enter Tryz.func79, Tryz.ntmps79
  go_wp2
  go_loopw [0] (fun v wr => ∃ t : ByteArray, v = .string t ∧ t.size ≤ 100000000 ∧ wr = w ∧ Hid (bval t.data.toList = bval s.data.toList)) (fun v _ => match v with | .string t => t.size | _ => 0)
  case atStart => exact ⟨s, rfl, hs, rfl, Lib.hid rfl⟩
  case round =>
    obtain ⟨t, rfl, ht, rfl, hv⟩ := hrel
    by_cases hlt : 0 < t.size
    · obtain ⟨c, hcc⟩ : ∃ c, (t[0]'hlt).toNat = c := ⟨_, rfl⟩
      have i0 : (0 : Int) < (t.size : Int) := by omega
      by_cases hc : c = 0
      · have hcb : ((c : Int) == 0) = true := by rw [beq_iff_eq]; omega
        go_wp2
        have he : bval (t.extract 1 t.size).data.toList = bval s.data.toList := by
          rw [← hv.out, str_cons t hlt, bval_cons_zero (by omega)]
        have hsz : (t.extract 1 t.size).size = t.size - 1 := by simp
        go_roundw
        case rel => exact ⟨_, rfl, by omega, trivial, Lib.hid he⟩
        case measure => show (t.extract 1 t.size).size < t.size; omega
      · have hcb : ((c : Int) == 0) = false := by rw [beq_eq_false_iff_ne]; omega
        have he : (⟨(beb (bval s.data.toList)).toArray⟩ : ByteArray) = t := by
          rw [← hv.out, str_cons t hlt, beb_head (by omega), ← str_cons t hlt]
        have He := Lib.hid he
        clear he
        go_wp2
        go_ret
        exact ⟨by rw [He.out]; rfl, rfl⟩
    · have i0 : ¬ (0 : Int) < (t.size : Int) := by omega
      have he : (⟨(beb (bval s.data.toList)).toArray⟩ : ByteArray) = t := by
        rcases t with ⟨⟨l⟩⟩
        have : l = [] := List.length_eq_zero_iff.1 (by simp [ByteArray.size] at hlt; simp [hlt])
        subst this
        rw [← hv.out]; rfl
      have He := Lib.hid he
      clear he
      go_wp2
      go_ret
      exact ⟨by rw [He.out]; rfl, rfl⟩

theorem canon_of_head {z : ZI} (h : 0 < z.mag.size) (h0 : (z.mag[0]).toNat ≠ 0) : z = canon (valZ z) := by
  rw [← sameZ_val]
  have h1 : beb (absZ z) = z.mag.data.toList := by
    unfold absZ
    rw [str_cons z.mag h, beb_head h0]
  have h2 : absZ z ≠ 0 := fun h3 => by
    rw [h3, beb_zero] at h1
    have := congrArg List.length h1
    simp at this
    have h4 : z.mag.size = z.mag.data.size := rfl
    omega
  unfold mkZ
  rw [if_neg h2, h1]
end Go.Proofs.YtlaoijfphkhchaaGreat

namespace Go.Proofs.YtlaoijfphkhchaaGreat
open Go.RowKit

theorem canon_parts (z : ZI) : (canon (valZ z)).neg = (z.neg && !(beb (bval z.mag.data.toList)).isEmpty) ∧ (canon (valZ z)).mag = ⟨(beb (bval z.mag.data.toList)).toArray⟩ := by
  rw [← sameZ_val]
  have h : absZ z = bval z.mag.data.toList := rfl
  rw [← h]
  unfold mkZ
  by_cases h0 : absZ z = 0
  · rw [if_pos h0, h0, beb_zero]; simp
  · rw [if_neg h0]
    have : (beb (absZ z)).isEmpty = false := by
      rw [List.isEmpty_eq_false_iff]
      intro h; exact h0 (beb_len_zero.1 (by rw [h]; rfl))
    rw [this]; simp

set_option maxRecDepth 100000 in
set_option maxHeartbeats 4000000 in
theorem refCanonical_any (z : ZI) (hz : z.mag.size ≤ 100000000) (w : World) :
    Calls Tryz.prog 59 #[.agg #[.bool z.neg, .string z.mag]] w (RetZ (canon (valZ z)) w) := by
  obtain ⟨hp1, hp2⟩ := canon_parts z
  obtain ⟨Z, hZ⟩ : ∃ Z, canon (valZ z) = Z := ⟨_, rfl⟩
  rw [hZ] at hp1 hp2
  rw [hZ]
  have Hp1 := Lib.hid hp1
  have Hp2 := Lib.hid hp2
  clear hp1 hp2
  by_cases hlt : 0 < z.mag.size
  · obtain ⟨c, hcc⟩ : ∃ c, (z.mag[0]'hlt).toNat = c := ⟨_, rfl⟩
    have i0 : (0 : Int) < (z.mag.size : Int) := by omega
    by_cases hc : c = 0
    · have hcb : ((c : Int) != 0) = false := by rw [bne_eq_false_iff_eq]; omega
      clear hZ
      cases hn : z.neg
      all_goals
        rw [hn] at Hp1
        go_enter Tryz.func59, Tryz.ntmps59
        go_wp2_with (go_at_call 79; go_fit (refTrim_any z.mag hz _); rintro e w2 ⟨rfl, rfl⟩)
        refine bodyPost_ret (v := .agg #[.bool Z.neg, .string Z.mag]) ?_ rfl ⟨rfl, ((Below.refl _ _).alloc (Nat.le_refl _) _).alloc (by simp) _⟩
        rw [Hp1.out, Hp2.out]
        simp [results, Tryz.results59, go_sem]
    · have hcb : ((c : Int) != 0) = true := by rw [bne_iff_ne]; omega
      have HZ := Lib.hid (show z = Z from by rw [← hZ]; exact canon_of_head hlt (by omega))
      clear hZ
      go_enter Tryz.func59, Tryz.ntmps59
      go_wp2
      refine bodyPost_ret (v := .agg #[.bool Z.neg, .string Z.mag]) ?_ rfl ⟨rfl, ((Below.refl _ _).alloc (Nat.le_refl _) _).alloc (by simp) _⟩
      rw [← HZ.out]
      simp [results, Tryz.results59, go_sem]
  · have i0 : ¬ (0 : Int) < (z.mag.size : Int) := by omega
    clear hZ
    cases hn : z.neg
    all_goals
      rw [hn] at Hp1
      go_enter Tryz.func59, Tryz.ntmps59
      go_wp2_with (go_at_call 79; go_fit (refTrim_any z.mag hz _); rintro e w2 ⟨rfl, rfl⟩)
      refine bodyPost_ret (v := .agg #[.bool Z.neg, .string Z.mag]) ?_ rfl ⟨rfl, ((Below.refl _ _).alloc (Nat.le_refl _) _).alloc (by simp) _⟩
      rw [Hp1.out, Hp2.out]
      simp [results, Tryz.results59, go_sem]
end Go.Proofs.YtlaoijfphkhchaaGreat

namespace Go.Proofs.YtlaoijfphkhchaaGreat
open Go.RowKit

theorem canon_neg_parts (n : Int) : (canon (-n)).neg = (!(canon n).neg && !(canon n).mag.toList.isEmpty) ∧ (canon (-n)).mag = (canon n).mag := by
  rw [ByteArray.toList_eq]
  have hm : (canon (-n)).mag = (canon n).mag := by simp [canon]
  refine ⟨?_, hm⟩
  by_cases h0 : n = 0
  · subst h0; rfl
  · have h1 : beb n.natAbs ≠ [] := fun h => by
      have : n.natAbs = 0 := beb_len_zero.1 (by rw [h]; rfl)
      omega
    have h2 : (beb n.natAbs).isEmpty = false := by rw [List.isEmpty_eq_false_iff]; exact h1
    show decide (-n < 0) = (!decide (n < 0) && !(beb n.natAbs).isEmpty)
    rw [h2]
    by_cases h : n < 0
    · rw [decide_eq_true h, decide_eq_false (by omega)]; rfl
    · rw [decide_eq_false h, decide_eq_true (by omega)]; rfl

end Go.Proofs.YtlaoijfphkhchaaGreat

namespace Go.Proofs.YtlaoijfphkhchaaGreat
open Go.RowKit

theorem bval_take {l : List UInt8} {i : Nat} (h : i < l.length) : bval (l.take (i + 1)) = bval (l.take i) * 256 + l[i].toNat := by
  rw [List.take_succ_eq_append_getElem h, bval_snoc]
theorem bval_take_lt (l : List UInt8) (i : Nat) : bval (l.take i) < 256 ^ i := by
  refine Nat.lt_of_lt_of_le (bval_lt _) (Nat.pow_le_pow_right (by decide) ?_)
  rw [List.length_take]; omega
theorem pow_six {i : Nat} (h : i ≤ 6) : 256 ^ i ≤ 281474976710656 := Nat.pow_le_pow_right (n := 256) (by decide) h
theorem or_byte (n : Nat) (c : Nat) (hc : c < 256) (hn : n < 281474976710656) : bits .or .i64 ((n : Int) * 256) (c : Int) = ((n * 256 + c : Nat) : Int) := by
  have h1 : ((n : Int) * 256) = ((n * 256 : Nat) : Int) := by simp
  have h2 := Nat.two_pow_add_eq_or_of_lt (i := 8) (b := c) (by omega) n
  have h3 : n * 256 + c = n * 256 ||| c := by
    rw [Nat.mul_comm n 256]; exact h2
  rw [h1]
  show IntKind.i64.wrap ((BitVec.ofInt 64 ((n * 256 : Nat) : Int) ||| BitVec.ofInt 64 (c : Int)).toNat : Int) = _
  rw [BitVec.toNat_or, ofInt_u64 _ (by omega), ofInt_u64 c (by omega), ← h3]
  rw [IntKind.wrap_i64]
  omega

set_option maxRecDepth 100000 in
set_option maxHeartbeats 4000000 in
theorem refSmall_any (s : ByteArray) (hs : s.size ≤ 7) (w : World) :
    Calls Tryz.prog 95 #[.string s] w fun e w' => e = .returned (.int .i64 (bval s.data.toList : Nat)) ∧ w = w' := by
  go_enter Tryz.func95, Tryz.ntmps95
  go_wp2
  go_loop [3, 4] (fun v i => ∃ k n : Nat, k ≤ s.size ∧ i = .int .i64 k ∧ v = .int .i64 n ∧ Hid (n = bval (s.data.toList.take k))) (fun _ i => s.size - (intOf i).toNat)
  case atStart => exact ⟨0, 0, Nat.zero_le _, rfl, rfl, Lib.hid rfl⟩
  case round =>
    obtain ⟨k, n, hk, rfl, rfl, hr⟩ := hrel
    by_cases hlt : k < s.size
    · have hltI : (k : Int) < (s.size : Int) := by omega
      obtain ⟨c, hc⟩ : ∃ c, (s[k]'hlt).toNat = c := ⟨_, rfl⟩
      have hc2 : c < 256 := by rw [← hc]; exact UInt8.toNat_lt _
      have hl : k < s.data.toList.length := by simpa using hlt
      have hn : n < 281474976710656 := by
        rw [hr.out]; exact Nat.lt_of_lt_of_le (bval_take_lt _ _) (pow_six (by omega))
      have hnext : n * 256 + c = bval (s.data.toList.take (k + 1)) := by
        rw [bval_take hl, ← hr.out, ← hc]; rfl
      have Hn := Lib.hid hnext
      clear hnext
      go_wp2
      go_round
      case rel => exact ⟨k + 1, n * 256 + c, by omega, by go_num, by rw [or_byte n c hc2 hn], Hn⟩
      case measure => simp [intOf]; omega
    · have hke : k = s.size := by omega
      have i0 : ¬ (k : Int) < (s.size : Int) := by omega
      have he : n = bval s.data.toList := by
        rw [hr.out, List.take_of_length_le (by rw [hke]; simp)]
      have He := Lib.hid he
      clear he
      go_wp2
      go_ret
      exact ⟨ret_int (by rw [He.out]), rfl⟩
end Go.Proofs.YtlaoijfphkhchaaGreat
