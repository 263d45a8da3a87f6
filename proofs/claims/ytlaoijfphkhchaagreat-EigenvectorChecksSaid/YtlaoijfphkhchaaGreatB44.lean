/- grooveref01: Check. grooveref23.CheckRefute. grooveref23: Support, Heavy, Long. -/
import Derived.Test.YtlaoijfphkhchaaGreatB37
import Derived.Test.YtlaoijfphkhchaaGreatB18
import Derived.Test.YtlaoijfphkhchaaGreatB42
import Derived.Test.YtlaoijfphkhchaaGreatB43
import Derived.Test.YtlaoijfphkhchaaGreatB23
namespace Go.Proofs.YtlaoijfphkhchaaGreat
open Go.RowKit

set_option maxRecDepth 100000 in
set_option maxHeartbeats 8000000 in
theorem refCheck_any (z : ZI) (hz : z.mag.size ≤ 100000000) (w : World) :
    Calls Tryz.prog 38 #[.agg #[.bool z.neg, .string z.mag]] w fun e w' => e = .returned (.int .i64 (chkZ z)) ∧ Below w.heap.size w w' := by
  have hcan := refCanonical_any z hz
  obtain ⟨m, hm⟩ : ∃ m, canon (valZ z) = m := ⟨_, rfl⟩
  rw [hm] at hcan
  have Hcan := Lib.hid hcan
  have hres : chkZ z = if ((z.neg == m.neg) && (z.mag.toList == m.mag.toList)) = true then 0 else 1 := by
    unfold chkZ
    rw [hm]
    have : (z = m) ↔ ((z.neg == m.neg) && (z.mag.toList == m.mag.toList)) = true := by
      rcases z with ⟨a, ⟨⟨s⟩⟩⟩
      rcases m with ⟨b, ⟨⟨t⟩⟩⟩
      rw [ByteArray.toList_eq, ByteArray.toList_eq]
      simp only [Bool.and_eq_true, beq_iff_eq, ZI.mk.injEq, ByteArray.mk.injEq, Array.mk.injEq]
    by_cases h : z = m
    · rw [if_pos h, if_pos (this.1 h)]
    · rw [if_neg h, if_neg (fun k => h (this.2 k))]
  clear hm hcan
  cases hb1 : (z.neg == m.neg) <;> cases hb2 : (z.mag.toList == m.mag.toList)
  all_goals
   rw [hb1, hb2] at hres
   simp only [Bool.and_true, Bool.and_false, Bool.and_self, if_true, Bool.false_eq_true, if_false] at hres
   have Hres := Lib.hid hres
   clear hres
   go_enter Tryz.func38, Tryz.ntmps38
   go_wp2_with fail
   obtain ⟨W, hW⟩ : ∃ W, (w.alloc (.cells #[.bool z.neg, .string z.mag] 40)) = W := ⟨_, rfl⟩
   have hA : BoxAt W w.heap.size (.bool z.neg) (.string z.mag) := by rw [← hW]; exact BoxAt.new w (.bool z.neg) (.string z.mag) 40
   have hb0 : Below w.heap.size w W := by rw [← hW]; exact (Below.refl _ _).alloc (Nat.le_refl _) _
   have hs0 : W.heap.size = w.heap.size + 1 := by rw [← hW]; simp
   rw [hW]
   have HA := Lib.hid hA
   have Hb0 := Lib.hid hb0
   have Hs0 := Lib.hid hs0
   obtain ⟨a0, a1, _, _, _⟩ := hA
   clear hb0 hs0 hW
   go_region_held3 (fun w' => w'.cell? ⟨w.heap.size, 0, none⟩ = some (.bool z.neg) ∧ w'.cell? ⟨w.heap.size, 1, none⟩ = some (.string z.mag)) (go_keep)
     (first
       | (go_at_call 59; go_fit (Hcan.out _); rintro e w3 ⟨rfl, hb⟩; have Hb3 := Lib.hid (show Below W.heap.size W w3 from Below.trans (by repeat (first | exact Below.refl _ _ | refine Below.drew ?_ | refine below_dr ?_)) (hb.mono (Nat.le_refl _))); have HA3 := Lib.hid (HA.out.below Hb3.out (by have := Hs0.out; omega)); obtain ⟨b0, b1, _, _, _⟩ := HA3.out; clear hb))
   all_goals
    go_wp2
    go_ret
    exact ⟨by rw [Hres.out]; rfl, Hb0.out.trans (by repeat (first | exact Hb3.out.mono (by have := Hs0.out; omega) | refine Below.drew ?_ | refine below_dr ?_))⟩
end Go.Proofs.YtlaoijfphkhchaaGreat
namespace Go.Proofs.YtlaoijfphkhchaaGreat
open Go.RowKit Go.Shelf
set_option maxRecDepth 100000 in
set_option maxHeartbeats 16000000 in
theorem rCheckRefute_any (L S : Int) (n : Nat) (E : Nat → Nat → Int) (p : Option Addr) (c : Nat) (m : Int) (nz : Nat) (Z : Nat → ZI) (pz : Option Addr) (cz : Nat) (hnz : nz ≤ 1000) (hz : ∀ k, k < nz → (Z k).mag.size ≤ 1000) (w : World) (hE : EdgAt w p n E) (hZ : GRow w pz nz Z) :
    Calls Tryz.prog 14 #[.agg #[.int .i64 L, .int .i64 S, .slice p n c], .int .i64 m, .slice pz nz cz] w (RetInt (crV L S n E m nz Z) w) := by
  obtain ⟨W0, hW0⟩ : ∃ W, w.alloc (.cells #[.int .i64 L, .int .i64 S, .slice p n c] 24) = W := ⟨_, rfl⟩
  have hb0 : Below w.heap.size w W0 := by rw [← hW0]; exact (Below.refl _ _).alloc (Nat.le_refl _) _
  have hbx : BoxAt3 W0 w.heap.size (.int .i64 L) (.int .i64 S) (.slice p n c) := by rw [← hW0]; exact BoxAt3.new w _ _ _ _
  have hE0 : EdgAt W0 p n E := hE.mono (Nat.le_refl _) hb0
  have hZ0 : GRow W0 pz nz Z := SlAt.mono hZ (Nat.le_refl _) hb0
  have HG := Lib.hid (rgcheck_any L S n E p c W0 hE0)
  have HB : Hid (∀ W, Below W0.heap.size W0 W → BoxAt3 W w.heap.size (.int .i64 L) (.int .i64 S) (.slice p n c) ∧ GRow W pz nz Z ∧ Below w.heap.size w W) := Lib.hid (fun W hW => ⟨hbx.below hW, SlAt.mono hZ0 (Nat.le_refl _) hW, hb0.trans (hW.mono hb0.size)⟩)
  obtain ⟨_, c0, c1, c2⟩ := hbx
  obtain ⟨r, hr⟩ : ∃ r, crV L S n E m nz Z = r := ⟨_, rfl⟩
  rw [hr]
  have HR := Lib.hid hr
  unfold crV at HR
  obtain ⟨gc, hgc⟩ : ∃ b, gChk L S n E = b := ⟨_, rfl⟩
  rw [hgc] at HG HR
  have Hgc := Lib.hid hgc
  have HE := Lib.hid hE0
  have HZ := Lib.hid hZ0
  have Hz := Lib.hid hz
  clear hgc hr hE hZ hE0 hZ0 hb0 hz
  go_enter Tryz.func14, Tryz.ntmps14
  go_wp2_with fail
  try rw [hW0]
  refine HG.out.mono ?_
  rintro e W1 ⟨rfl, hb⟩
  dsimp only
  have Hb1 := Lib.hid (HB.out _ hb).2.2
  have Hb := Lib.hid hb
  clear hb HG c0 c1 c2 hW0
  by_cases h1 : gc = 0
  rotate_left 1
  · have e1 : (gc != 0) = true := by rw [bne_iff_ne]; exact h1
    have HR1 := Lib.hid (show (1 : Int) = r by rw [← HR.out, if_pos h1])
    clear HR h1 HB
    go_wp2
    go_ret
    exact ⟨by rw [← HR1.out]; rfl, Hb1.out⟩
  have e1 : (gc != 0) = false := by rw [h1]; rfl
  have Hg1 := Lib.hid h1
  have HR1 := Lib.hid (show (if anyN (fun k => !okZ (Z k)) nz = true then (1 : Int) else if m < 1 ∨ 256 < m then 2 else if (nz : Int) ≠ S then 11 else if S = 0 then 5 else if rfsB (frE E) (toE E) n nz m.toNat (fun k => valZ (Z k)) = true then 0 else 23) = r by rw [← HR.out, if_neg (show ¬ (gc ≠ 0) from fun h => h h1)])
  have hw : Below W1.heap.size W1 W1 := Below.refl _ _
  have Hw := Lib.hid hw
  clear HR h1 hw Hb1
  go_wp2_with fail
  clear e1
  go_loopw [7] (fun tv wr => ∃ i : Nat, i ≤ nz ∧ tv = .int .i64 (i : Nat) ∧ Hid (∀ k, k < i → okZ (Z k) = true) ∧ Hid (Below W1.heap.size W1 wr)) (fun tv _ => nz - (intOf tv).toNat)
  case atStart => exact ⟨0, by omega, by go_num, Lib.hid (fun k hk => by omega), Hw⟩
  case round =>
    clear Hw
    obtain ⟨i, hi, rfl, HK, Hw⟩ := hrel
    have hb := Hb.out.trans (Hw.out.mono Hb.out.size)
    obtain ⟨⟨_, z0, z1, z2⟩, hgr, hb1⟩ := HB.out _ hb
    have Hbw := Lib.hid hb
    have Hb1 := Lib.hid hb1
    clear hb hb1
    by_cases hil : i < nz
    · have i3 : (i : Int) < (nz : Int) := by omega
      have i4 : (0 : Int) ≤ (i : Int) := by omega
      rcases hgr with h | ⟨ab, ao, rfl, hab, hac⟩
      · omega
      have a3 : wr.cell? ⟨ab, ao + i * 2, none⟩ = some (.bool (Z i).neg) := by simpa [zg] using hac i hil 0 (by omega)
      have a4 : wr.cell? ⟨ab, ao + i * 2 + 1, none⟩ = some (.string (Z i).mag) := by simpa [zg] using hac i hil 1 (by omega)
      have HC := Lib.hid (refCheck_any (Z i) (by have := Hz.out i hil; omega) wr)
      have HA1 := Lib.hid (fun (h : okZ (Z i) = false) => show (1 : Int) = r by rw [← HR1.out, if_pos (anyN_true.2 ⟨i, hil, by rw [h]; rfl⟩)])
      have HK1 := Lib.hid (fun (h : okZ (Z i) = true) (k : Nat) (hk : k < i + 1) => show okZ (Z k) = true from by
        by_cases e : k = i
        · rw [e]; exact h
        · exact HK.out k (by omega))
      have HQ : Hid ((chkZ (Z i) = 0 ∧ okZ (Z i) = true) ∨ (chkZ (Z i) = 1 ∧ okZ (Z i) = false)) := Lib.hid (by
        by_cases h : Z i = canon (valZ (Z i))
        · exact .inl ⟨if_pos h, decide_eq_true h⟩
        · exact .inr ⟨if_neg h, decide_eq_false h⟩)
      obtain ⟨z, hzz⟩ : ∃ z, Z i = z := ⟨_, rfl⟩
      rw [hzz] at a3 a4 HC HA1 HK1 HQ
      obtain ⟨cc, hcc⟩ : ∃ x, chkZ z = x := ⟨_, rfl⟩
      obtain ⟨oo, hoo⟩ : ∃ x, okZ z = x := ⟨_, rfl⟩
      rw [hcc] at HC HQ
      rw [hoo] at HA1 HK1 HQ
      clear hac hzz HK hcc hoo hab
      go_wp2_with fail
      refine HC.out.mono ?_
      rintro e W2 ⟨rfl, hb2⟩
      dsimp only
      have Hw2 := Lib.hid (Hw.out.trans (hb2.mono Hw.out.size))
      have Hb2 := Lib.hid (Hb1.out.trans (hb2.mono Hb1.out.size))
      clear hb2 HC a3 a4 z0 z1 z2 Hb1
      rcases HQ.out with ⟨rfl, rfl⟩ | ⟨rfl, rfl⟩
      · have HK2 := Lib.hid (HK1.out rfl)
        clear HA1 HK1 HQ
        go_wp2_with fail
        go_roundw
        case rel => exact ⟨i + 1, by omega, by go_num, HK2, Hw2⟩
        case measure => simp [intOf]; omega
      · have HR2 := Lib.hid (HA1.out rfl)
        clear HA1 HK1 HQ
        go_wp2
        go_ret
        exact ⟨by rw [← HR2.out]; rfl, Hb2.out⟩
    · have i3 : ¬ (i : Int) < (nz : Int) := by omega
      have HK2 := Lib.hid (fun k (hk : k < nz) => HK.out k (by omega))
      have hf : anyN (fun k => !okZ (Z k)) nz = false := anyN_false.2 fun k hk => by rw [HK2.out k hk]; rfl
      rw [hf, if_neg (show ¬ (false = true) from Bool.false_ne_true)] at HR1
      clear hf HK hgr Hw
      by_cases h2 : m < 1
      · have HR2 := Lib.hid (show (2 : Int) = r by rw [← HR1.out, if_pos (.inl h2)])
        clear HR1
        go_wp2
        go_ret
        exact ⟨by rw [← HR2.out]; rfl, Hb1.out⟩
      by_cases h3 : m > 256
      · have HR2 := Lib.hid (show (2 : Int) = r by rw [← HR1.out, if_pos (.inr h3)])
        clear HR1
        go_wp2
        go_ret
        exact ⟨by rw [← HR2.out]; rfl, Hb1.out⟩
      rw [if_neg (show ¬ (m < 1 ∨ 256 < m) by omega)] at HR1
      by_cases h5 : (nz : Int) = S
      rotate_left 1
      · have e2 : ((nz : Int) != S) = true := by rw [bne_iff_ne]; exact h5
        have HR2 := Lib.hid (show (11 : Int) = r by rw [← HR1.out, if_pos h5])
        clear HR1 h5
        go_wp2
        go_ret
        exact ⟨by rw [← HR2.out]; rfl, Hb1.out⟩
      rw [if_neg (show ¬ ((nz : Int) ≠ S) from fun h => h h5)] at HR1
      have e2 : ((nz : Int) != S) = false := by rw [bne_eq_false_iff_eq]; exact h5
      by_cases h6 : S = 0
      · have e3 : (S == 0) = true := by rw [h6]; rfl
        have HR2 := Lib.hid (show (5 : Int) = r by rw [← HR1.out, if_pos h6])
        clear HR1 h5 h6
        go_wp2
        go_ret
        exact ⟨by rw [← HR2.out]; rfl, Hb1.out⟩
      have e3 : (S == 0) = false := by rw [beq_eq_false_iff_ne]; exact h6
      rw [if_neg h6] at HR1
      have hg0 : gChk L S n E = 0 := by rw [Hgc.out]; exact Hg1.out
      obtain ⟨_, _, _, hS, hn, _⟩ := gChk_zero hg0
      have hok : EdOk nz n E := by have := gChk_ok hg0; rwa [← h5, Int.toNat_natCast] at this
      have hrow : RowF W0 pz nz (fun k => valZ (Z k)) := GRow.row HZ.out fun k hk => HK2.out k hk
      have hbn : ∀ k, k < nz → Bn (valZ (Z k)) 8000 := fun k hk => (valZ_bn (Z k)).up (by have := Hz.out k hk; omega)
      have HRf := Lib.hid (show Calls Tryz.prog 39 #[.agg #[.int .i64 L, .int .i64 S, .slice p n c], .int .i64 m, .slice pz nz cz] wr (RetB (rfsB (frE E) (toE E) n nz m.toNat (fun k => valZ (Z k))) wr) by
        have h := refuses_any L nz n m.toNat E p c (fun k => valZ (Z k)) pz cz (by omega) (by omega) (by omega) hok (by omega) hbn wr (HE.out.mono (Nat.le_refl _) Hbw.out) (hrow.below (Nat.le_refl _) Hbw.out)
        rw [h5, show ((m.toNat : Nat) : Int) = m from by omega] at h
        exact h)
      obtain ⟨rb, hrb⟩ : ∃ b, rfsB (frE E) (toE E) n nz m.toNat (fun k => valZ (Z k)) = b := ⟨_, rfl⟩
      rw [hrb] at HRf HR1
      clear h5 h6 hg0 hok hrow hbn hrb hS hn
      go_wp2_with fail
      refine HRf.out.mono ?_
      rintro e W3 ⟨rfl, hb4⟩
      dsimp only
      have Hb4 := Lib.hid (Hb1.out.trans (hb4.mono Hb1.out.size))
      clear hb4 HRf HB Hb1 z0 z1 z2
      cases rb
      · have HR2 := Lib.hid (show (23 : Int) = r by rw [← HR1.out]; rfl)
        clear HR1
        go_wp2
        go_ret
        exact ⟨by rw [← HR2.out]; rfl, Hb4.out⟩
      · have HR2 := Lib.hid (show (0 : Int) = r by rw [← HR1.out]; rfl)
        clear HR1
        go_wp2
        go_ret
        exact ⟨by rw [← HR2.out]; rfl, Hb4.out⟩
end Go.Proofs.YtlaoijfphkhchaaGreat
namespace Go.Proofs.YtlaoijfphkhchaaGreat
open Go.RowKit Go.Shelf
set_option maxRecDepth 100000 in
set_option maxHeartbeats 4000000 in
theorem rSupport_any (N : Nat) (v : Nat → Int) (pv : Option Addr) (cv : Nat) (hN : N ≤ 1000000) (w : World) (hV : VRow w pv N v) :
    Calls Tryz.prog 16 #[.slice pv N cv] w fun e w' => ∃ vv, e = .returned vv ∧ OwnInts w' w.heap.size vv (supL v N) ∧ Below w.heap.size w w' := by
  have HV := Lib.hid hV
  clear hV
  go_enter Tryz.func16, Tryz.ntmps16
  go_wp2_with fail
  go_loopw [3, 4] (fun ov iv wr => ∃ i : Nat, i ≤ N ∧ iv = .int .i64 (i : Nat) ∧ Hid (OwnInts wr w.heap.size ov (supL v i)) ∧ Hid (Below w.heap.size w wr)) (fun _ iv _ => N - (intOf iv).toNat)
  case atStart => exact ⟨0, by omega, by go_num, Lib.hid (OwnInts.made w (Nat.le_refl _)), Lib.hid ((Below.refl _ _).alloc (Nat.le_refl _) _)⟩
  case round =>
    obtain ⟨i, hi, rfl, Ho, Hb⟩ := hrel
    by_cases hil : i < N
    · have i3 : (i : Int) < (N : Int) := by omega
      have i4 : (0 : Int) ≤ (i : Int) := by omega
      obtain ⟨vb, vo, rfl, hvb, hvc⟩ := VRow.cells HV.out hil
      have y0 := (Hb.out.cell (p := ⟨vb, vo + i, none⟩) hvb).trans (hvc i hil)
      have hsl := supL_len v i
      have hs1 : 0 < v i → supL v (i + 1) = supL v i ++ [(i : Int)] := fun h => by rw [supL, if_pos h]
      have hs2 : ¬ 0 < v i → supL v (i + 1) = supL v i := fun h => by rw [supL, if_neg h, List.append_nil]
      have Hs1 := Lib.hid hs1
      have Hs2 := Lib.hid hs2
      obtain ⟨y, hy⟩ : ∃ y, v i = y := ⟨_, rfl⟩
      rw [hy] at y0 Hs1 Hs2
      clear hvc hs1 hs2 hy
      by_cases h1 : 0 < y
      · have Hn := Lib.hid (Hs1.out h1)
        clear Hs1 Hs2
        have hsz := Hb.out.size
        have Hsl := Lib.hid hsl
        clear hsl
        obtain ⟨L, hL⟩ : ∃ L, supL v i = L := ⟨_, rfl⟩
        rw [hL] at Ho Hn Hsl
        clear hL
        go_wp2_with (at_builtin; refine wpList_append_int rfl _ _ rfl w.heap.size _ _ rfl (Ho.out.alloc _) wr.heap.size 1 (i : Int) rfl ?_ ?_ ?_ ?_)
        · exact cell_new0 _ _ _
        · have := Hsl.out; omega
        · simp; omega
        intro v' w1 hown' hgrow
        have hbn := below_append (Hb.out.alloc hsz (.cells #[.int .i64 (i : Int)] 3)) (Ho.out.alloc _) hgrow (by simp; omega) (Nat.le_refl _)
        have Hown := Lib.hid hown'
        have Hbn := Lib.hid hbn
        clear hown' hgrow hbn
        go_wp2_with fail
        go_roundw
        case rel => exact ⟨i + 1, by omega, by go_num, by rw [Hn.out]; exact Hown, Hbn⟩
        case measure => simp [intOf]; omega
      · have Hn := Lib.hid (Hs2.out h1)
        clear Hs1 Hs2
        go_wp2
        go_roundw
        case rel => exact ⟨i + 1, by omega, by go_num, by rw [Hn.out]; exact Ho, Hb⟩
        case measure => simp [intOf]; omega
    · have i3 : ¬ (i : Int) < (N : Int) := by omega
      have hie : i = N := by omega
      rw [hie] at Ho
      clear hie
      go_wp2
      go_ret
      exact ⟨_, rfl, Ho.out, Hb.out⟩
def longB (nz : Nat) (Z : Nat → ZI) : Bool := anyN (fun k => decide (16 < (Z k).mag.size)) nz || decide (10 < nz)
set_option maxRecDepth 100000 in
set_option maxHeartbeats 4000000 in
theorem refLong_any (nz : Nat) (Z : Nat → ZI) (pz : Option Addr) (cz : Nat) (hnz : nz ≤ 9223372036854775807) (hz : ∀ k, k < nz → (Z k).mag.size ≤ 9223372036854775807) (w : World) (hZ : GRow w pz nz Z) :
    Calls Tryz.prog 6 #[.slice pz nz cz] w fun e w' => e = .returned (.bool (longB nz Z)) ∧ w = w' := by
  have HZ := Lib.hid hZ
  have Hz := Lib.hid hz
  obtain ⟨r, hr⟩ : ∃ r, longB nz Z = r := ⟨_, rfl⟩
  rw [hr]
  have HA := Lib.hid (show (∃ k, k < nz ∧ 16 < (Z k).mag.size) → true = r from fun ⟨k, hk, h⟩ => by
    rw [← hr]; unfold longB; rw [anyN_true.2 ⟨k, hk, decide_eq_true h⟩]; rfl)
  have HN := Lib.hid (show (∀ k, k < nz → ¬ 16 < (Z k).mag.size) → decide (10 < nz) = r from fun h => by
    rw [← hr]; unfold longB; rw [anyN_false.2 fun k hk => decide_eq_false (h k hk)]; rfl)
  clear hZ hz hr
  go_enter Tryz.func6, Tryz.ntmps6
  go_wp2_with fail
  go_loopw [3] (fun tv wr => ∃ i : Nat, i ≤ nz ∧ tv = .int .i64 (i : Nat) ∧ Hid (∀ k, k < i → ¬ 16 < (Z k).mag.size) ∧ w = wr) (fun tv _ => nz - (intOf tv).toNat)
  case atStart => exact ⟨0, by omega, by go_num, Lib.hid (fun k hk => by omega), rfl⟩
  case round =>
    obtain ⟨i, hi, rfl, HK, rfl⟩ := hrel
    by_cases hil : i < nz
    · have i3 : (i : Int) < (nz : Int) := by omega
      have i4 : (0 : Int) ≤ (i : Int) := by omega
      rcases HZ.out with h | ⟨ab, ao, rfl, hab, hac⟩
      · omega
      have a3 : w.cell? ⟨ab, ao + i * 2, none⟩ = some (.bool (Z i).neg) := by simpa [zg] using hac i hil 0 (by omega)
      have a4 : w.cell? ⟨ab, ao + i * 2 + 1, none⟩ = some (.string (Z i).mag) := by simpa [zg] using hac i hil 1 (by omega)
      have hzi := Hz.out i hil
      have HA1 := Lib.hid (fun (h : 16 < (Z i).mag.size) => HA.out ⟨i, hil, h⟩)
      have HK1 := Lib.hid (fun (h : ¬ 16 < (Z i).mag.size) (k : Nat) (hk : k < i + 1) => show ¬ 16 < (Z k).mag.size from by
        by_cases e : k = i
        · rw [e]; exact h
        · exact HK.out k (by omega))
      obtain ⟨z, hzz⟩ : ∃ z, Z i = z := ⟨_, rfl⟩
      rw [hzz] at a3 a4 hzi HA1 HK1
      clear hac hzz HK
      by_cases h : 16 < z.mag.size
      · have HR := Lib.hid (HA1.out h)
        have h2 : (16 : Int) < (z.mag.size : Int) := by omega
        clear HA1 HK1
        go_wp2
        go_ret
        exact ⟨by rw [← HR.out]; rfl, rfl⟩
      · have HK2 := Lib.hid (HK1.out h)
        have h2 : ¬ (16 : Int) < (z.mag.size : Int) := by omega
        clear HA1 HK1
        go_wp2
        go_roundw
        case rel => exact ⟨i + 1, by omega, by go_num, HK2, by first | rfl | trivial⟩
        case measure => simp [intOf]; omega
    · have i3 : ¬ (i : Int) < (nz : Int) := by omega
      have HR := Lib.hid (HN.out (fun k hk => HK.out k (by omega)))
      by_cases h : 10 < nz
      · have hr : true = r := by rw [← HR.out]; exact (decide_eq_true h).symm
        have HR2 := Lib.hid hr
        have h2 : (10 : Int) < (nz : Int) := by omega
        clear hr HR
        go_wp2
        go_ret
        exact ⟨by rw [← HR2.out]; rfl, rfl⟩
      · have hr : false = r := by rw [← HR.out]; exact (decide_eq_false h).symm
        have HR2 := Lib.hid hr
        have h2 : ¬ (10 : Int) < (nz : Int) := by omega
        clear hr HR
        go_wp2
        go_ret
        exact ⟨by rw [← HR2.out]; rfl, rfl⟩
/-- What Heavy tells. -/
def hvyB (v : Nat → Int) (k : Int) (N : Nat) : Bool := anyN (fun i => decide (k < v i ∧ v i ≤ 4096)) N || decide (10 < N)
set_option maxRecDepth 100000 in
set_option maxHeartbeats 4000000 in
theorem rHeavy_any (N : Nat) (v : Nat → Int) (pv : Option Addr) (cv : Nat) (q : Int) (hN : N ≤ 9223372036854775807) (w : World) (hV : VRow w pv N v) :
    Calls Tryz.prog 5 #[.slice pv N cv, .int .i64 q] w (RetB (hvyB v q N) w) := by
  have HA := Lib.hid hV
  clear hV
  obtain ⟨r, hr⟩ : ∃ r, hvyB v q N = r := ⟨_, rfl⟩
  rw [hr]
  have HR := Lib.hid hr
  unfold hvyB at HR
  clear hr
  go_enter Tryz.func5, Tryz.ntmps5
  go_wp2
  go_loopw [5] (fun i wr => ∃ k : Nat, k ≤ N ∧ i = .int .i64 k ∧ wr = w ∧ Hid (∀ j, j < k → ¬ (q < v j ∧ v j ≤ 4096))) (fun i _ => N - (intOf i).toNat)
  case atStart => exact ⟨0, by omega, rfl, rfl, Lib.hid (fun j hj => by omega)⟩
  case round =>
    obtain ⟨k, hk, rfl, rfl, He⟩ := hrel
    by_cases hlt : k < N
    · obtain ⟨ab, ao, rfl, hab, hca⟩ := VRow.cells HA.out hlt
      have hxa := hca k hlt
      have i0 : (0 : Int) ≤ (k : Int) := by omega
      have i1 : (k : Int) < (N : Int) := by omega
      have HF := Lib.hid (fun (h : q < v k ∧ v k ≤ 4096) => show true = r from by rw [← HR.out, anyN_true.2 ⟨k, hlt, decide_eq_true h⟩]; rfl)
      have HE := Lib.hid (fun (h : ¬ (q < v k ∧ v k ≤ 4096)) (j : Nat) (hj : j < k + 1) => show ¬ (q < v j ∧ v j ≤ 4096) from by
        by_cases e : j = k
        · rw [e]; exact h
        · exact He.out j (by omega))
      obtain ⟨x, hx⟩ : ∃ x, v k = x := ⟨_, rfl⟩
      rw [hx] at HE HF hxa
      clear hca hx He
      by_cases hc : x > q
      · by_cases hd : x ≤ 4096
        · have HF2 := Lib.hid (HF.out ⟨hc, hd⟩)
          clear HE HF
          go_wp2
          go_ret
          exact ⟨by rw [← HF2.out]; rfl, Below.refl _ _⟩
        · have HE2 := Lib.hid (HE.out (fun h => hd h.2))
          clear HE HF
          go_wp2
          go_roundw
          case rel => exact ⟨k + 1, by omega, by go_num, by first | trivial | rfl, HE2⟩
          case measure => simp [intOf]; omega
      · have HE2 := Lib.hid (HE.out (fun h => hc h.1))
        clear HE HF
        go_wp2
        go_roundw
        case rel => exact ⟨k + 1, by omega, by go_num, by first | trivial | rfl, HE2⟩
        case measure => simp [intOf]; omega
    · have hf : anyN (fun i => decide (q < v i ∧ v i ≤ 4096)) N = false := anyN_false.2 fun j hj => decide_eq_false (He.out j (by omega))
      rw [hf, Bool.false_or] at HR
      clear hf He
      by_cases h10 : 10 < N
      · have h11 : (N : Int) > 10 := by omega
        have HR2 := Lib.hid (show true = r by rw [← HR.out, decide_eq_true h10])
        clear HR h10
        go_wp2
        go_ret
        exact ⟨by rw [← HR2.out]; rfl, Below.refl _ _⟩
      · have h11 : ¬ (N : Int) > 10 := by omega
        have HR2 := Lib.hid (show false = r by rw [← HR.out, decide_eq_false h10])
        clear HR h10
        go_wp2
        go_ret
        exact ⟨by rw [← HR2.out]; rfl, Below.refl _ _⟩
end Go.Proofs.YtlaoijfphkhchaaGreat
