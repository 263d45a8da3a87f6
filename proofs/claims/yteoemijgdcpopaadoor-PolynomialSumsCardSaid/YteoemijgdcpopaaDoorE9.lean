/- polynomial.Canonical and Degree: the walks. -/
import Derived.Test.YteoemijgdcpopaaDoorE4
import Derived.Test.YteoemijgdcpopaaDoorE6
import Derived.Test.YteoemijgdcpopaaDoorE8
import Derived.Laws.StructEq
import Derived.Deep.QuietTactic
namespace Go.Proofs.YteoemijgdcpopaaDoor
open Go.RowKit

/-- How many of the first k coefficients are left when zeros at the end are left out. -/
def dgN (f : Nat → Int) : Nat → Nat
  | 0 => 0
  | k + 1 => if f k = 0 then dgN f k else k + 1
theorem dgN_le (f : Nat → Int) : ∀ k, dgN f k ≤ k
  | 0 => Nat.le_refl _
  | k + 1 => by
    rw [dgN]
    split
    · have := dgN_le f k; omega
    · exact Nat.le_refl _
theorem dgN_over (f : Nat → Int) : ∀ k i, dgN f k ≤ i → i < k → f i = 0
  | 0, i, _, h => by omega
  | k + 1, i, h1, h2 => by
    rw [dgN] at h1
    split at h1
    · by_cases e : i = k
      · rw [e]; assumption
      · exact dgN_over f k i h1 (by omega)
    · omega
theorem dgN_top (f : Nat → Int) : ∀ k, 0 < dgN f k → f (dgN f k - 1) ≠ 0
  | 0, h => by simp [dgN] at h
  | k + 1, h => by
    rw [dgN] at h ⊢
    split
    · rename_i h0
      rw [if_pos h0] at h
      exact dgN_top f k h
    · rename_i h0
      rw [Nat.add_sub_cancel]; exact h0
theorem dgN_congr {f g : Nat → Int} : ∀ k, (∀ i, i < k → f i = g i) → dgN f k = dgN g k
  | 0, _ => rfl
  | k + 1, h => by
    rw [dgN, dgN, h k (by omega), dgN_congr k fun i hi => h i (by omega)]
/-- What a function that returns a polynomial gives: m coefficients f. -/
def RetPol (m : Nat) (f : Nat → Int) (w : World) (e : Ending) (w' : World) : Prop := ∃ q cap, e = .returned (.slice q m cap) ∧ RowF w' q m f ∧ Below w.heap.size w w'
theorem zsF_snoc (f : Nat → Int) (n : Nat) : zsF f (n + 1) = zsF f n ++ [f n] := by
  unfold zsF
  rw [List.range_succ, List.map_append]; rfl
theorem OwnZ.rowF {w : World} {B : Nat} {v : Value} {f : Nat → Int} {n : Nat} (h : OwnZ w B v (zsF f n)) : ∃ p cap, v = .slice p n cap ∧ n ≤ cap ∧ RowF w p n f ∧ (∀ b, p = some b → B ≤ b.block) := by
  have h2 := slAt_of_owns h (fun k j => zc (f k) j) fun i hi j hj => by
    rw [zsF_len] at hi
    have h3 := zL_get (zsF f n) i (by rw [zsF_len]; exact hi)
    rw [zsF_get f n hi] at h3
    rcases (show j = 0 ∨ j = 1 by omega) with rfl | rfl
    · exact h3.1
    · exact h3.2
  rw [zsF_len] at h2
  exact h2
theorem RowF.take {w : World} {p : Option Addr} {n m : Nat} {f : Nat → Int} (h : RowF w p n f) (hm : m ≤ n) : RowF w p m f := by
  rcases h with h | ⟨b, off, rfl, hl, hc⟩
  · exact .inl (by omega)
  · exact .inr ⟨b, off, rfl, hl, fun i hi j hj => hc i (by omega) j hj⟩
set_option maxRecDepth 100000 in
set_option maxHeartbeats 8000000 in
theorem Canonical_any (n : Nat) (Z : Nat → ZI) (p : Option Addr) (c : Nat) (hn : n ≤ 1000000) (hz : ∀ k, k < n → (Z k).mag.size ≤ 100000000) (w : World) (hX : GRow w p n Z) :
    Calls Tryd.prog 15 #[.slice p n c] w (RetPol (dgN (fun k => valZ (Z k)) n) (fun k => valZ (Z k)) w) := by
  obtain ⟨i0, hi0, hzz⟩ := Option.map_eq_some_iff.1 zInfo
  simp only [Prod.mk.injEq] at hzz
  obtain ⟨hz0, hz1, hz2⟩ := hzz
  have HX := Lib.hid hX
  have Hz := Lib.hid hz
  obtain ⟨f, hf⟩ : ∃ f, (fun k => valZ (Z k)) = f := ⟨_, rfl⟩
  have Hf := Lib.hid (show ∀ k, valZ (Z k) = f k from fun k => by rw [← hf])
  rw [hf]
  have Hdle := Lib.hid (fun k => dgN_le f k)
  clear hX hz hf
  go_enter Tryd.func15, Tryd.ntmps15
  go_wp2_with (at_make; refine wpList_make_own _ rfl _ _ 22 rfl w.heap.size 35 i0 (.agg #[.bool false, .string ⟨#[]⟩]) 2 Tryd.underlying22 hi0 hz0 hz1 .i64 .i64 (n : Int) n rfl rfl ?_ ?_ ?_ ?_ ?_)
  · omega
  · rw [hz2]; omega
  · unfold maxLen; omega
  · exact Nat.le_refl _
  intro w1 hown hgrow
  have hb1 : Below w.heap.size w w1 := (Below.refl _ _).grown hgrow (by simp) (fun k hk => by cases hk)
  have Hb1 := Lib.hid hb1
  have Hown := Lib.hid (show OwnZ w1 w.heap.size (.slice (some ⟨w.heap.size, 0, none⟩) 0 n) (zsF f 0) from hown)
  clear hb1 hown hgrow hz0 hz1 hz2 hi0
  go_wp2_with fail
  go_loopw [3, 11] (fun ov iv wr => ∃ i : Nat, i ≤ n ∧ iv = .int .i64 (i : Nat) ∧ Hid (OwnZ wr w.heap.size ov (zsF f i)) ∧ Hid (Below w.heap.size w wr)) (fun _ iv _ => n - (intOf iv).toNat)
  case atStart => exact ⟨0, by omega, by go_num, Hown, Hb1⟩
  case round =>
    clear Hown Hb1
    obtain ⟨i, hi, rfl, HO, HB⟩ := hrel
    by_cases hil : i < n
    · have i0 : (0 : Int) ≤ (i : Int) := by omega
      have i1 : (i : Int) < (n : Int) := by omega
      have hXr : GRow wr p n Z := HX.out.mono (Nat.le_refl _) HB.out
      obtain ⟨b, off, rfl, hbl, hc⟩ : ∃ b off, p = some ⟨b, off, none⟩ ∧ b < wr.heap.size ∧ ∀ k, k < n → wr.cell? ⟨b, off + k * 2, none⟩ = some (.bool (Z k).neg) ∧ wr.cell? ⟨b, off + k * 2 + 1, none⟩ = some (.string (Z k).mag) := by
        rcases hXr with h | ⟨b, off, rfl, hl, hc⟩
        · omega
        · exact ⟨b, off, rfl, hl, fun k hk => ⟨by have := hc k hk 0 (by omega); simpa [zg] using this, by have := hc k hk 1 (by omega); simpa [zg] using this⟩⟩
      obtain ⟨x0, x1⟩ := hc i hil
      have hzi := Hz.out i hil
      have hfi := Hf.out i
      have hadd := fun W => add_z (Z i) ⟨false, ⟨#[]⟩⟩ hzi (by decide) W
      rw [addZ_val, hfi, show valZ ⟨false, ⟨#[]⟩⟩ = 0 from rfl, Int.add_zero] at hadd
      have Hadd := Lib.hid hadd
      have hnx : zsF f (i + 1) = zsF f i ++ [f i] := zsF_snoc f i
      have Hnx := Lib.hid hnx
      obtain ⟨z, hzz⟩ : ∃ z, Z i = z := ⟨_, rfl⟩
      rw [hzz] at x0 x1 Hadd
      obtain ⟨y, hy⟩ : ∃ y, f i = y := ⟨_, rfl⟩
      rw [hy] at Hadd Hnx
      clear hXr hc hzi hfi hadd hnx hzz hy hbl
      go_upto_region 5 with (fail)
      clear x0 x1
      have hal := (Below.refl wr.heap.size wr).alloc (Nat.le_refl _) (.cells #[.bool z.neg, .string z.mag] 35)
      have hbx := BoxAt.new wr (.bool z.neg) (.string z.mag) 35
      have HO2 := Lib.hid (HO.out.below (Nat.le_refl _) hal)
      have HB2 := Lib.hid (HB.out.trans (hal.mono HB.out.size))
      obtain ⟨gx, hgx⟩ : ∃ g, wr.heap.size = g := ⟨_, rfl⟩
      rw [hgx] at hbx ⊢
      clear hal HO HB hgx
      generalize wr.alloc (.cells #[.bool z.neg, .string z.mag] 35) = X at *
      obtain ⟨x0, x1, _, _, _⟩ := hbx
      go_wp2_with fail
      refine (Hadd.out X).mono ?_
      rintro e w4 ⟨rfl, hb4⟩
      dsimp only
      have HZ4 := Lib.hid (HO2.out.below (Nat.le_refl _) hb4)
      have hb4 := HB2.out.trans (hb4.mono HB2.out.size)
      have hys := hb4.size
      have Hb4 := Lib.hid hb4
      clear hb4 HO2 HB2 x0 x1 Hadd
      go_wp2_with (at_builtin; refine wpList_append_zs rfl _ _ rfl w.heap.size _ (zsF f i) rfl (HZ4.out.alloc _) w4.heap.size 0 1 1 [y] rfl rfl ?_ ?_ ?_ ?_)
      · intro j hj
        have : j = 0 := by simpa using hj
        subst this
        simp
      · rw [zsF_len]; simp; omega
      · simp; omega
      · intro v9 w9 hown9 hgr9
        have hb9 : Below w.heap.size w w9 := below_append (Hb4.out.alloc hys _) (HZ4.out.alloc _) hgr9 (by simp; omega) (Nat.le_refl _)
        rw [← Hnx.out] at hown9
        have HZ9 := Lib.hid hown9
        have HY9 := Lib.hid hb9
        clear hown9 hgr9 hb9 HZ4 Hb4 hys
        go_wp2
        go_roundw
        case rel => exact ⟨i + 1, by omega, by go_num, HZ9, HY9⟩
        case measure => simp [intOf]; omega
    · have i1 : ¬ (i : Int) < (n : Int) := by omega
      have hie : i = n := by omega
      have hz9 := HO.out
      rw [hie] at hz9
      obtain ⟨q, cap, rfl, hnc, hrow, _⟩ := hz9.rowF
      have Hrow := Lib.hid hrow
      have hbb := HB.out
      have Hbb := Lib.hid hbb
      obtain ⟨V, hV⟩ : ∃ V, wr = V := ⟨_, rfl⟩
      rw [hV] at Hrow Hbb ⊢
      clear hz9 hie hrow HO HB hbb hV
      go_wp2_with fail
      go_loopw [3] (fun ov wr => ∃ m : Nat, m ≤ n ∧ ov = .slice q m cap ∧ Hid (dgN f m = dgN f n) ∧ wr = V) (fun ov _ => (match ov with | .slice _ m _ => m | _ => 0))
      case atStart => exact ⟨n, Nat.le_refl _, rfl, Lib.hid rfl, rfl⟩
      case round =>
        obtain ⟨m, hm, rfl, HD, rfl⟩ := hrel
        by_cases hm0 : 0 < m
        · obtain ⟨k, rfl⟩ : ∃ k, m = k + 1 := ⟨m - 1, by omega⟩
          obtain ⟨b, off, rfl, _, hc⟩ := RowF.cells (k := k) (Hrow.out.take hm) (by omega)
          obtain ⟨x0, x1⟩ := hc k (by omega)
          have k1 : (k : Int) + 1 - 1 = (k : Int) := by omega
          have k0 : (0 : Int) ≤ (k : Int) := by omega
          have k2 : (k : Int) < (k : Int) + 1 := by omega
          have k3 : (k : Int) + 1 > 0 := by omega
          have k4 : decide ((k : Int) + 1 > 0) = true := decide_eq_true k3
          have k5 : decide (0 < k + 1) = true := decide_eq_true (by omega)
          have k6 : (k : Int) ≤ (cap : Int) := by omega
          obtain ⟨y, hy⟩ : ∃ y, f k = y := ⟨_, rfl⟩
          rw [hy] at x0 x1
          by_cases hy0 : y = 0
          · have HN : Hid (dgN f k = dgN f n) := Lib.hid (by rw [← HD.out, dgN, hy, if_pos hy0])
            rw [hy0] at x0 x1
            have x0' : wr.cell? ⟨b, off + k * 2, none⟩ = some (.bool false) := x0
            have x1' : wr.cell? ⟨b, off + k * 2 + 1, none⟩ = some (.string ⟨#[]⟩) := x1
            clear hc hy hy0 x0 x1 HD
            go_wp2_with fail
            go_roundw
            case rel => exact ⟨k, by omega, rfl, HN, by first | trivial | rfl⟩
            case measure => simp
          · have hne : ((canon y).mag.toList == []) = false := by
              rw [beq_eq_false_iff_ne]
              intro h
              have h2 := valZ_canon y
              have h3 : absZ (canon y) = 0 := by unfold absZ; rw [show (canon y).mag.data.toList = [] from by rw [← ByteArray.toList_eq]; exact h]; rfl
              unfold valZ at h2
              rw [h3] at h2
              simp at h2
              exact hy0 h2.symm
            have hk : k + 1 = dgN f n := by rw [← HD.out, dgN, hy, if_neg hy0]
            have Hk := Lib.hid hk
            clear hc hy hy0 hk HD
            go_wp2_with fail
            go_ret
            rw [← Hk.out]
            exact ⟨_, cap, rfl, Hrow.out.take hm, Hbb.out⟩
        · obtain rfl : m = 0 := by omega
          have Hk := Lib.hid (show 0 = dgN f n from by rw [← HD.out]; rfl)
          clear HD
          go_wp2_with fail
          go_ret
          rw [← Hk.out]
          exact ⟨q, cap, rfl, .inl rfl, Hbb.out⟩
set_option maxRecDepth 100000 in
theorem Degree_any (n : Nat) (Z : Nat → ZI) (p : Option Addr) (c : Nat) (hn : n ≤ 1000000) (hz : ∀ k, k < n → (Z k).mag.size ≤ 100000000) (w : World) (hX : GRow w p n Z) :
    Calls Tryd.prog 24 #[.slice p n c] w fun e w' => e = .returned (.int .i64 ((dgN (fun k => valZ (Z k)) n : Int) - 1)) ∧ Below w.heap.size w w' := by
  have h := Canonical_any n Z p c hn hz w hX
  have hd := dgN_le (fun k => valZ (Z k)) n
  obtain ⟨m, hm⟩ : ∃ m, dgN (fun k => valZ (Z k)) n = m := ⟨_, rfl⟩
  rw [hm] at h hd ⊢
  unfold RetPol at h
  have H := Lib.hid h
  clear h hX hz hm
  go_enter Tryd.func24, Tryd.ntmps24
  go_wp2_with fail
  refine H.out.mono ?_
  rintro e w1 ⟨q, cap, rfl, _, hb⟩
  dsimp only
  have Hb := Lib.hid hb
  clear hb
  go_wp2_with fail
  go_ret
  exact ⟨rfl, Hb.out⟩
end Go.Proofs.YteoemijgdcpopaaDoor
