/- The walks of grooveref04.square and Power. -/
import Derived.Test.YtlkoiekdafaapaaGrA
import Derived.Test.YtlkoiekdafaapaaRbt
import Derived.Test.YtlkoiekdafaapaaWpw
namespace Go.Proofs.Ytlkoiekdafaapaa
open Go.RowKit Go.Shelf

set_option maxRecDepth 100000 in
set_option maxHeartbeats 4000000 in
theorem refSquare_any (m : GM) (p : Option Addr) (cp : Nat) (hf : m.Fit) (w : World) (hm : m.At w p) :
    Calls Try.prog 61 #[.slice p m.r cp] w (RetInt m.sq w) := by
  have HC := Lib.hid (fun W (hW : Below w.heap.size w W) => refCheck_m m p cp hf W (hm.below (Nat.le_refl _) hW))
  have hv : m.sq = if m.chk ≠ 0 then 1 else if m.r ≠ m.L 0 then 11 else 0 := rfl
  by_cases hc : m.chk = 0
  · have e1 : (m.chk != 0) = false := by simpa using hc
    rw [if_neg (by omega)] at hv
    obtain ⟨hr0, hc0, _⟩ := GM.chk_zero hc
    obtain ⟨b, off, q, c, rfl, hb, a0⟩ := GM.head hm hr0
    have Hv := Lib.hid hv
    clear hv hc hf hm
    have r0 : (0 : Int) < (m.r : Int) := by omega
    generalize m.chk = k at *
    generalize m.sq = v at *
    go_enter Try.func61, Try.ntmps61
    go_wp2_with fail
    refine (HC.out _ (Below.refl _ _)).mono ?_
    rintro e w2 ⟨rfl, hb3⟩
    dsimp only
    have a2 : w2.cell? ⟨b, off, none⟩ = some (.slice q (m.L 0) c) := cell_below hb3 a0
    have Hb3 := Lib.hid hb3
    clear hb3 HC a0
    generalize m.L 0 = l at *
    generalize m.r = r at *
    by_cases hrl : r = l
    · have e2 : ((r : Int) != (l : Int)) = false := by rw [hrl, bne_self_eq_false]
      have Hv2 : Hid (v = 0) := Lib.hid (by rw [Hv.out, if_neg (by omega)])
      clear hrl Hv
      go_wp2
      go_ret
      exact ⟨by rw [Hv2.out]; rfl, Hb3.out⟩
    · have e2 : ((r : Int) != (l : Int)) = true := by rw [bne_iff_ne]; omega
      have Hv2 : Hid (v = 11) := Lib.hid (by rw [Hv.out, if_pos hrl])
      clear hrl Hv
      go_wp2
      go_ret
      exact ⟨by rw [Hv2.out]; rfl, Hb3.out⟩
  · have e1 : (m.chk != 0) = true := by simpa using hc
    rw [if_pos hc] at hv
    have Hv := Lib.hid hv
    clear hv hc hf hm
    generalize m.chk = k at *
    generalize m.sq = v at *
    generalize m.r = r at *
    go_enter Try.func61, Try.ntmps61
    go_wp2_with fail
    refine (HC.out _ (Below.refl _ _)).mono ?_
    rintro e w2 ⟨rfl, hb3⟩
    dsimp only
    have Hb3 := Lib.hid hb3
    clear hb3 HC
    go_wp2
    go_ret
    exact ⟨by rw [Hv.out]; rfl, Hb3.out⟩
/-- All products of a power and the matrix are of moderate size. -/
def PowQ (r : Nat) (F : Nat → Nat → Int) (N : Nat) : Prop := ∀ u, u < N → SmallQ r r r (powF r F u) F
set_option maxRecDepth 100000 in
set_option maxHeartbeats 4000000 in
theorem refPow_m (a : GM) (p : Option Addr) (cp : Nat) (n : Int) (hfa : a.Fit) (hok : powE a n = 0 → PowQ a.r a.F n.toNat) (w : World) (ha : a.At w p) :
    Calls Try.prog 16 #[.slice p a.r cp, .int .i64 n] w (RetMatE (powE a n) a.r a.r (powF a.r a.F n.toNat) w) := by
  have HS := Lib.hid (fun W (hW : Below w.heap.size w W) => refSquare_any a p cp hfa W (ha.below (Nat.le_refl _) hW))
  by_cases hs : a.sq = 0
  · obtain ⟨h1, h2, h3, h4⟩ := GM.sq_zero hs
    have hM := GM.mat ha h1
    rw [← h2] at hM
    rw [hs] at HS
    by_cases hn1 : n < 0
    · have hv : powE a n = 2 := by unfold powE; rw [if_neg (by omega), if_pos (.inl hn1)]
      rw [hv]
      clear hs h1 h2 h3 h4 hM hok hfa ha hv
      generalize powF a.r a.F n.toNat = D at *
      generalize a.r = r at *
      go_enter Try.func16, Try.ntmps16
      go_wp2_with fail
      refine (HS.out _ (Below.refl _ _)).mono ?_
      rintro e w2 ⟨rfl, hb⟩
      dsimp only
      have Hb := Lib.hid hb
      clear hb HS
      go_wp2
      refine bodyPost_ret (v := .tuple #[.slice none 0 0, .int .i64 2]) (by simp [results, Try.results16, go_sem]) rfl ?_
      exact ⟨Hb.out, .inr ⟨by decide, rfl⟩⟩
    by_cases hn2 : n > 4096
    · have hv : powE a n = 2 := by unfold powE; rw [if_neg (by omega), if_pos (.inr hn2)]
      rw [hv]
      clear hs h1 h2 h3 h4 hM hok hfa ha hv
      generalize powF a.r a.F n.toNat = D at *
      generalize a.r = r at *
      go_enter Try.func16, Try.ntmps16
      go_wp2_with fail
      refine (HS.out _ (Below.refl _ _)).mono ?_
      rintro e w2 ⟨rfl, hb⟩
      dsimp only
      have Hb := Lib.hid hb
      clear hb HS
      go_wp2
      refine bodyPost_ret (v := .tuple #[.slice none 0 0, .int .i64 2]) (by simp [results, Try.results16, go_sem]) rfl ?_
      exact ⟨Hb.out, .inr ⟨by decide, rfl⟩⟩
    have hv : powE a n = if 65536 < ((mxM (bitM a.F) a.r a.r + bitsN a.r : Nat) : Int) * n then 4 else 0 := by
      unfold powE; rw [if_neg (by omega), if_neg (by omega)]
    have hZ : ∀ i k, i < a.r → k < a.r → (canon (a.F i k)).mag.size ≤ 100000000 := by
      intro i k hi hk
      have hz := (GM.chk_zero h1).2.2.2.2.2 i hi k (by rw [(GM.chk_zero h1).2.2.2.2.1 i hi]; omega)
      show (canon (valZ (a.Z i k))).mag.size ≤ 100000000
      rw [← hz]
      exact (hfa.2 i hi).2 k (by rw [(GM.chk_zero h1).2.2.2.2.1 i hi]; omega)
    have hmx : mxM (bitM a.F) a.r a.r ≤ 6400000000 := mxM_le fun i k hi hk => by
      have := bitsN_fit (hZ i k hi hk)
      rwa [absZ_canon] at this
    have hbl : bitsN a.r ≤ 6400000000 := by
      have h := bitsN_fit (z := canon (a.r : Int)) (Nat.le_trans (canon_size (a.r : Int) (k := 4) (by omega)) (by decide))
      rwa [absZ_canon, Int.natAbs_natCast] at h
    have Hv := Lib.hid hv
    have HM := Lib.hid hM
    have HZ := Lib.hid hZ
    have Hok := Lib.hid hok
    have Hmx := Lib.hid hmx
    clear hs h1 h2 hM hok hfa ha hv hZ hmx
    generalize powE a n = v at *
    generalize a.F = F at *
    generalize a.r = r at *
    have r0 : (0 : Int) < (r : Int) := by omega
    go_enter Try.func16, Try.ntmps16
    go_wp2_with fail
    refine (HS.out _ (Below.refl _ _)).mono ?_
    rintro e w2 ⟨rfl, hb⟩
    dsimp only
    have Hb := Lib.hid hb
    clear hb HS
    go_wp2_with fail
    go_loopw [7, 8] (fun b v wr => ∃ i : Nat, i ≤ r ∧ b = .int .i64 (mxM (bitM F) r i : Nat) ∧ v = .int .i64 i ∧ Hid (Below w.heap.size w wr)) (fun _ v _ => r - (intOf v).toNat)
    case atStart => exact ⟨0, by omega, by go_num, by go_num, Hb⟩
    case round =>
      clear Hb
      obtain ⟨i, hi, rfl, rfl, Hb⟩ := hrel
      by_cases hlt : i < r
      · have i1 : (i : Int) < (r : Int) := by omega
        go_wp2
        go_loopw [7, 9] (fun b v wr => ∃ k : Nat, k ≤ r ∧ b = .int .i64 (mxC (mxM (bitM F) r i) (bitM F i) k : Nat) ∧ v = .int .i64 k ∧ Hid (Below w.heap.size w wr)) (fun _ v _ => r - (intOf v).toNat)
        case atStart => exact ⟨0, by omega, by go_num, by go_num, Hb⟩
        case round =>
          clear Hb
          obtain ⟨k, hk, rfl, rfl, Hb⟩ := hrel
          by_cases hkl : k < r
          · have k1 : (k : Int) < (r : Int) := by omega
            obtain ⟨fb, fo, hpe, _, _, _, _⟩ := HM.out.cells hlt
            subst hpe
            obtain ⟨rb, ro, rc, a5, a6, a7⟩ := HM.out.at hlt hkl
            have a5 := cell_below Hb.out a5
            have a6 := cell_below Hb.out a6
            have a7 := cell_below Hb.out a7
            have HB := Lib.hid (refBits_any (canon (F i k)) (HZ.out i k hlt hkl))
            rw [absZ_canon] at HB
            have hmxe : max (mxC (mxM (bitM F) r i) (bitM F i) k : Int) (bitsN (F i k).natAbs : Int) = ((mxC (mxM (bitM F) r i) (bitM F i) (k + 1) : Nat) : Int) := by
              show _ = ((max (mxC (mxM (bitM F) r i) (bitM F i) k) (bitsN (F i k).natAbs) : Nat) : Int)
              omega
            have Hmxe := Lib.hid hmxe
            clear hmxe
            go_wp2_with fail
            refine (HB.out _).mono ?_
            rintro e w3 ⟨rfl, hb3⟩
            dsimp only
            have Hb3 := Lib.hid (Hb.out.trans (hb3.mono Hb.out.size))
            clear hb3 a5 a6 a7 HB Hb
            have hmxe := Hmxe.out
            go_wp2
            go_roundw
            case rel => exact ⟨k + 1, by omega, by rw [← hmxe], by go_num, Hb3⟩
            case measure => simp [intOf]; omega
          · have k1 : ¬ (k : Int) < (r : Int) := by omega
            have hke : k = r := by omega
            subst hke
            go_wp2
            go_roundw
            case rel => exact ⟨i + 1, by omega, rfl, by go_num, Hb⟩
            case measure => simp [intOf]; omega
      · have i1 : ¬ (i : Int) < (r : Int) := by omega
        have hie : i = r := by omega
        subst hie
        obtain ⟨N, rfl⟩ : ∃ N : Nat, n = N := ⟨n.toNat, by omega⟩
        have HO := Lib.hid (fun W => refOfInt_any (i : Int) (by omega) (by omega) W)
        have HB := Lib.hid (fun W => refBits_any (canon (i : Int)) (Nat.le_trans (canon_size (i : Int) (k := 4) (by omega)) (by decide)) W)
        rw [absZ_canon, Int.natAbs_natCast] at HB
        have hmx := Hmx.out
        obtain ⟨X, hX⟩ : ∃ X : Nat, mxM (bitM F) i i + bitsN i = X := ⟨_, rfl⟩
        have hXl : X ≤ 12800000000 := by omega
        have hpl : X * N ≤ 12800000000 * 4096 := Nat.mul_le_mul hXl (by omega)
        have hpe : (X : Int) * (N : Int) = ((X * N : Nat) : Int) := by push_cast; rfl
        go_wp2_with fail
        refine (HO.out _).mono ?_
        rintro e w3 ⟨rfl, hb3⟩
        dsimp only
        have Hb3 := Lib.hid (Hb.out.trans (hb3.mono Hb.out.size))
        clear hb3 Hb HO
        go_wp2_with fail
        refine (HB.out _).mono ?_
        rintro e w4 ⟨rfl, hb4⟩
        dsimp only
        have Hb4 := Lib.hid (Hb3.out.trans (hb4.mono Hb3.out.size))
        clear hb4 Hb3 HB
        obtain ⟨Y, hY⟩ : ∃ Y : Nat, X * N = Y := ⟨_, rfl⟩
        rw [hY] at hpl hpe
        have hw : wrap64 (((mxM (bitM F) i i : Nat) + (bitsN i : Nat) : Int) * (N : Int)) = (Y : Int) := by
          rw [show ((mxM (bitM F) i i : Nat) + (bitsN i : Nat) : Int) = (X : Int) from by omega, hpe]
          exact IntWalk.wrap64_in _ ⟨by omega, by omega⟩
        have HvY : Hid (v = if 65536 < Y then 4 else 0) := Lib.hid (by
          rw [Hv.out, hX, hpe]
          by_cases h : 65536 < Y
          · rw [if_pos h, if_pos (by omega)]
          · rw [if_neg h, if_neg (by omega)])
        rw [Int.toNat_natCast] at Hok
        clear Hmx hX hXl hpl hpe hY
        by_cases hY : 65536 < Y
        · have y1 : 65536 < wrap64 (((mxM (bitM F) i i : Nat) + (bitsN i : Nat) : Int) * (N : Int)) := by rw [hw]; omega
          rw [if_pos hY] at HvY
          clear hY Hok HM HZ hw
          go_wp2
          refine bodyPost_ret (v := .tuple #[.slice none 0 0, .int .i64 4]) (by simp [results, Try.results16, go_sem]) rfl ?_
          exact ⟨Hb4.out, .inr ⟨by rw [HvY.out]; decide, by rw [HvY.out]⟩⟩
        · have y1 : ¬ 65536 < wrap64 (((mxM (bitM F) i i : Nat) + (bitsN i : Nat) : Int) * (N : Int)) := by rw [hw]; omega
          rw [if_neg hY] at HvY
          have hok := Hok.out HvY.out
          have Hok1 := Lib.hid hok
          have HO := Lib.hid (fun W => refOne_any i (by omega) (by omega) W)
          clear hY Hok HZ hok hw
          go_wp2_with fail
          refine (HO.out _).mono ?_
          rintro e w6 ⟨g, cap, A, rfl, hown, hb6⟩
          dsimp only
          have Hb6 := Lib.hid (Hb4.out.trans (hb6.mono Hb4.out.size))
          have Ho : Hid (MatF w6 (some ⟨g, 0, none⟩) i i (powF i F 0)) := Lib.hid hown.mat
          clear hb6 HO Hb4 hown y1
          go_wp2
          go_loopw [10, 11] (fun y z wr => ∃ (u : Nat) (q1 : Option Addr) (k1 : Nat), z = .int .i64 (u : Nat) ∧ y = .slice q1 i k1 ∧ u ≤ N ∧ Hid (MatF wr q1 i i (powF i F u)) ∧ Hid (Below w.heap.size w wr)) (fun _ z _ => N - (intOf z).toNat)
          case atStart => exact ⟨0, _, _, by go_num, rfl, by omega, Ho, Hb6⟩
          case round =>
            clear Hb6 Ho
            obtain ⟨u, q1, k1, rfl, rfl, hu, Ho, Hb⟩ := hrel
            by_cases huN : u < N
            · have u1 : (u : Int) < (N : Int) := by omega
              have HP := Lib.hid (refProduct_any i i i q1 p k1 cp (powF i F u) F h3 h3 h3 (by omega) (by omega) (by omega) wr Ho.out (HM.out.below (Nat.le_refl _) Hb.out) (Hok1.out u huN))
              go_wp2_with fail
              refine HP.out.mono ?_
              rintro e w7 ⟨g7, c7, A7, rfl, hown, hb7⟩
              dsimp only
              have Hb7 := Lib.hid (Hb.out.trans (hb7.mono Hb.out.size))
              have Ho7 : Hid (MatF w7 (some ⟨g7, 0, none⟩) i i (powF i F (u + 1))) := Lib.hid hown.mat
              clear hb7 hown HP Ho
              go_wp2
              go_roundw
              case rel => exact ⟨u + 1, _, _, by go_num, rfl, by omega, Ho7, Hb7⟩
              case measure => simp [intOf]; omega
            · have u1 : ¬ (u : Int) < (N : Int) := by omega
              have hue : u = N := by omega
              rw [hue] at Ho
              clear hue
              go_wp2
              refine bodyPost_ret (v := .tuple #[.slice q1 i k1, .int .i64 0]) (by simp [results, Try.results16, go_sem]) rfl ?_
              exact ⟨Hb.out, .inl ⟨HvY.out, _, _, rfl, Ho.out⟩⟩
  · have hv : powE a n = a.sq := by unfold powE; rw [if_pos hs]
    rw [hv]
    clear hok hfa ha hv
    generalize powF a.r a.F n.toNat = D at *
    generalize a.sq = v at *
    generalize a.r = r at *
    have e1 : (v != 0) = true := by rw [bne_iff_ne]; exact hs
    have Hs := Lib.hid hs
    clear hs
    go_enter Try.func16, Try.ntmps16
    go_wp2_with fail
    refine (HS.out _ (Below.refl _ _)).mono ?_
    rintro e w2 ⟨rfl, hb⟩
    dsimp only
    have Hb := Lib.hid hb
    clear hb HS
    go_wp2
    refine bodyPost_ret (v := .tuple #[.slice none 0 0, .int .i64 v]) (by simp [results, Try.results16, go_sem]) rfl ?_
    exact ⟨Hb.out, .inr ⟨Hs.out, rfl⟩⟩
end Go.Proofs.Ytlkoiekdafaapaa
