/- The walk of matrix.Power. -/
import Derived.Test.YtlkoiekdafaapaaWA
import Derived.Test.YtlkoiekdafaapaaAlg
import Derived.Test.YtlkoiekdafaapaaInt12
namespace Go.Proofs.Ytlkoiekdafaapaa
open Go.RowKit Go.Shelf

theorem bitsN_fit {z : ZI} (h : z.mag.size ≤ 100000000) : bitsN (absZ z) ≤ 6400000000 := by
  have h1 := digs_len_fit h
  unfold bitsN
  split
  · omega
  · have : Lib.bitLen ((digs (absZ z)).getD ((digs (absZ z)).length - 1) 0) ≤ 32 := Lib.bitLen_le _ 32 (by decide) ((dg_digs (absZ z)).getD _)
    omega
/-- The greatest of some numbers. -/
def mxC (b : Nat) (f : Nat → Nat) : Nat → Nat
  | 0 => b
  | k + 1 => max (mxC b f k) (f k)
def mxM (G : Nat → Nat → Nat) (c : Nat) : Nat → Nat
  | 0 => 0
  | i + 1 => mxC (mxM G c i) (G i) c
theorem mxC_le {b B : Nat} {f : Nat → Nat} {k : Nat} (hb : b ≤ B) (hf : ∀ j, j < k → f j ≤ B) : mxC b f k ≤ B := by
  induction k with
  | zero => exact hb
  | succ k ih => exact Nat.max_le.2 ⟨ih fun j hj => hf j (by omega), hf k (by omega)⟩
theorem mxM_le {B : Nat} {G : Nat → Nat → Nat} {c r : Nat} (hf : ∀ i k, i < r → k < c → G i k ≤ B) : mxM G c r ≤ B := by
  induction r with
  | zero => exact Nat.zero_le _
  | succ r ih => exact mxC_le (ih fun i k hi hk => hf i k (by omega) hk) fun j hj => hf r j (by omega) hj
def bitM (F : Nat → Nat → Int) (i k : Nat) : Nat := bitsN (F i k).natAbs
def powE (a : GM) (n : Int) : Int := if a.sq ≠ 0 then a.sq else if n < 0 ∨ 4096 < n then 2 else if 65536 < ((mxM (bitM a.F) a.r a.r + bitsN a.r : Nat) : Int) * n then 4 else 0
/-- All powers up to the one asked for are of moderate size. -/
def PowOk (r : Nat) (F : Nat → Nat → Int) (N : Nat) : Prop := (∀ u, u ≤ N → Small r r (powF r F u)) ∧ ∀ u v, u + v ≤ N → SmallP r r r (powF r F u) (powF r F v)
set_option maxRecDepth 100000 in
set_option maxHeartbeats 4000000 in
theorem pow_m (a : GM) (p : Option Addr) (cp : Nat) (n : Int) (hfa : a.Fit) (hok : powE a n = 0 → PowOk a.r a.F n.toNat) (w : World) (ha : a.At w p) :
    Calls Try.prog 15 #[.slice p a.r cp, .int .i64 n] w (RetMatE (powE a n) a.r a.r (powF a.r a.F n.toNat) w) := by
  have HS := Lib.hid (square_any a p cp hfa w ha)
  by_cases hs : a.sq = 0
  · obtain ⟨h1, h2, h3, h4⟩ := GM.sq_zero hs
    have hM := GM.mat ha h1
    rw [← h2] at hM
    rw [hs] at HS
    by_cases hn1 : n < 0
    · have hv : powE a n = 2 := by unfold powE; rw [if_neg (by omega), if_pos (.inl hn1)]
      rw [hv]
      clear hs h1 h2 h3 h4 hM hok hfa ha hv
      generalize powF a.r a.F n.toNat = D at *
      generalize a.r = r at *
      go_enter Try.func15, Try.ntmps15
      go_wp2_with fail
      refine HS.out.mono ?_
      rintro e w2 ⟨rfl, hb⟩
      dsimp only
      have Hb := Lib.hid hb
      clear hb HS
      go_wp2
      refine bodyPost_ret (v := .tuple #[.slice none 0 0, .int .i64 2]) (by simp [results, Try.results15, go_sem]) rfl ?_
      exact ⟨Hb.out, .inr ⟨by decide, rfl⟩⟩
    by_cases hn2 : n > 4096
    · have hv : powE a n = 2 := by unfold powE; rw [if_neg (by omega), if_pos (.inr hn2)]
      rw [hv]
      clear hs h1 h2 h3 h4 hM hok hfa ha hv
      generalize powF a.r a.F n.toNat = D at *
      generalize a.r = r at *
      go_enter Try.func15, Try.ntmps15
      go_wp2_with fail
      refine HS.out.mono ?_
      rintro e w2 ⟨rfl, hb⟩
      dsimp only
      have Hb := Lib.hid hb
      clear hb HS
      go_wp2
      refine bodyPost_ret (v := .tuple #[.slice none 0 0, .int .i64 2]) (by simp [results, Try.results15, go_sem]) rfl ?_
      exact ⟨Hb.out, .inr ⟨by decide, rfl⟩⟩
    have hv : powE a n = if 65536 < ((mxM (bitM a.F) a.r a.r + bitsN a.r : Nat) : Int) * n then 4 else 0 := by
      unfold powE; rw [if_neg (by omega), if_neg (by omega)]
    have hZ : ∀ i k, i < a.r → k < a.r → (canon (a.F i k)).mag.size ≤ 100000000 := by
      intro i k hi hk
      have hz := (GM.chk_zero h1).2.2.2.2.2 i hi k (by rw [(GM.chk_zero h1).2.2.2.2.1 i hi]; omega)
      show (canon (valZ (a.Z i k))).mag.size ≤ 100000000
      rw [← hz]
      exact (hfa.2 i hi).2 k (by rw [(GM.chk_zero h1).2.2.2.2.1 i hi]; omega)
    have hmx : mxM (bitM a.F) a.r a.r ≤ 6400000000 := mxM_le fun i k hi hk => by
      have := bitsN_fit (hZ i k hi hk)
      rwa [absZ_canon] at this
    have hbl : bitsN a.r ≤ 6400000000 := by
      have h := bitsN_fit (z := canon (a.r : Int)) (Nat.le_trans (canon_size (a.r : Int) (k := 4) (by omega)) (by decide))
      rwa [absZ_canon, Int.natAbs_natCast] at h
    have Hv := Lib.hid hv
    have HM := Lib.hid hM
    have HZ := Lib.hid hZ
    have Hok := Lib.hid hok
    have Hmx := Lib.hid hmx
    clear hs h1 h2 hM hok hfa ha hv hZ hmx
    generalize powE a n = v at *
    generalize a.F = F at *
    generalize a.r = r at *
    have r0 : (0 : Int) < (r : Int) := by omega
    go_enter Try.func15, Try.ntmps15
    go_wp2_with fail
    refine HS.out.mono ?_
    rintro e w2 ⟨rfl, hb⟩
    dsimp only
    have Hb := Lib.hid hb
    clear hb HS
    go_wp2_with fail
    go_loopw [7, 27] (fun b v wr => ∃ i : Nat, i ≤ r ∧ b = .int .i64 (mxM (bitM F) r i : Nat) ∧ v = .int .i64 i ∧ Hid (Below w.heap.size w wr)) (fun _ v _ => r - (intOf v).toNat)
    case atStart => exact ⟨0, by omega, by go_num, by go_num, Hb⟩
    case round =>
      clear Hb
      obtain ⟨i, hi, rfl, rfl, Hb⟩ := hrel
      by_cases hlt : i < r
      · have i0 : (0 : Int) ≤ (i : Int) := by omega
        have i1 : (i : Int) < (r : Int) := by omega
        obtain ⟨fb, fo, hpe, hfb, H, hH, hRr⟩ := HM.out.cells hlt
        rw [hpe]
        have a5 := cell_below Hb.out (hH i hlt)
        have HRi := Lib.hid (hRr i hlt)
        clear hH hRr
        go_wp2
        go_loopw [7, 33] (fun b v wr => ∃ k : Nat, k ≤ r ∧ b = .int .i64 (mxC (mxM (bitM F) r i) (bitM F i) k : Nat) ∧ v = .int .i64 k ∧ Hid (Below w.heap.size w wr)) (fun _ v _ => r - (intOf v).toNat)
        case atStart => exact ⟨0, by omega, by go_num, by go_num, Hb⟩
        case round =>
          clear Hb a5
          obtain ⟨k, hk, rfl, rfl, Hb⟩ := hrel
          by_cases hkl : k < r
          · have k0 : (0 : Int) ≤ (k : Int) := by omega
            have k1 : (k : Int) < (r : Int) := by omega
            obtain ⟨ab, ao, hqe, hab, hac⟩ := HRi.out.cells hkl
            obtain ⟨a6, a7⟩ := hac k hkl
            have a6 := cell_below Hb.out a6
            have a7 := cell_below Hb.out a7
            rw [hqe]
            have HB := Lib.hid (bits_any (canon (F i k)) (HZ.out i k hlt hkl))
            rw [absZ_canon] at HB
            clear hac
            go_wp2_with fail
            refine (HB.out _).mono ?_
            rintro e w3 ⟨rfl, hb3⟩
            dsimp only
            have Hb3 := Lib.hid (Hb.out.trans (((Below.refl wr.heap.size wr).alloc (Nat.le_refl _) (.cells #[.bool (canon (F i k)).neg, .string (canon (F i k)).mag] 27)).trans (hb3.mono (by simp)) |>.mono Hb.out.size))
            clear hb3 a6 a7 HB Hb
            have hmxe : max (mxC (mxM (bitM F) r i) (bitM F i) k : Int) (bitsN (F i k).natAbs : Int) = ((mxC (mxM (bitM F) r i) (bitM F i) (k + 1) : Nat) : Int) := by
              show _ = ((max (mxC (mxM (bitM F) r i) (bitM F i) k) (bitsN (F i k).natAbs) : Nat) : Int)
              omega
            go_wp2
            go_roundw
            case rel => exact ⟨k + 1, by omega, by rw [← hmxe], by go_num, Hb3⟩
            case measure => simp [intOf]; omega
          · have k1 : ¬ (k : Int) < (r : Int) := by omega
            have hke : k = r := by omega
            subst hke
            go_wp2
            go_roundw
            case rel => exact ⟨i + 1, by omega, rfl, by go_num, Hb⟩
            case measure => simp [intOf]; omega
      · have i1 : ¬ (i : Int) < (r : Int) := by omega
        have hie : i = r := by omega
        subst hie
        obtain ⟨N, rfl⟩ : ∃ N : Nat, n = N := ⟨n.toNat, by omega⟩
        have HO := Lib.hid (fun W => of_any (i : Int) (by omega) (by omega) W)
        have HB := Lib.hid (fun W => bits_any (canon (i : Int)) (Nat.le_trans (canon_size (i : Int) (k := 4) (by omega)) (by decide)) W)
        rw [absZ_canon, Int.natAbs_natCast] at HB
        have hmx := Hmx.out
        obtain ⟨X, hX⟩ : ∃ X : Nat, mxM (bitM F) i i + bitsN i = X := ⟨_, rfl⟩
        have hXl : X ≤ 12800000000 := by omega
        have hpl : X * N ≤ 12800000000 * 4096 := Nat.mul_le_mul hXl (by omega)
        have hpe : (X : Int) * (N : Int) = ((X * N : Nat) : Int) := by push_cast; rfl
        go_wp2_with fail
        refine (HO.out _).mono ?_
        rintro e w3 ⟨rfl, hb3⟩
        dsimp only
        have Hb3 := Lib.hid (Hb.out.trans (hb3.mono Hb.out.size))
        clear hb3 Hb HO
        go_wp2_with fail
        refine (HB.out _).mono ?_
        rintro e w4 ⟨rfl, hb4⟩
        dsimp only
        have Hb4 := Lib.hid (Hb3.out.trans (hb4.mono Hb3.out.size))
        clear hb4 Hb3 HB
        obtain ⟨Y, hY⟩ : ∃ Y : Nat, X * N = Y := ⟨_, rfl⟩
        rw [hY] at hpl hpe
        have hw : wrap64 (((mxM (bitM F) i i : Nat) + (bitsN i : Nat) : Int) * (N : Int)) = (Y : Int) := by
          rw [show ((mxM (bitM F) i i : Nat) + (bitsN i : Nat) : Int) = (X : Int) from by omega, hpe]
          exact IntWalk.wrap64_in _ ⟨by omega, by omega⟩
        have HvY : Hid (v = if 65536 < Y then 4 else 0) := Lib.hid (by
          rw [Hv.out, hX, hpe]
          by_cases h : 65536 < Y
          · rw [if_pos h, if_pos (by omega)]
          · rw [if_neg h, if_neg (by omega)])
        rw [Int.toNat_natCast] at Hok
        clear Hmx hX hXl hpl hpe hY
        by_cases hY : 65536 < Y
        · have y1 : 65536 < wrap64 (((mxM (bitM F) i i : Nat) + (bitsN i : Nat) : Int) * (N : Int)) := by rw [hw]; omega
          rw [if_pos hY] at HvY
          clear hY Hok HM HZ hw
          go_wp2
          refine bodyPost_ret (v := .tuple #[.slice none 0 0, .int .i64 4]) (by simp [results, Try.results15, go_sem]) rfl ?_
          exact ⟨Hb4.out, .inr ⟨by rw [HvY.out]; decide, by rw [HvY.out]⟩⟩
        · have y1 : ¬ 65536 < wrap64 (((mxM (bitM F) i i : Nat) + (bitsN i : Nat) : Int) * (N : Int)) := by rw [hw]; omega
          rw [if_neg hY] at HvY
          have hok := Hok.out HvY.out
          have Hok1 := Lib.hid hok.1
          have Hok2 := Lib.hid hok.2
          have HO := Lib.hid (fun W => of_any 1 (by omega) (by omega) W)
          have HS := Lib.hid (fun W => scalar_any 1 i (by omega) W)
          clear hY Hok HZ hok hw
          go_wp2_with fail
          refine (HO.out _).mono ?_
          rintro e w5 ⟨rfl, hb5⟩
          dsimp only
          have Hb5 := Lib.hid (Hb4.out.trans (hb5.mono Hb4.out.size))
          clear hb5 HO Hb4
          go_wp2_with fail
          refine (HS.out _).mono ?_
          rintro e w6 ⟨g, rfl, hown, hb6⟩
          dsimp only
          have Hb6 := Lib.hid (Hb5.out.trans (hb6.mono Hb5.out.size))
          have Ho : Hid (MatF w6 (some ⟨g, 0, none⟩) i i (powF i F 0)) := Lib.hid hown.mat
          have Hf : Hid (MatF w6 p i i (powF i F 1)) := Lib.hid ((HM.out.below (Nat.le_refl _) Hb6.out).congr fun a b ha hb => (powF_one i F a b ha).symm)
          clear hb6 HS Hb5 hown HM
          go_wp2
          go_loopw [1, 12, 13] (fun z y x wr => ∃ (m u v : Nat) (q1 q2 : Option Addr) (k1 k2 : Nat), z = .int .i64 m ∧ y = .slice q1 i k1 ∧ x = .slice q2 i k2 ∧ u + v * m = N ∧ m ≤ N ∧ Hid (MatF wr q1 i i (powF i F u)) ∧ Hid (MatF wr q2 i i (powF i F v)) ∧ Hid (Below w.heap.size w wr)) (fun z _ _ _ => (intOf z).toNat)
          case atStart => exact ⟨N, 0, 1, _, _, _, _, by go_num, rfl, rfl, by omega, Nat.le_refl _, Ho, Hf, Hb6⟩
          case round =>
            clear Hb6 Ho Hf
            obtain ⟨m, u, v, q1, q2, k1, k2, rfl, rfl, rfl, hN, hmN, Ho, Hf, Hb⟩ := hrel
            have HP1 := Lib.hid (fun (W : World) (q1 q2 : Option Addr) (k1 k2 : Nat) (hu : u + v ≤ N) (h1 : MatF W q1 i i (powF i F u)) (h2 : MatF W q2 i i (powF i F v)) => product_any i i i q1 q2 k1 k2 (powF i F u) (powF i F v) h3 (by omega) (by omega) (by omega) W h1 h2 (Hok1.out u (by omega)) (Hok1.out v (by omega)) (Hok2.out u v hu))
            have HP2 := Lib.hid (fun (W : World) (q2 : Option Addr) (k2 : Nat) (hu : v + v ≤ N) (h2 : MatF W q2 i i (powF i F v)) => product_any i i i q2 q2 k2 k2 (powF i F v) (powF i F v) h3 (by omega) (by omega) (by omega) W h2 h2 (Hok1.out v (by omega)) (Hok1.out v (by omega)) (Hok2.out v v hu))
            have hpw : ∀ x y a b, a < i → b < i → mulF i (powF i F x) (powF i F y) a b = powF i F (x + y) a b := fun x y a b _ hb => powF_add i F x y a b hb
            have Hpw := Lib.hid hpw
            have HN := Lib.hid hN
            have HvN : Hid (v * 2 ≤ v * m ∨ m < 2) := Lib.hid (by
              by_cases h : m < 2
              · exact .inr h
              · exact .inl (Nat.mul_le_mul_left _ (by omega)))
            have HvN1 : Hid (v ≤ v * m ∨ m = 0) := Lib.hid (by
              by_cases h : m = 0
              · exact .inr h
              · exact .inl (Nat.le_mul_of_pos_right _ (by omega)))
            have HvH : Hid (v * m = (v + v) * (m / 2) + v * (m % 2)) := Lib.hid (by
              have h := Nat.div_add_mod m 2
              calc v * m = v * (2 * (m / 2) + m % 2) := by rw [h]
                _ = (v + v) * (m / 2) + v * (m % 2) := by rw [Nat.mul_add, ← Nat.mul_assoc, Nat.mul_two])
            clear hpw hN
            by_cases hm0 : m = 0
            · subst hm0
              have hu : u = N := by have := HN.out; omega
              subst hu
              go_wp2
              refine bodyPost_ret (v := .tuple #[.slice q1 i k1, .int .i64 0]) (by simp [results, Try.results15, go_sem]) rfl ?_
              exact ⟨Hb.out, .inl ⟨HvY.out, _, _, rfl, Ho.out⟩⟩
            have m0 : (m : Int) > 0 := by omega
            have hv1 : v ≤ v * m := by have := HvN1.out; omega
            by_cases hodd : m % 2 = 1
            · have e1 : ((m : Int) % 2 == 1) = true := by rw [beq_iff_eq]; omega
              have huv : u + v ≤ N := by have := HN.out; omega
              by_cases hm1 : m = 1
              · subst hm1
                go_wp2_with fail
                refine (HP1.out _ q1 q2 k1 k2 huv Ho.out Hf.out).mono ?_
                rintro e w7 ⟨g7, rfl, hown, hb7⟩
                dsimp only
                have Hb7 := Lib.hid (Hb.out.trans (hb7.mono Hb.out.size))
                have Ho7 : Hid (MatF w7 (some ⟨g7, 0, none⟩) i i (powF i F (u + v))) := Lib.hid (hown.mat.congr fun a b ha hb => Hpw.out u v a b ha hb)
                have Hf7 : Hid (MatF w7 q2 i i (powF i F v)) := Lib.hid (Hf.out.below (Nat.le_refl _) hb7)
                clear hb7 hown
                go_wp2
                go_roundw
                case rel => exact ⟨0, u + v, v, _, _, _, _, by go_num, rfl, rfl, by have := HN.out; omega, by omega, Ho7, Hf7, Hb7⟩
                case measure => simp [intOf]
              · have m1 : (m : Int) > 1 := by omega
                have hvv : v + v ≤ N := by have := HN.out; have := HvN.out; omega
                go_wp2_with fail
                refine (HP1.out _ q1 q2 k1 k2 huv Ho.out Hf.out).mono ?_
                rintro e w7 ⟨g7, rfl, hown, hb7⟩
                dsimp only
                have Hb7 := Lib.hid (Hb.out.trans (hb7.mono Hb.out.size))
                have Ho7 : Hid (MatF w7 (some ⟨g7, 0, none⟩) i i (powF i F (u + v))) := Lib.hid (hown.mat.congr fun a b ha hb => Hpw.out u v a b ha hb)
                have Hf7 : Hid (MatF w7 q2 i i (powF i F v)) := Lib.hid (Hf.out.below (Nat.le_refl _) hb7)
                clear hb7 hown
                go_wp2_with fail
                refine (HP2.out _ q2 k2 hvv Hf7.out).mono ?_
                rintro e w8 ⟨g8, rfl, hown, hb8⟩
                dsimp only
                have Hb8 := Lib.hid (Hb7.out.trans (hb8.mono Hb7.out.size))
                have Hf8 : Hid (MatF w8 (some ⟨g8, 0, none⟩) i i (powF i F (v + v))) := Lib.hid (hown.mat.congr fun a b ha hb => Hpw.out v v a b ha hb)
                have Ho8 := Lib.hid (Ho7.out.below (Nat.le_refl _) hb8)
                clear hb8 hown
                go_wp2
                go_roundw
                case rel => exact ⟨m / 2, u + v, v + v, _, _, _, _, by go_num, rfl, rfl, by have := HN.out; have h := HvH.out; rw [hodd, Nat.mul_one] at h; omega, by omega, Ho8, Hf8, Hb8⟩
                case measure => simp [intOf]; omega
            · have e1 : ((m : Int) % 2 == 1) = false := by rw [beq_eq_false_iff_ne]; omega
              have m1 : (m : Int) > 1 := by omega
              have hvv : v + v ≤ N := by have := HN.out; have := HvN.out; omega
              go_wp2_with fail
              refine (HP2.out _ q2 k2 hvv Hf.out).mono ?_
              rintro e w8 ⟨g8, rfl, hown, hb8⟩
              dsimp only
              have Hb8 := Lib.hid (Hb.out.trans (hb8.mono Hb.out.size))
              have Hf8 : Hid (MatF w8 (some ⟨g8, 0, none⟩) i i (powF i F (v + v))) := Lib.hid (hown.mat.congr fun a b ha hb => Hpw.out v v a b ha hb)
              have Ho8 := Lib.hid (Ho.out.below (Nat.le_refl _) hb8)
              clear hb8 hown
              go_wp2
              go_roundw
              case rel => exact ⟨m / 2, u, v + v, _, _, _, _, by go_num, rfl, rfl, by have := HN.out; have h := HvH.out; rw [show m % 2 = 0 from by omega, Nat.mul_zero] at h; omega, by omega, Ho8, Hf8, Hb8⟩
              case measure => simp [intOf]; omega
  · have hv : powE a n = a.sq := by unfold powE; rw [if_pos hs]
    rw [hv]
    clear hok hfa ha hv
    generalize powF a.r a.F n.toNat = D at *
    generalize a.sq = v at *
    generalize a.r = r at *
    have e1 : (v != 0) = true := by rw [bne_iff_ne]; exact hs
    have Hs := Lib.hid hs
    clear hs
    go_enter Try.func15, Try.ntmps15
    go_wp2_with fail
    refine HS.out.mono ?_
    rintro e w2 ⟨rfl, hb⟩
    dsimp only
    have Hb := Lib.hid hb
    clear hb HS
    go_wp2
    refine bodyPost_ret (v := .tuple #[.slice none 0 0, .int .i64 v]) (by simp [results, Try.results15, go_sem]) rfl ?_
    exact ⟨Hb.out, .inr ⟨Hs.out, rfl⟩⟩
end Go.Proofs.Ytlkoiekdafaapaa
