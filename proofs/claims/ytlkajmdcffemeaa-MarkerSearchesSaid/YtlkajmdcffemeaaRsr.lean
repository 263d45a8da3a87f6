/- The walks of grooveref49.Search and GreatList. -/
import Derived.Test.YtlkajmdcffemeaaRvV
import Derived.Test.YtlkajmdcffemeaaRnx
import Derived.Test.YtlkajmdcffemeaaWf
namespace Go.Proofs.Ytlkajmdcffemeaa
open Go.RowKit

theorem NoneBefore.weak {b : Nat} {ws : List ByteArray} {n k : Nat} (h : NoneBefore b ws n k) : NoneBefore b ws n 0 := fun n' k' h1 h2 h3 => h n' k' h1 h2 (by omega)

set_option maxRecDepth 100000 in
set_option maxHeartbeats 4000000 in
theorem refSearch_any (b most : Int) (ws : List ByteArray) (p : Option Addr) (c : Nat) (hl : ws.length ≤ 100000) (hx : ∀ x ∈ ws, x.size ≤ maxLen) (hc : ws.length ≤ c) (hc2 : c ≤ maxLen) (w : World) (hS : StrsAt w p ws) :
    Calls Try.prog 37 #[.int .i64 b, .int .i64 most, .slice p ws.length c] w (RetSrch b most ws w) := by
  have HS := Lib.hid hS
  have hE : srchErr b most ws = if b < 1 ∨ 16 < b then 2 else if most < 1 ∨ 16 < most then 2 else wordsErr b.toNat most.toNat ws := rfl
  unfold RetSrch
  generalize srchErr b most ws = E at *
  clear hS
  by_cases hbad : (b < 1 ∨ 16 < b) ∨ (most < 1 ∨ 16 < most)
  · have HE : Hid (E = 2) := Lib.hid (by
      rw [hE]
      by_cases h1 : b < 1 ∨ 16 < b
      · rw [if_pos h1]
      · rw [if_neg h1, if_pos (by rcases hbad with h | h; exact absurd h h1; exact h)])
    clear hE
    have hd1 : (b < 1) ∨ ¬ (b < 1) := by omega
    by_cases g1 : b < 1
    · clear hbad hd1
      go_enter Try.func37, Try.ntmps37
      go_wp2
      go_ret2
      exact ⟨_, _, rfl, fun _ => ⟨HE.out.symm, rfl⟩, fun h => (by rw [HE.out] at h; cases h), Below.refl _ _⟩
    · by_cases g2 : 16 < b
      · clear hbad hd1
        go_enter Try.func37, Try.ntmps37
        go_wp2
        go_ret2
        exact ⟨_, _, rfl, fun _ => ⟨HE.out.symm, rfl⟩, fun h => (by rw [HE.out] at h; cases h), Below.refl _ _⟩
      · by_cases g3 : most < 1
        · clear hbad hd1
          go_enter Try.func37, Try.ntmps37
          go_wp2
          go_ret2
          exact ⟨_, _, rfl, fun _ => ⟨HE.out.symm, rfl⟩, fun h => (by rw [HE.out] at h; cases h), Below.refl _ _⟩
        · have g4 : 16 < most := by omega
          clear hbad hd1
          go_enter Try.func37, Try.ntmps37
          go_wp2
          go_ret2
          exact ⟨_, _, rfl, fun _ => ⟨HE.out.symm, rfl⟩, fun h => (by rw [HE.out] at h; cases h), Below.refl _ _⟩
  · rw [if_neg (by omega), if_neg (by omega)] at hE
    obtain ⟨n, rfl⟩ : ∃ n : Nat, b = n := ⟨b.toNat, by omega⟩
    obtain ⟨M, rfl⟩ : ∃ M : Nat, most = M := ⟨most.toNat, by omega⟩
    rw [Int.toNat_natCast, Int.toNat_natCast] at hE
    rw [Int.toNat_natCast, Int.toNat_natCast]
    have hn1 : 1 ≤ n := by omega
    have hn2 : n ≤ 16 := by omega
    have hM1 : 1 ≤ M := by omega
    have hM2 : M ≤ 16 := by omega
    have HW := Lib.hid (refCheckWords_any n M ws p c (by omega) (by omega) hl hx w HS.out)
    have hwok := @wordsErr_ok n M ws
    have g1 : ¬ ((n : Int) < 1) := by omega
    have g2 : ¬ ((16 : Int) < (n : Int)) := by omega
    have g3 : ¬ ((M : Int) < 1) := by omega
    have g4 : ¬ ((16 : Int) < (M : Int)) := by omega
    have HE := Lib.hid hE
    clear hE hbad hx
    generalize wordsErr n M ws = e1 at *
    by_cases h3 : e1 = 0
    · obtain ⟨hs1, hs2⟩ := hwok h3
      have h3b : (e1 != 0) = false := by rw [h3]; rfl
      have HE0 : Hid (E = 0) := Lib.hid (HE.out.trans h3)
      have HV : Hid (∀ (N k : Nat), 1 ≤ N → N ≤ M → ∀ W, StrsAt W p ws → Calls Try.prog 59 #[.int .i64 (n : Int), .string (mkW N k), .slice p ws.length c] W (RetIff (ValidP n (mkW N k) ws) W)) := Lib.hid (fun N k h1 h2 W hW =>
        refValid_any n (mkW N k) ws p c hn1 (by omega) (by rw [mkW_size]; exact h1) (by rw [mkW_size]; omega) hs1 (by rw [mkW_size]; exact Nat.le_trans (Nat.mul_le_mul_left _ (show n + N ≤ n + M by omega)) hs2) hc hc2 W hW)
      clear hwok h3 hs1 hs2 HE
      go_enter Try.func37, Try.ntmps37
      go_wp2_with (go_at_call 58; go_fit HW.out; rintro e w2 ⟨rfl, hd⟩; have HS2 := Lib.hid (HS.out.below (Nat.le_refl _) (Drawn.below hd _)); have Hb2 := Lib.hid (Drawn.below hd w.heap.size); clear hd)
      go_loopg [9] (2 ^ (M + 2)) (fun g u wr => ∃ N k : Nat, 1 ≤ N ∧ k < 2 ^ N ∧ u = .string (mkW N k) ∧ N ≤ M + 1 ∧ 2 ^ (M + 2) - (2 ^ N + k) ≤ g ∧ Hid (Below w.heap.size w wr) ∧ Hid (NoneBefore n ws N k))
      case atStart => exact ⟨1, 0, by omega, by decide, by rfl, by omega, Nat.sub_le _ _, Hb2, Lib.hid (NoneBefore.one _ _)⟩
      case round =>
        obtain ⟨N, k, hN, hk, rfl, hle, hg, Hb, HNB⟩ := hrel
        by_cases hNM : N ≤ M
        · have hszI : ((mkW N k).size : Int) ≤ (M : Int) := by rw [mkW_size]; omega
          have HSr := Lib.hid (HS.out.below (Nat.le_refl _) Hb.out)
          have HVd := Lib.hid (HV.out N k hN hNM wr HSr.out)
          have HNx := Lib.hid (fun W => refNext_any N k hN (by omega) hk W)
          obtain ⟨n', k', hnx, hk', hsum, hcase⟩ := nextW_cases N k hk
          rw [hnx] at HNx
          have hle' : n' ≤ M + 1 := by rcases hcase with ⟨rfl, rfl⟩ | ⟨rfl, rfl, hfull⟩ <;> omega
          have hn' : 1 ≤ n' := by rcases hcase with ⟨rfl, _⟩ | ⟨rfl, _, _⟩ <;> omega
          have hup : 2 ^ N + k < 2 ^ (M + 2) := pow_mono_lt hk (by omega)
          have hmeas : 2 ^ (M + 2) - (2 ^ n' + k') < 2 ^ (M + 2) - (2 ^ N + k) := by omega
          have Hmeas := Lib.hid (Nat.lt_of_lt_of_le hmeas hg)
          have Hk' := Lib.hid hk'
          have Hk := Lib.hid hk
          have HNn : Hid (¬ ValidP n (mkW N k) ws → NoneBefore n ws n' k') := Lib.hid (fun hv => by
            have h2 := HNB.out.step hv
            rcases hcase with ⟨rfl, rfl⟩ | ⟨rfl, rfl, hfull⟩
            · exact h2
            · exact h2.next (by omega))
          obtain ⟨u, hu⟩ : ∃ u, mkW N k = u := ⟨_, rfl⟩
          rw [hu] at hszI HVd HNx HNn ⊢
          have Hu := Lib.hid hu
          clear hu hcase hsum hup hmeas hg hk' hk
          go_wp2_with fail
          refine HVd.out.mono ?_
          rintro e w6 ⟨v, rfl, hv, hb⟩
          have Hv := Lib.hid hv
          have Hb6 := Lib.hid (below_then Hb.out Hb.out.size hb)
          clear hv hb
          cases v
          · have HNB2 := Lib.hid (HNn.out (fun h => absurd (Hv.out.2 h) (by decide)))
            go_wp2_with fail
            refine (HNx.out _).mono ?_
            rintro e w7 ⟨rfl, hb⟩
            have Hb7 := Lib.hid (below_then Hb6.out Hb6.out.size hb)
            clear hb
            go_wp2_with fail
            go_roundg (2 ^ (M + 2) - (2 ^ n' + k'))
            case measure => exact Hmeas.out
            case rel => exact ⟨n', k', hn', Hk'.out, rfl, hle', Nat.le_refl _, Hb7, HNB2⟩
          · have HVV := Lib.hid (Hv.out.1 rfl)
            go_wp2
            go_ret2
            exact ⟨u, 0, rfl, fun h => absurd HE0.out h, fun _ => .inl ⟨rfl, N, k, hN, hNM, Hk.out, Hu.out.symm, by rw [Hu.out]; exact HVV.out, HNB.out⟩, Hb6.out⟩
        · have hszI : ¬ ((mkW N k).size : Int) ≤ (M : Int) := by rw [mkW_size]; omega
          have HNB2 : Hid (NoneBefore n ws (M + 1) 0) := Lib.hid (by rw [show M + 1 = N from by omega]; exact HNB.out.weak)
          generalize mkW N k = u at *
          clear hg
          go_wp2
          go_ret2
          exact ⟨_, _, rfl, fun h => absurd HE0.out h, fun _ => .inr ⟨rfl, rfl, HNB2.out⟩, Hb.out⟩
    · have h3b : (e1 != 0) = true := by rw [bne_iff_ne]; exact h3
      have HE0 : Hid (E = e1) := HE
      have H3 := Lib.hid h3
      clear hwok h3 HE
      go_enter Try.func37, Try.ntmps37
      go_wp2_with (go_at_call 58; go_fit HW.out; rintro e w2 ⟨rfl, hd⟩; have Hb2 := Lib.hid (Drawn.below hd w.heap.size); clear hd)
      go_ret2
      exact ⟨_, _, rfl, fun _ => ⟨HE0.out.symm, rfl⟩, fun h => absurd (HE0.out.symm.trans h) H3.out, Hb2.out⟩

def RetGL (ws : List ByteArray) (w : World) (e : Ending) (w' : World) : Prop := ∃ v : Bool, e = .returned (.bool v) ∧ (v = false → ws.length ≤ 1100) ∧ Drawn w w'
set_option maxRecDepth 100000 in
set_option maxHeartbeats 2000000 in
/-- GreatList: where it says no, there are few words. -/
theorem greatList_any (ws : List ByteArray) (p : Option Addr) (c : Nat) (hl : ws.length ≤ maxLen) (w : World) (hS : StrsAt w p ws) :
    Calls Try.prog 34 #[.slice p ws.length c] w (RetGL ws w) := by
  have HS := Lib.hid hS
  clear hS
  unfold maxLen at hl
  by_cases h4 : 4 < ws.length
  · have h4D : decide ((4 : Int) < (ws.length : Int)) = true := by rw [decide_eq_true_eq]; omega
    by_cases h600 : ws.length ≤ 600
    · have h600D : decide ((ws.length : Int) ≤ 600) = true := by rw [decide_eq_true_eq]; omega
      go_enter Try.func34, Try.ntmps34
      go_wp2
      go_ret
      exact ⟨true, rfl, fun h => (by cases h), Drawn.refl _⟩
    · have h600D : decide ((ws.length : Int) ≤ 600) = false := by rw [decide_eq_false_iff_not]; omega
      by_cases h1100 : 1100 < ws.length
      · have h1100D : decide ((1100 : Int) < (ws.length : Int)) = true := by rw [decide_eq_true_eq]; omega
        go_enter Try.func34, Try.ntmps34
        go_wp2
        go_ret
        exact ⟨true, rfl, fun h => (by cases h), Drawn.refl _⟩
      · have h1100D : decide ((1100 : Int) < (ws.length : Int)) = false := by rw [decide_eq_false_iff_not]; omega
        go_enter Try.func34, Try.ntmps34
        go_wp2
        go_loop [3] (fun v => ∃ i : Nat, i ≤ ws.length ∧ v = .int .i64 i) (fun v => ws.length - (intOf v).toNat)
        case atStart => exact ⟨0, by omega, rfl⟩
        case round =>
          obtain ⟨i, hi, rfl⟩ := hrel
          by_cases hlt : i < ws.length
          · obtain ⟨ab, ao, rfl, hab, hca⟩ := StrsAt.cells HS.out hlt
            have hxa := hca i hlt
            obtain ⟨x, hxe⟩ : ∃ x, ws.getD i ByteArray.empty = x := ⟨_, rfl⟩
            rw [hxe] at hxa
            have i0 : (0 : Int) ≤ (i : Int) := by omega
            have i1 : (i : Int) < (ws.length : Int) := by omega
            clear hca hxe
            by_cases h6 : 6 < x.size
            · have h6D : decide ((6 : Int) < (x.size : Int)) = true := by rw [decide_eq_true_eq]; omega
              by_cases hm : x.size ≤ 65536
              · have hmD : decide ((x.size : Int) ≤ 65536) = true := by rw [decide_eq_true_eq]; omega
                go_wp2
                go_ret
                exact ⟨true, rfl, fun h => (by cases h), Drawn.refl _⟩
              · have hmD : decide ((x.size : Int) ≤ 65536) = false := by rw [decide_eq_false_iff_not]; omega
                go_wp2
                go_round
                case rel => exact ⟨i + 1, by omega, by go_num⟩
                case measure => simp [intOf]; omega
            · have h6D : decide ((6 : Int) < (x.size : Int)) = false := by rw [decide_eq_false_iff_not]; omega
              go_wp2
              go_round
              case rel => exact ⟨i + 1, by omega, by go_num⟩
              case measure => simp [intOf]; omega
          · have i1 : ¬ (i : Int) < (ws.length : Int) := by omega
            have HL : Hid (ws.length ≤ 1100) := Lib.hid (by omega)
            go_wp2
            go_ret
            exact ⟨false, rfl, fun _ => HL.out, Drawn.refl _⟩
  · have h4D : decide ((4 : Int) < (ws.length : Int)) = false := by rw [decide_eq_false_iff_not]; omega
    have h1100D : decide ((1100 : Int) < (ws.length : Int)) = false := by rw [decide_eq_false_iff_not]; omega
    go_enter Try.func34, Try.ntmps34
    go_wp2
    go_loop [3] (fun v => ∃ i : Nat, i ≤ ws.length ∧ v = .int .i64 i) (fun v => ws.length - (intOf v).toNat)
    case atStart => exact ⟨0, by omega, rfl⟩
    case round =>
      obtain ⟨i, hi, rfl⟩ := hrel
      by_cases hlt : i < ws.length
      · obtain ⟨ab, ao, rfl, hab, hca⟩ := StrsAt.cells HS.out hlt
        have hxa := hca i hlt
        obtain ⟨x, hxe⟩ : ∃ x, ws.getD i ByteArray.empty = x := ⟨_, rfl⟩
        rw [hxe] at hxa
        have i0 : (0 : Int) ≤ (i : Int) := by omega
        have i1 : (i : Int) < (ws.length : Int) := by omega
        clear hca hxe
        by_cases h6 : 6 < x.size
        · have h6D : decide ((6 : Int) < (x.size : Int)) = true := by rw [decide_eq_true_eq]; omega
          by_cases hm : x.size ≤ 65536
          · have hmD : decide ((x.size : Int) ≤ 65536) = true := by rw [decide_eq_true_eq]; omega
            go_wp2
            go_ret
            exact ⟨true, rfl, fun h => (by cases h), Drawn.refl _⟩
          · have hmD : decide ((x.size : Int) ≤ 65536) = false := by rw [decide_eq_false_iff_not]; omega
            go_wp2
            go_round
            case rel => exact ⟨i + 1, by omega, by go_num⟩
            case measure => simp [intOf]; omega
        · have h6D : decide ((6 : Int) < (x.size : Int)) = false := by rw [decide_eq_false_iff_not]; omega
          go_wp2
          go_round
          case rel => exact ⟨i + 1, by omega, by go_num⟩
          case measure => simp [intOf]; omega
      · have i1 : ¬ (i : Int) < (ws.length : Int) := by omega
        have HL : Hid (ws.length ≤ 1100) := Lib.hid (by omega)
        go_wp2
        go_ret
        exact ⟨false, rfl, fun _ => HL.out, Drawn.refl _⟩
end Go.Proofs.Ytlkajmdcffemeaa
