/- The walk of MarkerFirst. -/
import Derived.Test.YtlkajmdcffemeaaWf
import Derived.Test.YtlkajmdcffemeaaAwk
namespace Go.Proofs.Ytlkajmdcffemeaa
open Go.RowKit

theorem str_eqT {a b : ByteArray} (h : a = b) : (a.toList == b.toList) = true := by rw [h]; exact beq_self_eq_true _
theorem str_eqF {a b : ByteArray} (h : a ≠ b) : (a.toList == b.toList) = false := by
  rw [beq_eq_false_iff_ne]
  intro e
  refine h (ByteArray.ext (Array.ext' ?_))
  rw [ByteArray.toList_eq, ByteArray.toList_eq] at e; exact e
theorem mkW_ne {n k n' k' : Nat} (h : mkW n k ≠ mkW n' k') : n ≠ n' ∨ k ≠ k' := by
  by_cases e : n = n'
  · subst e
    right; intro e2; subst e2; exact h rfl
  · exact .inl e

set_option maxRecDepth 100000 in
set_option maxHeartbeats 16000000 in
theorem firstLaw (x y : Nat) (p : Option Addr) (c : Nat) (xs : List Nat) (w : World) (hx : x ≤ 255) (hy : y ≤ 255) (hX : ByteAt w p xs) (hx256 : ∀ x ∈ xs, x < 256) (_hxl : xs.length ≤ maxLen) :
    Calls Try.prog 10 #[.int .u8 (x : Int), .int .u8 (y : Int), .slice p xs.length c] w fun e w' => e = .returned (.bool true) ∧ Below w.heap.size w w' := by
  have HX := Lib.hid hX
  clear hX
  by_cases h3 : 3 < xs.length
  · have h3I : (3 : Int) < (xs.length : Int) := by omega
    go_enter Try.func10, Try.ntmps10
    go_wp2_with (go_at_call 12; go_fit (awake_any _); rintro e w2 ⟨rfl, hb2⟩; have Hb2 := Lib.hid hb2; clear hb2)
    go_ret
    exact ⟨rfl, Hb2.out⟩
  · have h3I : ¬ (3 : Int) < (xs.length : Int) := by omega
    obtain ⟨b, hb, hb1, hb2⟩ : ∃ b : Nat, (1 : Int) + (x : Int) % 6 = (b : Int) ∧ 1 ≤ b ∧ b ≤ 6 := ⟨1 + x % 6, by omega, by omega, by omega⟩
    obtain ⟨M, hM, hM1, hM2⟩ : ∃ M : Nat, (1 : Int) + (y : Int) % 4 = (M : Int) ∧ 1 ≤ M ∧ M ≤ 4 := ⟨1 + y % 4, by omega, by omega, by omega⟩
    have hw := show Wds b (blkWs b xs) from wds_bits (by omega)
    have hwl : (blkWs b xs).length = xs.length := by unfold blkWs; rw [List.length_map]
    have hBl := fun W hW => blocksL_any b (by omega) xs hx256 p c W hW (by omega)
    generalize blkWs b xs = ws at *
    have hsz : ∀ x ∈ ws, x.size ≤ maxLen := fun x hx => by rw [hw.size x hx]; unfold maxLen; omega
    have HS1 := Lib.hid (fun p c W hW => Search_any (b : Int) (M : Int) ws p c (by omega) hsz W hW)
    have HS2 := Lib.hid (fun p c W hW => Search_any (b : Int) ((M + 1 : Nat) : Int) ws p c (by omega) hsz W hW)
    have HVal := Lib.hid (fun n k (h1 : 1 ≤ n) (h2 : n ≤ 8) p c W hW => Valid_any (b : Int) (mkW n k) ws p c (by rw [mkW_size]; unfold maxLen; omega) (by omega) hsz W hW)
    have hve := fun n k h1 h2 => validErr_mk (b := b) (n := n) (k := k) ⟨hb1, hb2⟩ ⟨h1, h2⟩ hw
    have hse1 := srchErr_fine (b := b) (M := M) ⟨hb1, hb2⟩ ⟨hM1, by omega⟩ hw
    have hse2 := srchErr_fine (b := b) (M := M + 1) ⟨hb1, hb2⟩ ⟨by omega, by omega⟩ hw
    unfold RetSrch at HS1 HS2
    rw [hse1] at HS1
    rw [hse2] at HS2
    rw [Int.toNat_natCast, Int.toNat_natCast] at HS1
    rw [Int.toNat_natCast, Int.toNat_natCast] at HS2
    have HVal2 : Hid (∀ n k, 1 ≤ n → n ≤ 8 → ∀ p c W, StrsAt W p ws → Calls Try.prog 33 #[.int .i64 (b : Int), .string (mkW n k), .slice p ws.length c] W (RetVal 0 (ValidP b (mkW n k) ws) W)) := Lib.hid (fun n k h1 h2 p c W hW => by
      have h := HVal.out n k h1 h2 p c W hW
      rw [hve n k h1 h2, Int.toNat_natCast] at h; exact h)
    have HBl := Lib.hid hBl
    obtain ⟨M1, hM1e⟩ : ∃ M1, M + 1 = M1 := ⟨_, rfl⟩
    rw [hM1e] at HS2
    have hMp : ((M : Int) + 1) = (M1 : Int) := by omega
    have HM1 := Lib.hid hM1e
    clear hve hse1 hse2 HVal hBl hw hsz hwl hM1e
    go_enter Try.func10, Try.ntmps10
    go_wp2_with fail
    refine (HBl.out _ HX.out).mono ?_
    rintro e w2 ⟨v, rfl, ho, hb⟩
    obtain ⟨p2, c2, rfl, _, hS, _⟩ := ho.form
    have HS := Lib.hid hS
    have Hw2 := Lib.hid hb
    clear ho hb hS
    go_wp2_with fail
    refine (HS1.out p2 c2 _ HS.out).mono ?_
    rintro e w3 ⟨s, E, rfl, _, hsp0, hb⟩
    have hsp := hsp0 (by first | trivial | rfl)
    have HS := Lib.hid (HS.out.below (Nat.le_refl _) hb)
    have Hw3 := Lib.hid (below_then Hw2.out Hw2.out.size hb)
    have Hsp := Lib.hid hsp
    clear hb hsp0 hsp
    go_wp2_with fail
    refine (HS2.out p2 c2 _ HS.out).mono ?_
    rintro e w4 ⟨s', E', rfl, _, hsp0, hb⟩
    have hsp := hsp0 (by first | trivial | rfl)
    have HS := Lib.hid (HS.out.below (Nat.le_refl _) hb)
    have Hw4 := Lib.hid (below_then Hw3.out Hw3.out.size hb)
    have Hsp2 := Lib.hid hsp
    clear hb hsp0 hsp
    rcases Hsp.out with ⟨rfl, n0, k0, hn1, hn2, hk0, hs, hv0, hnb⟩ | ⟨rfl, rfl, hnb⟩
    · have hmore : s' = s ∧ E' = 0 := srch_more Hsp.out (by rw [HM1.out]; exact Hsp2.out)
      obtain ⟨rfl, rfl⟩ := hmore
      have hst : (s'.toList != s'.toList) = false := bne_self_eq_false _
      have hst2 : (s'.toList == s'.toList) = true := beq_self_eq_true _
      have Hs := Lib.hid hs
      have Hv0 := Lib.hid hv0
      have Hnb := Lib.hid hnb
      clear hs hv0 hnb Hsp Hsp2
      go_wp2
      go_loopg [14] (2 ^ (M + 2)) (fun g u wr => ∃ n k : Nat, 1 ≤ n ∧ k < 2 ^ n ∧ u = .string (mkW n k) ∧ (n < n0 ∨ n = n0 ∧ k ≤ k0) ∧ 2 ^ (M + 2) - (2 ^ n + k) ≤ g ∧ Hid (StrsAt wr p2 ws) ∧ Hid (Below w.heap.size w wr))
      case atStart => exact ⟨1, 0, by omega, by decide, by rfl, by rcases Nat.lt_or_ge 1 n0 with h | h <;> first | exact .inl h | exact .inr ⟨by omega, by omega⟩, Nat.sub_le _ _, HS, Hw4⟩
      case round =>
        clear HS Hw4
        obtain ⟨n, k, hn, hk, rfl, hle, hg, HS, Hb⟩ := hrel
        have hnM : n ≤ M := by omega
        have hszI : ((mkW n k).size : Int) ≤ (M : Int) := by rw [mkW_size]; omega
        obtain ⟨u, hu⟩ : ∃ u, mkW n k = u := ⟨_, rfl⟩
        rw [hu] at hszI ⊢
        have Hu := Lib.hid hu
        by_cases heq : u = s'
        · have heqb := str_eqT heq
          have HVd := Lib.hid (HVal2.out n0 k0 hn1 (by omega) p2 c2 wr HS.out)
          rw [← Hs.out] at HVd
          clear heq
          go_wp2_with fail
          refine HVd.out.mono ?_
          rintro e w6 ⟨v, rfl, hv, hb⟩
          have hvt : v = true := hv.2 ⟨rfl, by rw [Hs.out]; exact Hv0.out⟩
          subst hvt
          have Hb6 := Lib.hid (below_then Hb.out Hb.out.size hb)
          clear hv hb
          go_wp2_with (go_at_call 12; go_fit (awake_any _); rintro e wz ⟨rfl, hbz⟩; have Hbz := Lib.hid hbz; clear hbz)
          go_ret
          exact ⟨rfl, below_then Hb6.out Hb6.out.size Hbz.out⟩
        · have heqb := str_eqF heq
          have hlt : n < n0 ∨ n = n0 ∧ k < k0 := by
            rcases hle with h | ⟨h1, h2⟩
            · exact .inl h
            · refine .inr ⟨h1, ?_⟩
              rcases Nat.lt_or_ge k k0 with h3 | h3
              · exact h3
              · exfalso; apply heq; rw [← Hu.out, Hs.out, h1, show k = k0 from by omega]
          have HVd := Lib.hid (HVal2.out n k hn (by omega) p2 c2 wr HS.out)
          rw [Hu.out] at HVd
          have HNx := Lib.hid (fun W => Next_any n k hn (by omega) hk W)
          rw [Hu.out] at HNx
          obtain ⟨n', k', hnx, hk', hsum, hcase⟩ := nextW_cases n k hk
          rw [hnx] at HNx
          have hnv : ¬ ValidP b u ws := by rw [← Hu.out]; exact Hnb.out n k hn hk hlt
          have Hnv := Lib.hid hnv
          have hle' : n' < n0 ∨ n' = n0 ∧ k' ≤ k0 := by
            rcases hcase with ⟨rfl, rfl⟩ | ⟨rfl, rfl, hfull⟩
            · omega
            · rcases hlt with h | ⟨rfl, h⟩ <;> omega
          have hn' : 1 ≤ n' := by rcases hcase with ⟨rfl, _⟩ | ⟨rfl, _, _⟩ <;> omega
          have hup : 2 ^ n + k < 2 ^ (M + 2) := pow_mono_lt hk (by omega)
          have hmeas : 2 ^ (M + 2) - (2 ^ n' + k') < 2 ^ (M + 2) - (2 ^ n + k) := by omega
          have Hmeas := Lib.hid (Nat.lt_of_lt_of_le hmeas hg)
          have Hk' := Lib.hid hk'
          clear heq hlt hnv hcase hsum hup hmeas hg hk' hle
          go_wp2_with fail
          refine HVd.out.mono ?_
          rintro e w6 ⟨v, rfl, hv, hb⟩
          have hvf : v = false := by
            cases v with
            | false => rfl
            | true => exact absurd (hv.1 rfl).2 Hnv.out
          subst hvf
          have Hb6 := Lib.hid (below_then Hb.out Hb.out.size hb)
          have HS6 := Lib.hid (HS.out.below (Nat.le_refl _) hb)
          clear hv hb
          go_wp2_with fail
          refine (HNx.out _).mono ?_
          rintro e w7 ⟨rfl, hb⟩
          have Hb7 := Lib.hid (below_then Hb6.out Hb6.out.size hb)
          have HS7 := Lib.hid (HS6.out.below (Nat.le_refl _) hb)
          clear hb
          go_wp2_with fail
          go_roundg (2 ^ (M + 2) - (2 ^ n' + k'))
          case measure => exact Hmeas.out
          case rel => exact ⟨n', k', hn', Hk'.out, rfl, hle', Nat.le_refl _, HS7, Hb7⟩
    · have hnil : ((⟨#[]⟩ : ByteArray).toList.isEmpty) = true := by rw [ByteArray.toList_eq]; rfl
      have Hnb := Lib.hid hnb
      clear hnb Hsp Hsp2
      go_wp2
      go_loopg [14] (2 ^ (M + 2)) (fun g u wr => ∃ n k : Nat, 1 ≤ n ∧ k < 2 ^ n ∧ u = .string (mkW n k) ∧ n ≤ M + 1 ∧ 2 ^ (M + 2) - (2 ^ n + k) ≤ g ∧ Hid (StrsAt wr p2 ws) ∧ Hid (Below w.heap.size w wr))
      case atStart => exact ⟨1, 0, by omega, by decide, by rfl, by omega, Nat.sub_le _ _, HS, Hw4⟩
      case round =>
        clear HS Hw4
        obtain ⟨n, k, hn, hk, rfl, hle, hg, HS, Hb⟩ := hrel
        by_cases hnM : n ≤ M
        · have hszI : ((mkW n k).size : Int) ≤ (M : Int) := by rw [mkW_size]; omega
          obtain ⟨u, hu⟩ : ∃ u, mkW n k = u := ⟨_, rfl⟩
          rw [hu] at hszI ⊢
          have Hu := Lib.hid hu
          have HVd := Lib.hid (HVal2.out n k hn (by omega) p2 c2 wr HS.out)
          rw [Hu.out] at HVd
          have HNx := Lib.hid (fun W => Next_any n k hn (by omega) hk W)
          rw [Hu.out] at HNx
          obtain ⟨n', k', hnx, hk', hsum, hcase⟩ := nextW_cases n k hk
          rw [hnx] at HNx
          have hnv : ¬ ValidP b u ws := by rw [← Hu.out]; exact Hnb.out n k hn hk (.inl (by omega))
          have Hnv := Lib.hid hnv
          have hle' : n' ≤ M + 1 := by
            rcases hcase with ⟨rfl, rfl⟩ | ⟨rfl, rfl, hfull⟩ <;> omega
          have hn' : 1 ≤ n' := by rcases hcase with ⟨rfl, _⟩ | ⟨rfl, _, _⟩ <;> omega
          have hup : 2 ^ n + k < 2 ^ (M + 2) := pow_mono_lt hk (by omega)
          have hmeas : 2 ^ (M + 2) - (2 ^ n' + k') < 2 ^ (M + 2) - (2 ^ n + k) := by omega
          have Hmeas := Lib.hid (Nat.lt_of_lt_of_le hmeas hg)
          have Hk' := Lib.hid hk'
          clear hnv hcase hsum hup hmeas hg hk' hle
          go_wp2_with fail
          refine HVd.out.mono ?_
          rintro e w6 ⟨v, rfl, hv, hb⟩
          have hvf : v = false := by
            cases v with
            | false => rfl
            | true => exact absurd (hv.1 rfl).2 Hnv.out
          subst hvf
          have Hb6 := Lib.hid (below_then Hb.out Hb.out.size hb)
          have HS6 := Lib.hid (HS.out.below (Nat.le_refl _) hb)
          clear hv hb
          go_wp2_with fail
          refine (HNx.out _).mono ?_
          rintro e w7 ⟨rfl, hb⟩
          have Hb7 := Lib.hid (below_then Hb6.out Hb6.out.size hb)
          have HS7 := Lib.hid (HS6.out.below (Nat.le_refl _) hb)
          clear hb
          go_wp2_with fail
          go_roundg (2 ^ (M + 2) - (2 ^ n' + k'))
          case measure => exact Hmeas.out
          case rel => exact ⟨n', k', hn', Hk'.out, rfl, hle', Nat.le_refl _, HS7, Hb7⟩
        · have hszI : ¬ ((mkW n k).size : Int) ≤ (M : Int) := by rw [mkW_size]; omega
          generalize mkW n k = u at *
          clear hg
          go_wp2_with (go_at_call 12; go_fit (awake_any _); rintro e wz ⟨rfl, hbz⟩; have Hbz := Lib.hid hbz; clear hbz)
          go_ret
          exact ⟨rfl, below_then Hb.out Hb.out.size Hbz.out⟩
end Go.Proofs.Ytlkajmdcffemeaa
