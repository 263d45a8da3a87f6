/- The walk of marker.Valid. -/
import Derived.Test.YtlkajmdcffemeaaVld
import Derived.Test.YtlkajmdcffemeaaWrds
namespace Go.Proofs.Ytlkajmdcffemeaa
open Go.RowKit

theorem mkErr_nil (b : Int) (m : List UInt8) : mkErr b m [] = mkErr0 b m := by
  unfold mkErr
  split
  · rfl
  · rename_i h
    have : mkErr0 b m = 0 := by simpa using h
    rw [this]; rfl
/-- The error of Valid. -/
def validErr (b : Int) (m : ByteArray) (ws : List ByteArray) : Int := if mkErr0 b m.data.toList ≠ 0 then mkErr0 b m.data.toList else wordsErr b.toNat m.size ws
/-- What Valid gives. -/
def RetVal (E : Int) (p : Prop) (w : World) (e : Ending) (w' : World) : Prop := ∃ v : Bool, e = .returned (.tuple #[.bool v, .int .i64 E]) ∧ (v = true ↔ E = 0 ∧ p) ∧ Below w.heap.size w w'

set_option maxRecDepth 100000 in
set_option maxHeartbeats 2000000 in
theorem Valid_any (b : Int) (m : ByteArray) (ws : List ByteArray) (p : Option Addr) (c : Nat) (hm : m.size ≤ maxLen) (hl : ws.length ≤ 100000) (hx : ∀ x ∈ ws, x.size ≤ maxLen) (w : World) (hS : StrsAt w p ws) :
    Calls Try.prog 33 #[.int .i64 b, .string m, .slice p ws.length c] w (RetVal (validErr b m ws) (ValidP b.toNat m ws) w) := by
  have HS := Lib.hid hS
  have Hc := Lib.hid (check_mk b m ⟨#[]⟩ hm (by unfold maxLen; decide))
  rw [show ((⟨#[]⟩ : ByteArray).data.toList) = [] from rfl, mkErr_nil] at Hc
  have hE : validErr b m ws = if mkErr0 b m.data.toList ≠ 0 then mkErr0 b m.data.toList else wordsErr b.toNat m.size ws := rfl
  have hok : mkErr0 b m.data.toList = 0 → (1 ≤ b ∧ b ≤ 16) ∧ 0 < m.size ∧ m.size ≤ 16 := fun h => by
    unfold mkErr0 at h
    have hlen : m.data.toList.length = m.size := by simp
    rw [hlen] at h
    by_cases h1 : b < 1 ∨ 16 < b
    · rw [if_pos h1] at h; cases h
    · rw [if_neg h1] at h
      by_cases h2 : m.size = 0
      · rw [if_pos h2] at h; cases h
      · rw [if_neg h2] at h
        by_cases h3 : 16 < m.size
        · rw [if_pos h3] at h; cases h
        · omega
  clear hS
  generalize validErr b m ws = E at *
  generalize mkErr0 b m.data.toList = e0 at *
  by_cases h0 : e0 = 0
  · obtain ⟨⟨hb1, hb2⟩, hm1, hm2⟩ := hok h0
    obtain ⟨n, rfl⟩ : ∃ n : Nat, b = n := ⟨b.toNat, by omega⟩
    rw [if_neg (by simpa using h0), Int.toNat_natCast] at hE
    rw [Int.toNat_natCast]
    have hz : (e0 != 0) = false := by rw [h0]; rfl
    have HW := Lib.hid (fun W hW => checkWords_any n m.size ws p c (by omega) (by omega) hl hx W hW)
    have hwok := @wordsErr_ok n m.size ws
    have HE := Lib.hid hE
    generalize wordsErr n m.size ws = e1 at *
    by_cases h1 : e1 = 0
    · obtain ⟨hs1, hs2⟩ := hwok h1
      have HV := Lib.hid (fun W hW => valid_any n m ws p c (by omega) (by omega) hm1 (by omega) hs1 hs2 W hW)
      have h1b : (e1 != 0) = false := by rw [h1]; rfl
      have H1 := Lib.hid h1
      clear hwok hok h0 hE h1 hs1 hx
      go_enter Try.func33, Try.ntmps33
      go_wp2_with (go_at_call 40; go_fit (Hc.out _); rintro e w1 ⟨rfl, hd⟩; have HS1 := Lib.hid (HS.out.below (Nat.le_refl _) (Drawn.below hd _)); have Hd := Lib.hid hd; clear hd)
      refine (HW.out _ HS1.out).mono ?_
      rintro e w2 ⟨rfl, hd⟩
      have Hd2 := Lib.hid (Hd.out.trans hd)
      have HS2 := Lib.hid (HS1.out.below (Nat.le_refl _) (Drawn.below hd _))
      clear hd
      go_wp2_with fail
      refine (HV.out _ HS2.out).mono ?_
      rintro e w3 ⟨v, rfl, hv, hb⟩
      have Hv := Lib.hid hv
      have Hb := Lib.hid hb
      clear hv hb
      go_wp2_with fail
      go_ret2
      exact ⟨v, by rw [HE.out, H1.out]; rfl, by rw [HE.out, H1.out, Hv.out]; simp, (Drawn.below Hd2.out _).trans (Hb.out.mono (by rw [Drawn.heap Hd2.out]; exact Nat.le_refl _))⟩
    · have h1b : (e1 != 0) = true := by rw [bne_iff_ne]; exact h1
      have H1 := Lib.hid h1
      clear hwok hok h0 hE h1 hx
      go_enter Try.func33, Try.ntmps33
      go_wp2_with (go_at_call 40; go_fit (Hc.out _); rintro e w1 ⟨rfl, hd⟩; have HS1 := Lib.hid (HS.out.below (Nat.le_refl _) (Drawn.below hd _)); have Hd := Lib.hid hd; clear hd)
      refine (HW.out _ HS1.out).mono ?_
      rintro e w2 ⟨rfl, hd⟩
      have Hd2 := Lib.hid (Hd.out.trans hd)
      clear hd
      go_wp2_with fail
      go_ret2
      exact ⟨false, by rw [HE.out]; rfl, ⟨fun h => (by cases h), fun h => absurd (HE.out ▸ h.1) H1.out⟩, Drawn.below Hd2.out _⟩
  · rw [if_pos h0] at hE
    have HE := Lib.hid hE
    have hz : (e0 != 0) = true := by rw [bne_iff_ne]; exact h0
    have H0 := Lib.hid h0
    clear hok h0 hE hx
    go_enter Try.func33, Try.ntmps33
    go_wp2_with (go_at_call 40; go_fit (Hc.out _); rintro e w1 ⟨rfl, hd⟩; have Hd := Lib.hid hd; clear hd)
    go_ret2
    exact ⟨false, by rw [HE.out]; rfl, ⟨fun h => (by cases h), fun h => absurd (HE.out ▸ h.1) H0.out⟩, Drawn.below Hd.out _⟩
end Go.Proofs.Ytlkajmdcffemeaa
