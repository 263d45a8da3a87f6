/- grooveref49.Locate. -/
import Derived.Test.YtlkajmdcffemeaaQ6
import Derived.Test.YtlkajmdcffemeaaLocate
namespace Go.Proofs.Ytlkajmdcffemeaa
open Go.RowKit

set_option maxRecDepth 100000 in
set_option maxHeartbeats 2000000 in
theorem refLocate49_any (b : Int) (m s : ByteArray) (hm : m.size ≤ maxLen) (hs : s.size ≤ maxLen) (w : World) :
    Calls Try.prog 24 #[.int .i64 b, .string m, .string s] w (RetIntsE (locErr b m s) (locOut b m s) w) := by
  have Hc := Lib.hid (refCheckWord_any b m s hm hs)
  obtain ⟨E, hE⟩ : ∃ E, mkErr b m.data.toList s.data.toList = E := ⟨_, rfl⟩
  rw [hE] at Hc
  by_cases hz : E = 0
  · have hz2 : (E != 0) = false := by rw [hz]; rfl
    obtain ⟨⟨hb1, hb2⟩, ⟨hm1, hm2⟩, hs2⟩ := mkErr_ok (hE.trans hz)
    obtain ⟨n, rfl⟩ : ∃ n : Nat, b = n := ⟨b.toNat, by omega⟩
    have Hl := Lib.hid (refLocate_any n m s (by omega) (by omega) hm1 (by omega) (by omega))
    have hle : locErr n m s = if okB (blksW n m s) then 0 else 20 := by unfold locErr; rw [hE, if_neg (fun h => h hz)]; rfl
    have HLE := Lib.hid hle
    have hlo : locOut n m s = if okB (blksW n m s) then (blksW n m s).map (·.2) else [] := by
      unfold locOut; rw [hle, Int.toNat_natCast]
      cases okB (blksW n m s) <;> simp
    have HLO := Lib.hid hlo
    generalize blksW n m s = L at *
    rw [hlo, hle]
    clear hz hE hm hs hle hlo HLE HLO
    cases hok : okB L
    · have Hok := Lib.hid hok
      clear hok
      go_enter Try.func24, Try.ntmps24
      go_wp2_with first
        | (go_at_call 44; go_fit (Hc.out _); rintro e w1 ⟨rfl, rfl⟩)
        | (go_at_call 52; go_fit (Hl.out _); rintro e w2 ⟨v, rfl, hv, ho, hb⟩; rw [Hok.out]; have Hv := Lib.hid (hv Hok.out); have Hb := Lib.hid hb; clear hv ho hb)
      go_ret2
      exact ⟨_, rfl, fun _ => rfl, OwnInts.nil _ _, Hb.out⟩
    · have Hok := Lib.hid hok
      clear hok
      go_enter Try.func24, Try.ntmps24
      go_wp2_with first
        | (go_at_call 44; go_fit (Hc.out _); rintro e w1 ⟨rfl, rfl⟩)
        | (go_at_call 52; go_fit (Hl.out _); rintro e w2 ⟨v, rfl, hv, ho, hb⟩; rw [Hok.out] at ho ⊢; simp only [if_true] at ho; have Ho := Lib.hid ho; have Hb := Lib.hid hb; clear hv ho hb)
      go_ret2
      have ho := Ho.out
      exact ⟨_, rfl, fun h => absurd rfl h, ho, Hb.out⟩
  · have hz2 : (E != 0) = true := by rw [bne_iff_ne]; exact hz
    have hle : locErr b m s = E := by unfold locErr; rw [hE, if_pos hz]
    have hlo : locOut b m s = [] := by unfold locOut; rw [hle, if_neg hz]
    rw [hlo, hle]
    clear hz hE hm hs hle hlo
    go_enter Try.func24, Try.ntmps24
    go_wp2_with (go_at_call 44; go_fit (Hc.out _); rintro e w1 ⟨rfl, rfl⟩)
    go_ret2
    exact ⟨_, rfl, fun _ => rfl, OwnInts.nil _ _, Below.refl _ _⟩
end Go.Proofs.Ytlkajmdcffemeaa
