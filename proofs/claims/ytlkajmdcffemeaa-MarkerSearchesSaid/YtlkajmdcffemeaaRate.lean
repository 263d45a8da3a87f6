/- The walk of marker.Rate. -/
import Derived.Test.YtlkajmdcffemeaaRat2
import Derived.Test.YtlkajmdcffemeaaChk
import Derived.Test.YtlkajmdcffemeaaLocate
namespace Go.Proofs.Ytlkajmdcffemeaa
open Go.RowKit

/-- The error of Rate; what it returns. -/
def rateErr (b : Int) (m : ByteArray) : Int := mkErr b m.data.toList []
def rateV (b : Int) (m : ByteArray) : Value := if rateErr b m = 0 then ratV ((b.toNat / Nat.gcd b.toNat (b.toNat + m.size) : Nat) : Int) (((b.toNat + m.size) / Nat.gcd b.toNat (b.toNat + m.size) : Nat) : Int) else .agg #[.bool false, .string ⟨#[]⟩, .bool false, .string ⟨#[]⟩]

set_option maxRecDepth 100000 in
set_option maxHeartbeats 4000000 in
theorem Rate_any (b : Int) (m : ByteArray) (hm : m.size ≤ maxLen) (w : World) :
    Calls Try.prog 19 #[.int .i64 b, .string m] w fun e w' => e = .returned (.tuple #[rateV b m, .int .i64 (rateErr b m)]) ∧ Below w.heap.size w w' := by
  have Hc := Lib.hid (check_mk b m ⟨#[]⟩ hm (by decide))
  obtain ⟨E, hE⟩ : ∃ E, mkErr b m.data.toList [] = E := ⟨_, rfl⟩
  have Hc : Hid (∀ w, Calls Try.prog 40 #[.int .i64 b, .string m, .string ⟨#[]⟩] w fun e w' => e = .returned (.int .i64 E) ∧ Drawn w w') := Lib.hid (by rw [← hE]; exact Hc.out)
  have hre : rateErr b m = E := hE
  have hrv : rateV b m = if E = 0 then ratV ((b.toNat / Nat.gcd b.toNat (b.toNat + m.size) : Nat) : Int) (((b.toNat + m.size) / Nat.gcd b.toNat (b.toNat + m.size) : Nat) : Int) else .agg #[.bool false, .string ⟨#[]⟩, .bool false, .string ⟨#[]⟩] := by unfold rateV; rw [hre]
  by_cases hz : E = 0
  · have hz2 : (E != 0) = false := by rw [hz]; rfl
    obtain ⟨⟨hb1, hb2⟩, ⟨hm1, hm2⟩, _⟩ := mkErr_ok (s := ⟨#[]⟩) (hE.trans hz)
    obtain ⟨n, rfl⟩ : ∃ n : Nat, b = n := ⟨b.toNat, by omega⟩
    rw [if_pos hz, Int.toNat_natCast] at hrv
    obtain ⟨k, hk⟩ : ∃ k, n + m.size = k := ⟨_, rfl⟩
    rw [hk] at hrv
    have hr := ratio_any n k (by omega) (by omega) (by omega) (by omega)
    have hsumI : (n : Int) + (m.size : Int) = (k : Int) := by omega
    rw [hre, hrv, hz]
    unfold ratV at hr ⊢
    generalize canon ((n / Nat.gcd n k : Nat) : Int) = Q1 at *
    generalize canon ((k / Nat.gcd n k : Nat) : Int) = Q2 at *
    have Hr := Lib.hid hr
    clear hr hz hE hre hrv hm hk
    go_enter Try.func19, Try.ntmps19
    go_wp2_with fail
    have hC := Box4.new w (.bool false) (.string ⟨#[]⟩) (.bool false) (.string ⟨#[]⟩) 36
    have hb0 : Below w.heap.size w (w.alloc (.cells #[.bool false, .string ⟨#[]⟩, .bool false, .string ⟨#[]⟩] 36)) := (Below.refl _ _).alloc (Nat.le_refl _) _
    have hs0 : (w.alloc (.cells #[.bool false, .string ⟨#[]⟩, .bool false, .string ⟨#[]⟩] 36)).heap.size = w.heap.size + 1 := by simp
    generalize (w.alloc (.cells #[.bool false, .string ⟨#[]⟩, .bool false, .string ⟨#[]⟩] 36)) = V at *
    have HC := Lib.hid hC
    have Hb0 := Lib.hid hb0
    have Hs0 := Lib.hid hs0
    clear hC hb0 hs0
    refine (Hc.out _).mono ?_
    rintro e w1 ⟨rfl, hd⟩
    have Hw1 := Lib.hid (show Below V.heap.size V w1 from Drawn.below hd _)
    clear hd
    go_wp2_with fail
    refine (Hr.out _).mono ?_
    rintro e w2 ⟨rfl, hb⟩
    have Hw2 := Lib.hid (show Below V.heap.size V w2 from Hw1.out.trans (hb.mono Hw1.out.size))
    clear hb
    obtain ⟨c0, c1, c2, c3, c4, hc⟩ := HC.out.below Hw2.out HC.out.2.2.2.2.2
    have f0 := c4 0
    have f1 := c4 1
    have f2 := c4 2
    have f3 := c4 3
    clear c4
    go_wp2_with fail
    refine bodyPost_ret (v := .tuple #[.agg #[.bool Q1.neg, .string Q1.mag, .bool Q2.neg, .string Q2.mag], .int .i64 0]) ?_ rfl ⟨rfl, ?_⟩
    · simp [results, Try.results19, go_sem, c0, c1, c2, c3]
    · exact ((((Hb0.out.trans (Hw2.out.mono (by have := Hs0.out; omega))).setCell (by simp) _).setCell (by simp) _).setCell (by simp) _).setCell (by simp) _
  · have hz2 : (E != 0) = true := by rw [bne_iff_ne]; exact hz
    rw [if_neg hz] at hrv
    rw [hre, hrv]
    clear hz hE hm hre hrv
    go_enter Try.func19, Try.ntmps19
    go_wp2_with fail
    have hC := Box4.new w (.bool false) (.string ⟨#[]⟩) (.bool false) (.string ⟨#[]⟩) 36
    have hb0 : Below w.heap.size w (w.alloc (.cells #[.bool false, .string ⟨#[]⟩, .bool false, .string ⟨#[]⟩] 36)) := (Below.refl _ _).alloc (Nat.le_refl _) _
    have hs0 : (w.alloc (.cells #[.bool false, .string ⟨#[]⟩, .bool false, .string ⟨#[]⟩] 36)).heap.size = w.heap.size + 1 := by simp
    generalize (w.alloc (.cells #[.bool false, .string ⟨#[]⟩, .bool false, .string ⟨#[]⟩] 36)) = V at *
    have HC := Lib.hid hC
    have Hb0 := Lib.hid hb0
    have Hs0 := Lib.hid hs0
    clear hC hb0 hs0
    refine (Hc.out _).mono ?_
    rintro e w1 ⟨rfl, hd⟩
    have Hw1 := Lib.hid (show Below V.heap.size V w1 from Drawn.below hd _)
    clear hd
    obtain ⟨c0, c1, c2, c3, c4, hc⟩ := HC.out.below Hw1.out HC.out.2.2.2.2.2
    have f0 := c4 0
    have f1 := c4 1
    have f2 := c4 2
    have f3 := c4 3
    clear c4
    go_wp2_with fail
    refine bodyPost_ret (v := .tuple #[.agg #[.bool false, .string ⟨#[]⟩, .bool false, .string ⟨#[]⟩], .int .i64 E]) ?_ rfl ⟨rfl, ?_⟩
    · simp [results, Try.results19, go_sem, c0, c1, c2, c3]
    · exact ((((Hb0.out.trans (Hw1.out.mono (by have := Hs0.out; omega))).setCell (by simp) _).setCell (by simp) _).setCell (by simp) _).setCell (by simp) _
end Go.Proofs.Ytlkajmdcffemeaa
