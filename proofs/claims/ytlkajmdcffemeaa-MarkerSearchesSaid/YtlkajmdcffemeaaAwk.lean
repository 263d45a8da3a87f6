/- The walk of awake: the example of the chapter. -/
import Derived.Test.YtlkajmdcffemeaaRate
import Derived.Test.YtlkajmdcffemeaaInsert
import Derived.Test.YtlkajmdcffemeaaLocate
import Derived.Laws.StructEq
import Derived.WalkLawsBesides
import Derived.WalkSpells
import Derived.Deep.RegionHeld3
import Derived.Outline
namespace Go.Proofs.Ytlkajmdcffemeaa
open Go.RowKit

def mk001 : ByteArray := ⟨#[48, 48, 49]⟩
theorem aw1 : insErr 2 ⟨#[48, 48, 49]⟩ ⟨#[49, 48, 49, 49]⟩ = 0 := by decide +kernel
theorem aw2 : insOut 2 ⟨#[48, 48, 49]⟩ ⟨#[49, 48, 49, 49]⟩ = ⟨#[49, 48, 48, 48, 49, 49, 49, 48, 48, 49]⟩ := by decide +kernel
theorem aw3 : locErr 2 ⟨#[48, 48, 49]⟩ ⟨#[49, 48, 48, 49, 49, 49, 48, 48, 49]⟩ = 0 := by decide +kernel
theorem aw4 : locOut 2 ⟨#[48, 48, 49]⟩ ⟨#[49, 48, 48, 49, 49, 49, 48, 48, 49]⟩ = [-1, 0] := by decide +kernel
theorem aw5 : rateErr 2 ⟨#[48, 48, 49]⟩ = 0 := by decide +kernel
theorem aw6 : rateV 2 ⟨#[48, 48, 49]⟩ = ratV 2 5 := by unfold rateV; rw [aw5, if_pos rfl]; rfl
theorem aw7 : ratV 2 5 = .agg #[.bool false, .string ⟨#[2]⟩, .bool false, .string ⟨#[5]⟩] := by
  have h1 : canon 2 = ⟨false, ⟨#[2]⟩⟩ := by decide +kernel
  have h2 : canon 5 = ⟨false, ⟨#[5]⟩⟩ := by decide +kernel
  unfold ratV; rw [h1, h2]
theorem aw8 : (({ data := #[49] } : ByteArray) ++ ({ data := #[49, 48, 48, 48, 49, 49, 49, 48, 48, 49] } : ByteArray).extract 2 10) = ⟨#[49, 48, 48, 49, 49, 49, 48, 48, 49]⟩ := by decide +kernel
theorem awmin {P : Program} (ts : Array TypeId) (t : TypeId) (w : World) : (Builtin.min_ ts t #[.int .i64 10, .int .i64 2]).run P w = .ok (.int .i64 2) w := by rfl
theorem awmax {P : Program} (ts : Array TypeId) (t : TypeId) (w : World) : (Builtin.max_ ts t #[.int .i64 0, .int .i64 0, .int .i64 0]).run P w = .ok (.int .i64 0) w := by rfl

set_option maxRecDepth 100000 in
set_option maxHeartbeats 4000000 in
theorem awake_any (w : World) : Calls Try.prog 12 #[] w fun e w' => e = .returned (.bool true) ∧ Below w.heap.size w w' := by
  have hmin := @awmin Try.prog
  have hmax := @awmax Try.prog
  go_enter Try.func12, Try.ntmps12
  go_wp2_with fail
  refine (Insert_any 2 _ _ (by decide) (by decide) _).mono ?_; rintro e w1 ⟨rfl, hb⟩
  rw [aw1, aw2]
  have Hb1 := Lib.hid hb
  clear hb
  go_wp2_with fail
  rw [aw8]
  refine (Locate_any 2 _ _ (by decide) (by decide) _).mono ?_; rintro e w2 ⟨v, rfl, _, ho, hb⟩
  rw [aw3]
  rw [aw4] at ho
  obtain ⟨p1, d1, rfl, _, hI1, _⟩ := ho.form
  obtain ⟨b1, o1, rfl, hbl, hcl⟩ := IntsAt.cells hI1 (k := 0) (by decide)
  have Hb2 := Lib.hid hb
  have Hcl := Lib.hid hcl
  clear ho hI1 hb hcl
  go_wp2_with fail
  refine (Rate_any 2 _ (by decide) _).mono ?_; rintro e w3 ⟨rfl, hb⟩
  rw [aw5, aw6, aw7]
  have Hb3 := Lib.hid hb
  clear hb
  go_wp2_with fail
  refine (ratio_any 2 5 (by decide) (by decide) (by decide) (by decide) _).mono ?_; rintro e w4 ⟨rfl, hb⟩
  rw [show ratV ((2 / Nat.gcd 2 5 : Nat) : Int) ((5 / Nat.gcd 2 5 : Nat) : Int) = ratV 2 5 from rfl, aw7]
  have HB5 := Lib.hid ((Box4.new w3 (.bool false) (.string ⟨#[2]⟩) (.bool false) (.string ⟨#[5]⟩) 36).below hb (by simp))
  have Hb4 := Lib.hid (show Below w3.heap.size w3 w4 from ((Below.refl _ _).alloc (Nat.le_refl _) _).trans (hb.mono (by simp)))
  clear hb
  go_upto_region 5 with (fail)
  have HB7 := Lib.hid (Box4.new w4 (.bool false) (.string ⟨#[2]⟩) (.bool false) (.string ⟨#[5]⟩) 36)
  have hb6 : Below w4.heap.size w4 (w4.alloc (.cells #[.bool false, .string ⟨#[2]⟩, .bool false, .string ⟨#[5]⟩] 36)) := (Below.refl _ _).alloc (Nat.le_refl _) _
  have HB5b := Lib.hid (HB5.out.below hb6 HB5.out.2.2.2.2.2)
  have Hb6 := Lib.hid hb6
  clear hb6
  generalize (w4.alloc (.cells #[.bool false, .string ⟨#[2]⟩, .bool false, .string ⟨#[5]⟩] 36)) = V at *
  go_wp2_with fail
  have hwV : Below w2.heap.size w2 V := (Hb3.out.trans (Hb4.out.mono Hb3.out.size)).trans (Hb6.out.mono (Nat.le_trans Hb3.out.size Hb4.out.size))
  refine (Try.slices_Equal_int b1 o1 2 d1 V.heap.size 0 2 2 [-1, 0] [-1, 0] _ (by decide) (by decide) (by decide) (by decide) (fun j hj => ?_) (fun j hj => ?_)).mono ?_
  · rw [((hwV.trans ((Below.refl _ V).alloc hwV.size _)) : Below w2.heap.size w2 _).cell (p := ⟨b1, _, none⟩) hbl]; exact Hcl.out j hj
  · match j, (show j < 2 from hj) with
    | 0, _ => simp
    | 1, _ => simp
  rintro e w5 ⟨rfl, q, rfl⟩
  rw [show ((([-1, 0] : List Int).take 2) == (([-1, 0] : List Int).take 2)) = true from by decide]
  obtain ⟨c0, c1, c2, c3, _, hc⟩ := HB5b.out
  obtain ⟨g0, g1, g2, g3, _, hg⟩ := HB7.out
  clear hwV
  go_wp2_with fail
  go_ret
  have z1 := Hb1.out.size
  have z2 := Hb2.out.size
  have z3 := Hb3.out.size
  have z4 := Hb4.out.size
  have z6 := Hb6.out.size
  refine ⟨rfl, below_dr (Below.alloc ?_ (by omega) _)⟩
  exact ((((Hb1.out.trans (Hb2.out.mono (by omega))).trans (Hb3.out.mono (by omega))).trans (Hb4.out.mono (by omega))).trans (Hb6.out.mono (by omega)))
end Go.Proofs.Ytlkajmdcffemeaa
