/- The walks of the inner functions of package integer: trim, digits, number, compare. -/
import Derived.Test.YtlkajmdcffemeaaRows
import Derived.Test.YtlkajmdcffemeaaPlain
import Derived.Test.YtlkajmdcffemeaaNat
import Derived.WalkKit
import Derived.WalkSpells
import Derived.WalkLawsBesides
import Derived.OwnWalk
import Derived.KernelRfl
import Derived.Deep.OwnRows
import Derived.Deep.QuietTactic
import Derived.BigQuiet
import Derived.Lib.Hide
namespace Go.Proofs.Ytlkajmdcffemeaa
open Go.RowKit

/-- A slice header at p reads as these digits. -/
def NatsAt (w : World) (p : Option Addr) (xs : List Nat) : Prop := SlAt 1 w p xs.length (fun i _ => .int .u32 (xs.getD i 0 : Nat))
theorem NatsAt.below {w w' : World} {p : Option Addr} {xs : List Nat} (h : NatsAt w p xs) {B : Nat} (hB : w.heap.size ≤ B) (hb : Below B w w') : NatsAt w' p xs := h.mono hB hb
theorem NatsAt.cells {w : World} {p : Option Addr} {xs : List Nat} (h : NatsAt w p xs) {k : Nat} (hk : k < xs.length) :
    ∃ b off, p = some ⟨b, off, none⟩ ∧ b < w.heap.size ∧ ∀ i, i < xs.length → w.cell? ⟨b, off + i, none⟩ = some (.int .u32 (xs.getD i 0 : Nat)) := by
  rcases h with h | ⟨b, off, rfl, hlt, hc⟩
  · omega
  · exact ⟨b, off, rfl, hlt, fun i hi => by simpa using hc i hi 0 (by omega)⟩
theorem NatsAt.take {w : World} {p : Option Addr} {xs : List Nat} (h : NatsAt w p xs) (k : Nat) : NatsAt w p (xs.take k) := by
  rcases h with h | ⟨b, off, rfl, hlt, hc⟩
  · exact .inl (by rw [List.length_take]; omega)
  · refine .inr ⟨b, off, rfl, hlt, fun i hi j hj => ?_⟩
    rw [List.length_take] at hi
    rw [hc i (by omega) j hj]
    show some (Value.int .u32 ((xs.getD i 0 : Nat) : Int)) = some (Value.int .u32 (((xs.take k).getD i 0 : Nat) : Int))
    rw [List.getD_eq_getElem?_getD, List.getD_eq_getElem?_getD, List.getElem?_take_of_lt (by omega)]

set_option maxHeartbeats 1000000 in
theorem trim_any (xs : List Nat) (p : Option Addr) (c : Nat) (w : World) (hX : NatsAt w p xs) (hc : xs.length ≤ c) (hcm : c ≤ 9223372036854775807) :
    Calls Try.prog 89 #[.slice p xs.length c] w fun e w' => e = .returned (.slice p (tl xs xs.length) c) ∧ w = w' := by
  have HX := Lib.hid hX
  clear hX
  go_enter Try.func89, Try.ntmps89
  go_wp2
  go_loop [0] (fun v => ∃ k : Nat, k ≤ xs.length ∧ v = .slice p k c ∧ Hid (tl xs xs.length = tl xs k)) (fun v => match v with | .slice _ k _ => k | _ => 0)
  case atStart => exact ⟨xs.length, Nat.le_refl _, rfl, Lib.hid rfl⟩
  case round =>
    obtain ⟨k, hk, rfl, hr⟩ := hrel
    by_cases h0 : 0 < k
    · obtain ⟨b, off, rfl, hb, hcell⟩ := NatsAt.cells HX.out (k := k - 1) (by omega)
      have hx := hcell (k - 1) (by omega)
      obtain ⟨x, hxe⟩ : ∃ x, xs.getD (k - 1) 0 = x := ⟨_, rfl⟩
      rw [hxe] at hx
      obtain ⟨j, rfl⟩ : ∃ j, k = j + 1 := ⟨k - 1, by omega⟩
      rw [Nat.add_sub_cancel] at hx hxe
      have i0 : (0 : Int) ≤ ((j + 1 : Nat) : Int) - 1 := by omega
      have i1 : ((j + 1 : Nat) : Int) - 1 < ((j + 1 : Nat) : Int) := by omega
      have i2 : (((j + 1 : Nat) : Int) - 1).toNat = j := by omega
      have Hxe := Lib.hid hxe
      clear hcell hxe
      by_cases hz : x = 0
      · have hz' : ((x : Int) == 0) = true := by rw [beq_iff_eq]; omega
        have hv : tl xs xs.length = tl xs j := by rw [hr.out, tl, if_pos (by rw [Hxe.out]; exact hz)]
        have Hv := Lib.hid hv
        clear hv hz
        go_wp2
        go_round
        case rel => exact ⟨j, by omega, rfl, Hv⟩
        case measure => simp
      · have hz' : ((x : Int) == 0) = false := by rw [beq_eq_false_iff_ne]; omega
        have hv : tl xs xs.length = j + 1 := by rw [hr.out, tl, if_neg (by rw [Hxe.out]; exact hz)]
        have Hv := Lib.hid hv
        clear hv hz
        go_wp2
        go_ret
        exact ⟨by rw [Hv.out]; rfl, rfl⟩
    · obtain rfl : k = 0 := by omega
      go_wp2
      go_ret
      exact ⟨by rw [hr.out]; rfl, rfl⟩

/-- Three-way comparison. -/
def cmpN (m n : Nat) : Int := if m < n then -1 else if n < m then 1 else 0

set_option maxHeartbeats 2000000 in
theorem compare_any (m n : Nat) (pa pb : Option Addr) (ca cb : Nat) (w : World) (hA : NatsAt w pa (digs m)) (hB : NatsAt w pb (digs n)) (hla : (digs m).length ≤ 100000000) (_hlb : (digs n).length ≤ 100000000) :
    Calls Try.prog 109 #[.slice pa (digs m).length ca, .slice pb (digs n).length cb] w fun e w' => e = .returned (.int .i64 (cmpN m n)) ∧ Drawn w w' := by
  have hda := dg_digs m
  have hdb := dg_digs n
  have hva := val_digs m
  have hvb := val_digs n
  by_cases hl : (digs m).length = (digs n).length
  case neg =>
    have hl1 : (((digs m).length : Int) != ((digs n).length : Int)) = true := by rw [bne_iff_ne]; omega
    by_cases hlt : (digs m).length < (digs n).length
    · have hv : cmpN m n = -1 := by unfold cmpN; rw [if_pos (digs_lt hlt)]
      have Hv := Lib.hid hv
      clear hv hda hdb hva hvb hl
      generalize digs m = xs at *
      generalize digs n = ys at *
      go_enter Try.func109, Try.ntmps109
      go_wp2
      go_ret
      exact ⟨ret_int Hv.out.symm, Drawn.refl _⟩
    · have hv : cmpN m n = 1 := by
        have := digs_lt (show (digs n).length < (digs m).length by omega)
        unfold cmpN; rw [if_neg (by omega), if_pos this]
      have Hv := Lib.hid hv
      clear hv hda hdb hva hvb hl
      generalize digs m = xs at *
      generalize digs n = ys at *
      go_enter Try.func109, Try.ntmps109
      go_wp2
      go_ret
      exact ⟨ret_int Hv.out.symm, Drawn.refl _⟩
  have hl1 : (((digs m).length : Int) != ((digs n).length : Int)) = false := by rw [bne_eq_false_iff_eq]; omega
  have HA := Lib.hid hA
  have HB := Lib.hid hB
  have HL := Lib.hid hl
  have Hda := Lib.hid hda
  have Hdb := Lib.hid hdb
  have Hva := Lib.hid hva
  have Hvb := Lib.hid hvb
  clear hA hB hl hda hdb hva hvb
  generalize digs m = xs at *
  generalize digs n = ys at *
  go_enter Try.func109, Try.ntmps109
  go_wp2
  go_loopw [5] (fun v wr => ∃ k : Nat, k ≤ xs.length ∧ v = .int .i64 ((k : Int) - 1) ∧ Drawn w wr ∧ Hid (xs.drop k = ys.drop k)) (fun v _ => (intOf v + 1).toNat)
  case atStart => exact ⟨xs.length, Nat.le_refl _, rfl, Drawn.refl _, Lib.hid (by rw [List.drop_of_length_le (Nat.le_refl _), List.drop_of_length_le (by have := HL.out; omega)])⟩
  case round =>
    obtain ⟨k, hk, rfl, hd, hr⟩ := hrel
    by_cases h0 : 0 < k
    · obtain ⟨j, rfl⟩ : ∃ j, k = j + 1 := ⟨k - 1, by omega⟩
      have hjb : j < ys.length := by have := HL.out; omega
      obtain ⟨ab, ao, rfl, hab, hca⟩ := NatsAt.cells HA.out (k := j) (by omega)
      obtain ⟨bb, bo, rfl, hbb, hcb⟩ := NatsAt.cells HB.out hjb
      have hxa := hca j (by omega)
      have hxb := hcb j hjb
      rw [← hd.cell] at hxa hxb
      obtain ⟨x, hx⟩ : ∃ x, xs.getD j 0 = x := ⟨_, rfl⟩
      obtain ⟨y, hy⟩ : ∃ y, ys.getD j 0 = y := ⟨_, rfl⟩
      rw [hx] at hxa
      rw [hy] at hxb
      have i0 : (0 : Int) ≤ ((j + 1 : Nat) : Int) - 1 := by omega
      have i1 : ((j + 1 : Nat) : Int) - 1 < (xs.length : Int) := by omega
      have i2 : (((j + 1 : Nat) : Int) - 1).toNat = j := by omega
      have i3 : ((j + 1 : Nat) : Int) - 1 < (ys.length : Int) := by omega
      have Hd := Lib.hid hd
      have Hx := Lib.hid hx
      have Hy := Lib.hid hy
      clear hca hcb hd hx hy
      rcases Nat.lt_trichotomy x y with hlt | heq | hgt
      · have hne : ((x : Int) != (y : Int)) = true := by rw [bne_iff_ne]; omega
        have hlt' : decide ((x : Int) < (y : Int)) = true := by simpa using hlt
        have hv : cmpN m n = -1 := by
          unfold cmpN
          rw [← Hva.out, ← Hvb.out, if_pos (val_cmp Hda.out (by omega) hjb hr.out (by rw [Hx.out, Hy.out]; exact hlt))]
        have Hv := Lib.hid hv
        clear hv
        go_wp2_with fail
        go_quiet (fail)
        go_wp2_with fail
        go_quiet (fail)
        go_wp2
        go_ret
        exact ⟨ret_int Hv.out.symm, by repeat (first | exact Hd.out | refine Drawn.drewN ?_ _)⟩
      · subst heq
        have hne : ((x : Int) != (x : Int)) = false := by simp
        have hr2 : xs.drop j = ys.drop j := by
          rw [List.drop_eq_getElem_cons (by omega), List.drop_eq_getElem_cons hjb, hr.out]
          have h1 := Hx.out
          have h2 := Hy.out
          rw [List.getD_eq_getElem?_getD, List.getElem?_eq_getElem (by omega)] at h1
          rw [List.getD_eq_getElem?_getD, List.getElem?_eq_getElem hjb] at h2
          simp at h1 h2
          rw [h1, h2]
        have Hr2 := Lib.hid hr2
        clear hr2
        go_wp2_with fail
        go_quiet (fail)
        go_wp2
        go_roundw
        case rel => exact ⟨j, by omega, by go_num, Hd.out.drewN _, Hr2⟩
        case measure => simp [intOf]
      · have hne : ((x : Int) != (y : Int)) = true := by rw [bne_iff_ne]; omega
        have hlt' : decide ((x : Int) < (y : Int)) = false := by simpa using Nat.le_of_lt hgt
        have hv : cmpN m n = 1 := by
          unfold cmpN
          have := val_cmp Hdb.out hjb (show j < xs.length by omega) hr.out.symm (by rw [Hx.out, Hy.out]; exact hgt)
          rw [← Hva.out, ← Hvb.out, if_neg (by omega), if_pos this]
        have Hv := Lib.hid hv
        clear hv
        go_wp2_with fail
        go_quiet (fail)
        go_wp2_with fail
        go_quiet (fail)
        go_wp2
        go_ret
        exact ⟨ret_int Hv.out.symm, by repeat (first | exact Hd.out | refine Drawn.drewN ?_ _)⟩
    · obtain rfl : k = 0 := by omega
      have hv : cmpN m n = 0 := by
        have := hr.out
        rw [List.drop_zero, List.drop_zero] at this
        unfold cmpN
        rw [← Hva.out, ← Hvb.out, this, if_neg (by omega), if_neg (by omega)]
      have Hv := Lib.hid hv
      clear hv
      go_wp2
      go_ret
      exact ⟨ret_int Hv.out.symm, hd⟩
end Go.Proofs.Ytlkajmdcffemeaa
