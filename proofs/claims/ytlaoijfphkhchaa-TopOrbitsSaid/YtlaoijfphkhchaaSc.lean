/- The walks of matrix.scalar and sum, with their closures. -/
import Derived.Test.YtlaoijfphkhchaaTab
import Derived.RangeFuncBox
import Derived.Shelf.Abstract
namespace Go.Proofs.Ytlaoijfphkhchaa
open Go.RowKit Go.Shelf

set_option maxRecDepth 100000 in
set_option maxHeartbeats 2000000 in
theorem scalar1_any (i k g : Nat) (N : Int) (w : World) (h0 : w.cell? ⟨g, 0, none⟩ = some (.bool (canon N).neg)) (h1 : w.cell? ⟨g, 1, none⟩ = some (.string (canon N).mag)) :
    Calls Try.prog 121 #[.int .i64 (i : Int), .int .i64 (k : Int), .pointer (some ⟨g, 0, none⟩)] w (RetZ (canon (if i = k then N else 0)) w) := by
  have hg : g < w.heap.size := World.block_lt_of_cell? _ _ h0
  have c0 : canon 0 = ⟨false, ⟨#[]⟩⟩ := by rfl
  by_cases e : i = k
  · rw [if_pos e]
    have eI : ((i : Int) == (k : Int)) = true := by rw [e]; exact beq_self_eq_true _
    clear e
    generalize canon N = Z at *
    have hne : ¬ w.heap.size = g := by omega
    go_enter Try.func121, Try.ntmps121
    go_wp2
    refine bodyPost_ret (v := .agg #[.bool Z.neg, .string Z.mag]) ?_ rfl ⟨rfl, ?_⟩
    · simp [results, Try.results121, go_sem]
    · first
        | exact (Below.refl _ _).alloc (Nat.le_refl _) _
        | exact (((Below.refl _ _).alloc (Nat.le_refl _) _).setCell (Nat.le_refl _) _).setCell (Nat.le_refl _) _
  · rw [if_neg e, c0]
    have eI : ((i : Int) == (k : Int)) = false := by rw [beq_eq_false_iff_ne]; omega
    clear e
    go_enter Try.func121, Try.ntmps121
    go_wp2
    refine bodyPost_ret (v := .agg #[.bool false, .string ⟨#[]⟩]) ?_ rfl ⟨rfl, ?_⟩
    · simp [results, Try.results121, go_sem]
    · first
        | exact (Below.refl _ _).alloc (Nat.le_refl _) _
        | exact (((Below.refl _ _).alloc (Nat.le_refl _) _).setCell (Nat.le_refl _) _).setCell (Nat.le_refl _) _

set_option maxRecDepth 100000 in
set_option maxHeartbeats 2000000 in
theorem scalar_any (N : Int) (n : Nat) (hn : n ≤ 1000000) (w : World) :
    Calls Try.prog 103 #[.agg #[.bool (canon N).neg, .string (canon N).mag], .int .i64 (n : Int)] w (RetOwn n n (fun i k => if i = k then N else 0) w) := by
  have HT := Lib.hid (table_any n n hn hn 121 #[.pointer (some ⟨w.heap.size, 0, none⟩)] (fun i k => if i = k then N else 0) (w.alloc (.cells #[.bool (canon N).neg, .string (canon N).mag] 28)) (enters_of Try.func121 (by kernel_rfl) rfl) (fun i k W hi hk hW => by
    refine scalar1_any i k w.heap.size N W ?_ ?_
    · rw [hW.cell (p := ⟨w.heap.size, 0, none⟩) (by simp)]; simp
    · rw [hW.cell (p := ⟨w.heap.size, 1, none⟩) (by simp)]; simp))
  generalize canon N = Z at *
  go_enter Try.func103, Try.ntmps103
  go_wp2_with fail
  refine HT.out.mono ?_
  rintro e w2 h
  obtain ⟨g, rfl, hm, hb⟩ := h
  have hm := hm.low (C := w.heap.size) (by simp)
  have Hm := Lib.hid hm
  have Hb : Hid (Below w.heap.size w w2) := Lib.hid (((Below.refl w.heap.size w).alloc (Nat.le_refl _) _).trans (hb.mono (by simp)))
  clear hm hb
  go_wp2
  go_ret
  exact ⟨g, rfl, Hm.out, Hb.out⟩
end Go.Proofs.Ytlaoijfphkhchaa
