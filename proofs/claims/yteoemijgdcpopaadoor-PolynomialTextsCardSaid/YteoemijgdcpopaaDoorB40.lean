/- The walks of polynomial.descending and of its iterator. -/
import Derived.Test.YteoemijgdcpopaaDoorB12
import Derived.Test.YteoemijgdcpopaaDoorB15
import Derived.Shelf.RegionOpen
import Derived.WalkKit
import Derived.WalkSpells
import Derived.WalkLawsBesides
import Derived.TacticsInMore
import Derived.LoopNIn
import Derived.LoopIn
import Derived.Deep.CutBlock
import Derived.Deep.DeepFit
import Derived.KernelRfl
import Derived.Lib.Hide
import Derived.Outline
namespace Go.Proofs.YteoemijgdcpopaaDoor
open Go.RowKit Go.Shelf
attribute [local go_sem] Oper.semAt_some

theorem descending_any (q : Option Addr) (n cq : Nat) (w : World) :
    Calls Tryd.prog 47 #[.slice q n cq] w fun e w' => e = .returned (.func (.func 80) #[] #[.pointer (some ⟨w.heap.size, 0, none⟩)]) ∧ w' = w.alloc (.cells #[.slice q n cq] 22) := by
  go_enter Tryd.func47, Tryd.ntmps47
  go_wp2
  go_ret
  exact ⟨rfl, rfl⟩
def encD (x : Nat × Int) : Array Value := #[.int .i64 (x.1 : Int), .agg #[.bool (canon x.2).neg, .string (canon x.2).mag]]
/-- What has been yielded when the coefficients from k on have. -/
def desL (F : Nat → Int) (n k : Nat) : List (Nat × Int) := (List.range (n - k)).map fun t => (n - 1 - t, F (n - 1 - t))
theorem desL_succ (F : Nat → Int) {n k : Nat} (h : k < n) : desL F n k = desL F n (k + 1) ++ [(k, F k)] := by
  unfold desL
  rw [show n - k = (n - (k + 1)) + 1 from by omega, List.range_succ, List.map_append, show n - (k + 1) = n - 1 - k from by omega]
  simp [show n - 1 - (n - 1 - k) = k from by omega]
theorem desL_top (F : Nat → Int) (n : Nat) : desL F n n = [] := by simp [desL]
theorem desL_inj {F : Nat → Int} {n a b : Nat} (ha : a ≤ n) (hb : b ≤ n) (h : desL F n a = desL F n b) : a = b := by
  have := congrArg List.length h
  simp [desL] at this
  omega
def GDes (F : Nat → Int) (n : Nat) (pre : List (Nat × Int)) (x : Nat × Int) (_ : World) : Prop := ∃ k, k < n ∧ pre = desL F n (k + 1) ∧ x = (k, F k)

set_option maxRecDepth 100000 in
set_option maxHeartbeats 4000000 in
theorem des1_in (l Bm n : Nat) (q : Option Addr) (cq : Nat) (F : Nat → Int) (J Jx : List (Nat × Int) → World → Prop) (Kp : World → World → Prop) (K : World → Prop) (hK1 : ∀ W, K W → RowF W q n F ∧ Boxed W Bm 22 (.slice q n cq)) (hK2 : ∀ A B, K A → Kp A B → K B)
    (hY : ∀ pre x W1, J pre W1 → GDes F n pre x W1 → YieldAt Fence.wide 2 Tryd.prog l (encD x) W1 fun e W' => (e = .returned (.bool true) ∧ J (pre ++ [x]) W' ∧ Kp W1 W') ∨ (e = .returned (.bool false) ∧ Jx (pre ++ [x]) W'))
    (W : World) (hW : K W) (hn : n ≤ 1000000) (h0 : J [] W) :
    CallsIn Fence.wide 3 Tryd.prog 80 #[.func (.yield l) #[] #[], .pointer (some ⟨Bm, 0, none⟩)] W fun e W' => (∃ v, e = .returned v) ∧ ((∃ xs, xs = desL F n 0 ∧ J xs W') ∨ ∃ pre, Jx pre W') := by
  refine callsIn_of_wp Tryd.func80 rfl trivial ?_ rfl
  simp only [Tryd.ntmps80, List.size_toArray, List.length_cons, List.length_nil, Nat.reduceAdd, Nat.reduceSub, Array.replicate_succ, Array.replicate_zero, List.push_toArray, List.append_toArray, List.nil_append, List.cons_append]
  have hmc := (hK1 W hW).2.cell
  have HY := Lib.hid hY
  have HK1 := Lib.hid hK1
  have HK2 := Lib.hid hK2
  clear hY hK1 hK2
  refine wpIn_wide.2 ?_
  go_wp2
  go_loopw [3] (fun v wr => ∃ j : Nat, j ≤ n ∧ v = .int .i64 ((j : Int) - 1) ∧ Hid (K wr) ∧ Hid (J (desL F n j) wr)) (fun v _ => (intOf v + 1).toNat)
  case atStart => exact ⟨n, Nat.le_refl _, by go_num, Lib.hid hW, Lib.hid (by rw [desL_top]; exact h0)⟩
  case round =>
    clear hmc h0 hW
    obtain ⟨j, hj, rfl, Hb, HJ1⟩ := hrel
    by_cases hj0 : 0 < j
    · obtain ⟨k, rfl⟩ : ∃ k, j = k + 1 := ⟨j - 1, by omega⟩
      rw [show ((k + 1 : Nat) : Int) - 1 = (k : Int) from by omega]
      have hlt : k < n := by omega
      obtain ⟨hG1, hm1⟩ := HK1.out wr Hb.out
      obtain ⟨bb, bo, rfl, _, hbc⟩ := hG1.cells hlt
      obtain ⟨b3, b4⟩ := hbc k hlt
      have hmc := hm1.cell
      have k0 : (0 : Int) ≤ (k : Int) := by omega
      have k1 : (k : Int) < (n : Int) := by omega
      obtain ⟨fn, tmps, assign, body, hyl, hR⟩ := HY.out (desL F n (k + 1)) (k, F k) wr HJ1.out ⟨k, hlt, rfl, rfl⟩
      dsimp only [encD] at hyl
      have hsuc := desL_succ F hlt
      have HR := Lib.hid hR
      have Hsuc := Lib.hid hsuc
      obtain ⟨Y, hY⟩ : ∃ Y, canon (F k) = Y := ⟨_, rfl⟩
      rw [hY] at b3 b4 hyl
      clear hG1 hm1 hbc hR hsuc hY
      go_upto_region 3 with (fail)
      refine (wpIn_wide (n := 3)).1 ?_
      gi_wp2
      refine HR.out.mono ?_
      rintro e W3 (⟨rfl, hJ3, hk3⟩ | ⟨rfl, hJx3⟩)
      · have HJ3 : Hid (J (desL F n k) W3) := Lib.hid (by rw [Hsuc.out]; exact hJ3)
        have Hb3 := Lib.hid (HK2.out _ _ Hb.out hk3)
        clear hJ3 hk3 b3 b4 hyl hmc
        gi_wp2
        go_wp2
        go_roundw
        case rel => exact ⟨k, by omega, by go_num, Hb3, HJ3⟩
        case measure => simp [intOf]
      · have HJx := Lib.hid hJx3
        clear hJx3
        gi_wp2
        go_wp2
        refine bodyPost_ret (results_none rfl _ _ _) rfl ?_
        exact ⟨⟨_, rfl⟩, .inr ⟨_, HJx.out⟩⟩
    · obtain rfl : j = 0 := by omega
      go_wp2
      go_end0
      exact ⟨⟨_, rfl⟩, .inl ⟨_, rfl, HJ1.out⟩⟩
end Go.Proofs.YteoemijgdcpopaaDoor
