/- The walks of matrix.column and of its iterator. -/
import Derived.Test.YtlaoijfphkhchaaSum
import Derived.Test.YtlaoijfphkhchaaRange2
import Derived.Shelf.RegionOpen
import Derived.WalkKit
import Derived.WalkSpells
import Derived.WalkLawsBesides
import Derived.TacticsInMore
import Derived.LoopNIn
import Derived.LoopIn
import Derived.Deep.CutBlock
import Derived.Deep.DeepFit
import Derived.KernelRfl
import Derived.Lib.Hide
import Derived.Outline
namespace Go.Proofs.Ytlaoijfphkhchaa
open Go.RowKit Go.Shelf
attribute [local go_sem] Oper.semAt_some

theorem column_any (q : Option Addr) (n cq k : Nat) (w : World) :
    Calls Try.prog 123 #[.slice q n cq, .int .i64 (k : Int)] w fun e w' => e = .returned (.func (.func 131) #[] #[.pointer (some ⟨w.heap.size, 0, none⟩), .pointer (some ⟨w.heap.size + 1, 0, none⟩)]) ∧ w' = (w.alloc (.cells #[.slice q n cq] 63)).alloc (.cells #[.int .i64 (k : Int)] 3) := by
  go_enter Try.func123, Try.ntmps123
  go_wp2
  go_ret
  exact ⟨rfl, rfl⟩
def encC (x : Nat × Int) : Array Value := #[.int .i64 (x.1 : Int), .agg #[.bool (canon x.2).neg, .string (canon x.2).mag]]
/-- What has been yielded when j elements have. -/
def colL (G : Nat → Nat → Int) (k j : Nat) : List (Nat × Int) := (List.range j).map fun j => (j, G j k)
theorem colL_succ (G : Nat → Nat → Int) (k j : Nat) : colL G k (j + 1) = colL G k j ++ [(j, G j k)] := by unfold colL; rw [List.range_succ, List.map_append]; rfl
def GCol (G : Nat → Nat → Int) (n k : Nat) (pre : List (Nat × Int)) (x : Nat × Int) (_ : World) : Prop := ∃ j, j < n ∧ pre = colL G k j ∧ x = (j, G j k)
/-- What a round keeps: what lies below B, and the iterator's two boxes. -/
def KpCol (B Bm Bk : Nat) (W W' : World) : Prop := Below B W W' ∧ W'.heap[Bm]? = W.heap[Bm]? ∧ W'.heap[Bk]? = W.heap[Bk]?
theorem KpCol.trans {B Bm Bk : Nat} {X Y Z : World} (h : KpCol B Bm Bk X Y) (k : KpCol B Bm Bk Y Z) : KpCol B Bm Bk X Z := ⟨h.1.trans k.1, k.2.1.trans h.2.1, k.2.2.trans h.2.2⟩

set_option maxRecDepth 100000 in
set_option maxHeartbeats 4000000 in
theorem col1_in (l B Bm Bk n c k : Nat) (q : Option Addr) (cq : Nat) (G : Nat → Nat → Int) (J Jx : List (Nat × Int) → World → Prop) (hJ : AbT (fun _ _ => False) J)
    (hY : ∀ pre x W1, J pre W1 → GCol G n k pre x W1 → YieldAt Fence.wide 2 Try.prog l (encC x) W1 fun e W' => (e = .returned (.bool true) ∧ J (pre ++ [x]) W' ∧ KpCol B Bm Bk W1 W') ∨ (e = .returned (.bool false) ∧ Jx (pre ++ [x]) W'))
    (w0 W : World) (hB : w0.heap.size ≤ B) (hW : Below B w0 W) (hBm : B ≤ W.heap.size) (hm : Boxed W Bm 63 (.slice q n cq)) (hk : Boxed W Bk 3 (.int .i64 (k : Int))) (hG : MatF w0 q n c G) (hkc : k < c) (hn : n ≤ 1000000) (h0 : J [] W) :
    CallsIn Fence.wide 3 Try.prog 131 #[.func (.yield l) #[] #[], .pointer (some ⟨Bm, 0, none⟩), .pointer (some ⟨Bk, 0, none⟩)] W fun e W' => (∃ v, e = .returned v) ∧ ((∃ xs, xs = colL G k n ∧ J xs W') ∨ ∃ pre, Jx pre W') := by
  refine callsIn_of_wp Try.func131 rfl trivial ?_ rfl
  simp only [Try.ntmps131, List.size_toArray, List.length_cons, List.length_nil, Nat.reduceAdd, Nat.reduceSub, Array.replicate_succ, Array.replicate_zero, List.push_toArray, List.append_toArray, List.nil_append, List.cons_append]
  have hmc := hm.cell
  have HY := Lib.hid hY
  have HJ := Lib.hid hJ
  have HG := Lib.hid hG
  clear hY hJ hG
  refine wpIn_wide.2 ?_
  go_wp2
  go_loopw [8] (fun v wr => ∃ j : Nat, j ≤ n ∧ v = .int .i64 j ∧ Hid (Below B w0 wr) ∧ Hid (J (colL G k j) wr) ∧ Hid (Boxed wr Bm 63 (.slice q n cq)) ∧ Hid (Boxed wr Bk 3 (.int .i64 (k : Int)))) (fun v _ => n - (intOf v).toNat)
  case atStart => exact ⟨0, by omega, by go_num, Lib.hid hW, Lib.hid h0, Lib.hid hm, Lib.hid hk⟩
  case round =>
    clear hmc hm hk h0 hW hBm
    obtain ⟨j, hj, rfl, Hb, HJ1, Hm, Hk⟩ := hrel
    by_cases hlt : j < n
    · have hG1 := HG.out.below hB Hb.out
      obtain ⟨qb, qo, rfl, _, K, hK, hQ⟩ := hG1.cells hlt
      have b2 := hK j hlt
      obtain ⟨bb, bo, hqe, _, hbc⟩ := (hQ j hlt).cells hkc
      rw [hqe] at b2
      obtain ⟨b3, b4⟩ := hbc k hkc
      have hkc2 := Hk.out.cell
      have j0 : (0 : Int) ≤ (j : Int) := by omega
      have j1 : (j : Int) < (n : Int) := by omega
      have k0 : (0 : Int) ≤ (k : Int) := by omega
      have k1 : (k : Int) < (c : Int) := by omega
      obtain ⟨fn, tmps, assign, body, hyl, hR⟩ := HY.out (colL G k j) (j, G j k) wr HJ1.out ⟨j, hlt, rfl, rfl⟩
      dsimp only [encC] at hyl
      have hsuc := colL_succ G k j
      have HR := Lib.hid hR
      have Hsuc := Lib.hid hsuc
      obtain ⟨Y, hY⟩ : ∃ Y, canon (G j k) = Y := ⟨_, rfl⟩
      rw [hY] at b3 b4 hyl
      clear hG1 hK hQ hbc hqe hR hsuc hY
      go_upto_region 3 with (fail)
      refine (wpIn_wide (n := 3)).1 ?_
      gi_wp2
      refine HR.out.mono ?_
      rintro e W3 (⟨rfl, hJ3, hk3⟩ | ⟨rfl, hJx3⟩)
      · have HJ3 : Hid (J (colL G k (j + 1)) W3) := Lib.hid (by rw [Hsuc.out]; exact hJ3)
        have Hb3 := Lib.hid (Hb.out.trans hk3.1)
        have Hm3 : Hid (Boxed W3 Bm 63 (.slice (some ⟨qb, qo, none⟩) n cq)) := Lib.hid (hk3.2.1.trans Hm.out)
        have Hk3 : Hid (Boxed W3 Bk 3 (.int .i64 (k : Int))) := Lib.hid (hk3.2.2.trans Hk.out)
        clear hJ3 hk3 b2 b3 b4 hyl hkc2
        gi_wp2
        go_wp2
        go_roundw
        case rel => exact ⟨j + 1, by omega, by go_num, Hb3, HJ3, Hm3, Hk3⟩
        case measure => simp [intOf]; omega
      · have HJx := Lib.hid hJx3
        clear hJx3
        gi_wp2
        go_wp2
        refine bodyPost_ret (results_none rfl _ _ _) rfl ?_
        exact ⟨⟨_, rfl⟩, .inr ⟨_, HJx.out⟩⟩
    · have hjn : j = n := by omega
      subst hjn
      have j1 : ¬ (j : Int) < (j : Int) := by omega
      go_wp2
      go_end0
      exact ⟨⟨_, rfl⟩, .inl HJ1.out⟩
end Go.Proofs.Ytlaoijfphkhchaa
