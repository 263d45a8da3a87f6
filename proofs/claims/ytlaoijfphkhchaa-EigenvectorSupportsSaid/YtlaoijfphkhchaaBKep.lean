/- graph.checkSet, keep, Keep: the walks. -/
import Derived.Test.YtlaoijfphkhchaaBSpl
import Derived.Test.YtlaoijfphkhchaaB19
import Derived.OwnWalk
namespace Go.Proofs.Ytlaoijfphkhchaa
open Go.RowKit Go.Shelf

set_option maxRecDepth 100000 in
set_option maxHeartbeats 4000000 in
theorem checkSet_ok (L : Int) (N n : Nat) (p : Option Addr) (c : Nat) (zs : List Int) (pz : Option Addr) (cz : Nat) (hr : ∀ k, k < zs.length → 0 ≤ zs.getD k 0 ∧ zs.getD k 0 < (N : Int)) (hlt : ∀ k, 0 < k → k < zs.length → zs.getD (k - 1) 0 < zs.getD k 0) (hl : zs.length ≤ 1000000) (w : World) (hZ : IntsAt w pz zs) :
    Calls Try.prog 73 #[.agg #[.int .i64 L, .int .i64 (N : Int), .slice p n c], .slice pz zs.length cz] w fun e w' => e = .returned (.int .i64 0) ∧ Below w.heap.size w w' := by
  obtain ⟨W1, hW1⟩ : ∃ W, w.alloc (.cells #[.int .i64 L, .int .i64 (N : Int), .slice p n c] 24) = W := ⟨_, rfl⟩
  have hb0 : Below w.heap.size w W1 := by rw [← hW1]; exact (Below.refl _ _).alloc (Nat.le_refl _) _
  have hbx : BoxAt3 W1 w.heap.size (.int .i64 L) (.int .i64 (N : Int)) (.slice p n c) := by rw [← hW1]; exact BoxAt3.new w _ _ _ _
  have HZ := Lib.hid (show IntsAt W1 pz zs from hZ.below (Nat.le_refl _) hb0)
  have Hb0 := Lib.hid hb0
  have Hr := Lib.hid hr
  have Hlt := Lib.hid hlt
  obtain ⟨len, hlen⟩ : ∃ l, zs.length = l := ⟨_, rfl⟩
  rw [hlen] at hl ⊢
  have Hlen := Lib.hid hlen
  obtain ⟨_, c0, c1, c2⟩ := hbx
  clear hZ hb0 hr hlt hlen
  go_enter Try.func73, Try.ntmps73
  go_wp2
  try rw [hW1]
  clear hW1
  go_loopw [9] (fun iv wr => ∃ k : Nat, k ≤ len ∧ iv = .int .i64 (k : Nat) ∧ wr = W1) (fun iv _ => len - (intOf iv).toNat)
  case atStart => exact ⟨0, by omega, by go_num, rfl⟩
  case round =>
    obtain ⟨k, hk, rfl, rfl⟩ := hrel
    by_cases hkl : k < len
    · have i1 : (k : Int) < (len : Int) := by omega
      have i0 : (0 : Int) ≤ (k : Int) := by omega
      obtain ⟨b, off, rfl, _, hc⟩ := IntsAt.cells HZ.out (by rw [Hlen.out]; exact hkl)
      have x0 := hc k (by rw [Hlen.out]; exact hkl)
      obtain ⟨h1, h2⟩ := Hr.out k (by rw [Hlen.out]; exact hkl)
      have Hl2 := Lib.hid (fun h => Hlt.out k h (by rw [Hlen.out]; exact hkl))
      have Hcc := Lib.hid (fun (h : 0 < k) => hc (k - 1) (by rw [Hlen.out]; omega))
      obtain ⟨z, hz⟩ : ∃ z, zs.getD k 0 = z := ⟨_, rfl⟩
      rw [hz] at x0 h1 h2 Hl2
      have l1 : ¬ z < 0 := by omega
      have l2 : ¬ z ≥ (N : Int) := by omega
      clear hc hz h1 h2
      by_cases hk0 : k = 0
      · have k0 : decide ((k : Int) > 0) = false := by rw [decide_eq_false_iff_not]; omega
        have k0b : decide (0 < k) = false := by rw [decide_eq_false_iff_not]; omega
        clear hk0 Hl2 Hcc
        go_wp2
        go_roundw
        case rel => exact ⟨k + 1, by omega, by go_num, by first | trivial | rfl⟩
        case measure => simp [intOf]; omega
      · have k0 : decide ((k : Int) > 0) = true := by rw [decide_eq_true_eq]; omega
        have k0b : decide (0 < k) = true := by rw [decide_eq_true_eq]; omega
        have km : ((k : Int) - 1).toNat = k - 1 := by omega
        have wk : IntKind.i64.wrap ((k : Int) - 1) = (k : Int) - 1 := IntWalk.i64_in _ (by omega)
        have k1 : (0 : Int) ≤ (k : Int) - 1 := by omega
        have k3 : (1 : Int) ≤ (k : Int) := by omega
        have k2 : (k : Int) - 1 < (len : Int) := by omega
        have x1 := Hcc.out (by omega)
        have h5 := Hl2.out (by omega)
        obtain ⟨z0, hz0⟩ : ∃ z, zs.getD (k - 1) 0 = z := ⟨_, rfl⟩
        rw [hz0] at x1 h5
        obtain ⟨m, hm⟩ : ∃ m, k - 1 = m := ⟨_, rfl⟩
        rw [hm] at km x1
        have l5 : ¬ z ≤ z0 := by omega
        clear hk0 Hl2 Hcc hz0 hm h5
        go_wp2
        go_roundw
        case rel => exact ⟨k + 1, by omega, by go_num, by first | trivial | rfl⟩
        case measure => simp [intOf]; omega
    · have i1 : ¬ (k : Int) < (len : Int) := by omega
      go_wp2
      go_ret
      exact ⟨rfl, Hb0.out⟩
/-- The cells of edges. -/
def eL (L : List (Int × Int × Int)) : List Value := L.flatMap fun x => [.int .i64 x.1, .int .i64 x.2.1, .int .i64 x.2.2]
theorem eL_append (L M : List (Int × Int × Int)) : eL (L ++ M) = eL L ++ eL M := List.flatMap_append ..
theorem eL_cons (x : Int × Int × Int) (L : List (Int × Int × Int)) : eL (x :: L) = .int .i64 x.1 :: .int .i64 x.2.1 :: .int .i64 x.2.2 :: eL L := rfl
theorem eL_length (L : List (Int × Int × Int)) : (eL L).length = L.length * 3 := by
  induction L with
  | nil => rfl
  | cons x L ih => rw [eL_cons, List.length_cons, List.length_cons, List.length_cons, ih, List.length_cons]; omega
theorem eL_get (L : List (Int × Int × Int)) : ∀ k, k < L.length → ∀ j, j < 3 → (eL L)[k * 3 + j]? = some (edC (edOf L) k j) := by
  induction L with
  | nil => intro k hk; cases hk
  | cons x L ih =>
    intro k hk j hj
    rw [eL_cons]
    match k, hk with
    | 0, _ =>
      rcases (show j = 0 ∨ j = 1 ∨ j = 2 by omega) with rfl | rfl | rfl <;> rfl
    | k + 1, hk =>
      have h := ih k (by simpa using hk) j hj
      rw [show (k + 1) * 3 + j = k * 3 + j + 1 + 1 + 1 from by omega]
      simp only [List.getElem?_cons_succ]
      rw [h]
      unfold edC edOf
      rw [List.getD_cons_succ]
def OwnE (w : World) (B : Nat) (v : Value) (L : List (Int × Int × Int)) : Prop := w.ownsRow B 97 3 v L.length (eL L)
theorem OwnE.nil (w : World) (B : Nat) : OwnE w B (.slice none 0 0) [] := World.ownsRow_nil _ _ _ _
theorem OwnE.below {w w' : World} {B C : Nat} {v : Value} {L : List (Int × Int × Int)} (h : OwnE w B v L) (hB : w.heap.size ≤ C) (hb : Below C w w') : OwnE w' B v L := ownsRow_below h hB hb
theorem OwnE.alloc {w : World} {B : Nat} {v : Value} {L : List (Int × Int × Int)} (h : OwnE w B v L) (o : Obj) : OwnE (w.alloc o) B v L := World.ownsRow.alloc h o
theorem OwnE.form {w : World} {B : Nat} {v : Value} {L : List (Int × Int × Int)} (h : OwnE w B v L) : ∃ p cap, v = .slice p L.length cap ∧ L.length ≤ cap ∧ EdgAt w p L.length (edOf L) ∧ (∀ b, p = some b → B ≤ b.block) :=
  slAt_of_owns h (edC (edOf L)) (eL_get L)
theorem edInfo : (Try.prog.info? 97).map (fun i => (i.zero, i.size, i.bytes)) = some (some (.agg #[.int .i64 0, .int .i64 0, .int .i64 0]), 3, 24) := by kernel_rfl
/-- append(out, x) of one edge. -/
theorem wpList_append_edge {ops : Array Oper} {rest : List Oper} {o : Oper} {a : Act} {Q : Exit → Act → World → Prop} {w : World} (hgd : o.guard = none) (s x : Operand)
    (ho : o.op = .call { callee := .builtin .append, args := #[s, x], argTypes := #[22, 22] })
    (base : Nat) (v : Value) (L : List (Int × Int × Int)) (hs : a.eval s = v) (hown : OwnE w base v L) (g c : Nat) (y : Int × Int × Int) (hx : a.eval x = .slice (some ⟨g, 0, none⟩) 1 c)
    (h0 : w.cell? ⟨g, 0, none⟩ = some (.int .i64 y.1)) (h1 : w.cell? ⟨g, 1, none⟩ = some (.int .i64 y.2.1)) (h2 : w.cell? ⟨g, 2, none⟩ = some (.int .i64 y.2.2)) (hn : L.length < 1000000000) (hbase : base ≤ w.heap.size)
    (h : ∀ v' w', OwnE w' base v' (L ++ [y]) → w.grownBy w' v.ownBlock → wpList Try.prog ops Q rest (a.put o.dst v') w') : wpList Try.prog ops Q (o :: rest) a w := by
  obtain ⟨i0, hi, hzz⟩ := Option.map_eq_some_iff.1 edInfo
  simp only [Prod.mk.injEq] at hzz
  obtain ⟨hz0, hz1, hz2⟩ := hzz
  refine wpList_append_own _ hgd s x _ ho base 97 i0 (.agg #[.int .i64 0, .int .i64 0, .int .i64 0]) 3 24 Try.underlying22 hi hz0 hz1 hz2 rfl (by decide) v L.length (eL L) hs hown ⟨g, 0, none⟩ 1 c (eL [y]) hx rfl ?_ ?_ ?_ ?_ hbase ?_
  · intro j u hj
    match j, hj with
    | 0, hj => simp [eL] at hj; subst hj; simpa [Addr.add] using h0
    | 1, hj => simp [eL] at hj; subst hj; simpa [Addr.add] using h1
    | 2, hj => simp [eL] at hj; subst hj; simpa [Addr.add] using h2
  · intro u hu
    simp [eL] at hu
    rcases hu with rfl | rfl | rfl <;> rfl
  · unfold maxLen; omega
  · omega
  · intro v' w' h3 h4 _
    exact h v' w' (by unfold OwnE; rw [List.length_append, eL_append]; exact h3) h4
end Go.Proofs.Ytlaoijfphkhchaa
