/- slices.Max over ints; slices.Clone over cells of an encoder; reduction.with. -/
import Derived.Test.YtcafeffgaokiaaaK32
import Derived.OwnWalk
namespace Go.Proofs.Ytcafeffgaokiaaa
open Go.RowKit Go.Maps Go.Lib Go.Sort
def MaxPost (xs : List Int) (w : World) (e : Ending) (w' : World) : Prop := w' = w ∧ ∃ M, e = .returned (.int .i64 M) ∧ (∀ j, j < xs.length → xs.getD j 0 ≤ M) ∧ ∃ j, j < xs.length ∧ xs.getD j 0 = M
def bmx (a b : Int) : Int := if b > a then b else a
theorem run_bmx {P : Program} (ts : Array TypeId) (t : TypeId) (w : World) (a b : Int) : (Builtin.max_ ts t #[.int .i64 a, .int .i64 b]).run P w = .ok (.int .i64 (bmx a b)) w := rfl
set_option maxRecDepth 100000 in
set_option maxHeartbeats 4000000 in
theorem max_any (xs : List Int) (q : Option Addr) (c : Nat) (w : World) (hA : IntsAt w q xs) (h0 : 0 < xs.length) (hl : xs.length ≤ 1000) :
    Calls Try.prog 83 #[.slice q xs.length c] w (MaxPost xs w) := by
  obtain ⟨n, hn⟩ : ∃ n, xs.length = n := ⟨_, rfl⟩
  obtain ⟨b, o, rfl, hb, hc⟩ := hA.cells (k := 0) h0
  have HC := Lib.hid hc
  have c0 := hc 0 h0
  have HN := Lib.hid hn
  rw [hn] at h0 hl ⊢
  have l1 : ¬ (n : Int) < 1 := by omega
  have l0 : (0 : Int) < (n : Int) := by omega
  have hmx := @run_bmx Try.prog
  clear hc hn hA
  obtain ⟨x0, hx0⟩ : ∃ x, xs.getD 0 0 = x := ⟨_, rfl⟩
  rw [hx0, Nat.add_zero] at c0
  have HX0 := Lib.hid hx0
  clear hx0
  go_enter Try.func83, Try.ntmps83
  have HS0 : Hid ((∀ j, j < 1 → xs.getD j 0 ≤ x0) ∧ ∃ j, j < 1 ∧ xs.getD j 0 = x0) := Lib.hid (by
    refine ⟨fun j hj => ?_, 0, by omega, HX0.out⟩
    have e : j = 0 := by omega
    rw [e, HX0.out]
    exact Int.le_refl _)
  go_wp2
  go_loop [3, 4] (fun mv kv => ∃ (M : Int) (k : Nat), 1 ≤ k ∧ k ≤ n ∧ mv = .int .i64 M ∧ kv = .int .i64 (k : Nat) ∧ Hid ((∀ j, j < k → xs.getD j 0 ≤ M) ∧ ∃ j, j < k ∧ xs.getD j 0 = M)) (fun _ kv => n - (intOf kv).toNat)
  case atStart => exact ⟨x0, 1, Nat.le_refl _, by omega, rfl, rfl, HS0⟩
  case round =>
    obtain ⟨M, k, hk1, hk, rfl, rfl, HM⟩ := hrel
    by_cases hlt : k < n
    · have k0 : (0 : Int) ≤ (k : Int) := by omega
      have k1 : (k : Int) < (n : Int) := by omega
      have ck := HC.out k (by rw [HN.out]; exact hlt)
      obtain ⟨x, hx⟩ : ∃ x, xs.getD k 0 = x := ⟨_, rfl⟩
      rw [hx] at ck
      obtain ⟨M2, hM2⟩ : ∃ y, bmx M x = y := ⟨_, rfl⟩
      have HM2 : Hid ((∀ j, j < k + 1 → xs.getD j 0 ≤ M2) ∧ ∃ j, j < k + 1 ∧ xs.getD j 0 = M2) := Lib.hid (by
        obtain ⟨h1, j0, hj0, e0⟩ := HM.out
        have hle : M ≤ M2 ∧ x ≤ M2 ∧ (M2 = M ∨ M2 = x) := by
          unfold bmx at hM2
          split at hM2 <;> omega
        refine ⟨fun j hj => ?_, ?_⟩
        · by_cases e : j = k
          · rw [e, hx]; exact hle.2.1
          · have := h1 j (by omega); omega
        · rcases hle.2.2 with e | e
          · exact ⟨j0, by omega, by rw [e]; exact e0⟩
          · exact ⟨k, by omega, by rw [e]; exact hx⟩)
      clear hx c0
      go_wp2
      go_round
      case rel => exact ⟨M2, k + 1, by omega, by omega, rfl, by go_num, HM2⟩
      case measure => simp [intOf]; omega
    · have k1 : ¬ (k : Int) < (n : Int) := by omega
      have hke : k = n := by omega
      have HR : Hid (MaxPost xs w (.returned (.int .i64 M)) w) := Lib.hid ⟨rfl, M, rfl, by rw [HN.out, ← hke]; exact HM.out.1, by rw [HN.out, ← hke]; exact HM.out.2⟩
      clear hke c0
      go_wp2
      go_ret
      exact HR.out
/-- Cells that a call owns. -/
def celL (y : Int × ByteArray) : List Value := [.int .i64 y.1, .string y.2]
def OwnC (W : World) (base : Nat) (v : Value) (ys : List (Int × ByteArray)) : Prop := W.ownsRow base 84 2 v ys.length (ys.flatMap celL)
theorem cellInfo : (Try.prog.info? 84).map (fun i => (i.zero, i.size, i.bytes)) = some (some (.agg #[.int .i64 0, .string ⟨#[]⟩]), 2, 24) := by kernel_rfl
theorem cel_len (ys : List (Int × ByteArray)) : (ys.flatMap celL).length = ys.length * 2 := by
  induction ys with
  | nil => rfl
  | cons y ys ih => rw [List.flatMap_cons, List.length_append, ih, List.length_cons]; simp [celL]; omega
theorem cel_get : ∀ (ys : List (Int × ByteArray)) (k : Nat) (hk : k < ys.length), (ys.flatMap celL)[k * 2]? = some (.int .i64 ys[k].1) ∧ (ys.flatMap celL)[k * 2 + 1]? = some (.string ys[k].2)
  | [], k, hk => by cases hk
  | y :: ys, 0, _ => by simp [celL]
  | y :: ys, k + 1, hk => by
    have := cel_get ys k (by simpa using hk)
    rw [List.flatMap_cons]
    rw [List.getElem?_append_right (by simp [celL]; omega), List.getElem?_append_right (by simp [celL]; omega)]
    have e1 : (k + 1) * 2 - (celL y).length = k * 2 := by simp [celL]; omega
    have e2 : (k + 1) * 2 + 1 - (celL y).length = k * 2 + 1 := by simp [celL]; omega
    rw [e1, e2]
    exact this
set_option maxRecDepth 100000 in
theorem clonec_any (ys : List (Int × ByteArray)) (b off c : Nat) (w : World) (hlt : b < w.heap.size) (hc : ∀ k (hk : k < ys.length), w.cell? ⟨b, off + k * 2, none⟩ = some (.int .i64 ys[k].1) ∧ w.cell? ⟨b, off + k * 2 + 1, none⟩ = some (.string ys[k].2)) (hn : ys.length ≤ 1000) :
    Calls Try.prog 55 #[.slice (some ⟨b, off, none⟩) ys.length c] w fun e w' => ∃ v, e = .returned v ∧ OwnC w' w.heap.size v ys ∧ Below w.heap.size w w' := by
  obtain ⟨i0, hi, hz0, hz1, hz2⟩ := info_parts cellInfo
  have hown : (w.alloc (.cells #[] 84)).ownsRow w.heap.size 84 2 (.slice (some ⟨w.heap.size, 0, none⟩) 0 0) 0 [] := World.ownsRow_made w #[] 0 (Nat.le_refl _) (by simp [maxLen]) rfl
  have hsrc : ∀ j u, (ys.flatMap celL)[j]? = some u → (w.alloc (.cells #[] 84)).cell? ((⟨b, off, none⟩ : Addr).add j) = some u := fun j u hj => by
    have hjl : j < ys.length * 2 := by rw [← cel_len]; exact (List.getElem?_eq_some_iff.1 hj).1
    have hq : j / 2 < ys.length := by omega
    obtain ⟨c1, c2⟩ := hc (j / 2) hq
    obtain ⟨g1, g2⟩ := cel_get ys (j / 2) hq
    rw [Addr.add_lit]
    have hkeep : ∀ o, (w.alloc (.cells #[] 84)).cell? ⟨b, o, none⟩ = w.cell? ⟨b, o, none⟩ := fun o => by
      unfold World.cell?
      rw [Below.heap_alloc _ _ _ (show b < w.heap.size from hlt)]
    rw [hkeep]
    rcases Nat.mod_two_eq_zero_or_one j with hm | hm
    · have e : j / 2 * 2 = j := by omega
      rw [e] at g1 c1
      rw [c1, ← g1, hj]
    · have e : j / 2 * 2 + 1 = j := by omega
      have e2 : off + j / 2 * 2 + 1 = off + j := by omega
      rw [e] at g2
      rw [e2] at c2
      rw [c2, ← g2, hj]
  have heq : ∀ (n : Nat) (w : World), (binOp .eql 82 (.slice (some ⟨b, off, none⟩) n c) (.slice none 0 0)).run Try.prog w = .ok (.bool false) w := fun n w => by
    kernel_rfl
  go_enter Try.func55, Try.ntmps55
  go_wp2_with (at_builtin; refine wpList_append_own _ rfl _ _ _ rfl w.heap.size 84 i0 (.agg #[.int .i64 0, .string ⟨#[]⟩]) 2 24 Try.underlying82 hi hz0 hz1 hz2 rfl (by decide) _ 0 [] rfl hown ⟨b, off, none⟩ ys.length c (ys.flatMap celL) rfl (cel_len ys) hsrc ?_ ?_ ?_ ?_ ?_)
  · intro u hu
    obtain ⟨y, _, hy⟩ := List.mem_flatMap.1 hu
    simp [celL] at hy
    rcases hy with rfl | rfl <;> rfl
  · unfold maxLen; omega
  · omega
  · simp
  · intro v' w' h2 h3 _
    have hb : Below w.heap.size w w' := below_append ((Below.refl _ w).alloc (Nat.le_refl _) _) hown h3 (by simp) (Nat.le_refl _)
    have HB := Lib.hid hb
    have HO : Hid (OwnC w' w.heap.size v' ys) := Lib.hid (by unfold OwnC; simpa using h2)
    clear h2 h3 hb hown hsrc hc
    go_wp2
    go_ret
    exact ⟨_, rfl, HO.out, HB.out⟩
set_option maxHeartbeats 1000000 in
theorem with_any (l b i : Int) (p : Option Addr) (r c : Nat) (q : Option Addr) (n cq : Nat) (w : World) :
    Calls Try.prog 56 #[.agg #[.int .i64 l, .int .i64 b, .int .i64 i, .slice p r c], .slice q n cq] w fun e w' => e = .returned (.agg #[.int .i64 l, .int .i64 b, .int .i64 i, .slice q n cq]) ∧ Below w.heap.size w w' := by
  go_enter Try.func56, Try.ntmps56
  go_wp2
  have h := World.alloc_heap_new (w.alloc (.cells #[.int .i64 l, .int .i64 b, .int .i64 i, .slice q n cq] 24)) (.cells #[.int .i64 l, .int .i64 b, .int .i64 i, .slice q n cq] 24)
  rw [World.size_alloc] at h
  refine bodyPost_ret (results_cell_row rfl _ _ _ _ _ _ _ rfl h Try.underlying24 rfl (by kernel_rfl)) rfl ?_
  exact ⟨rfl, ((Below.refl _ w).alloc (Nat.le_refl _) _).alloc (by simp) _⟩
end Go.Proofs.Ytcafeffgaokiaaa
