/- slices.Repeat at []int; eigenvector: whole, Search. -/
import Derived.Test.YtlaoijfphkhchaaB31
import Derived.Laws.CopyRow
import Derived.Lib.SlBuf
namespace Go.Proofs.Ytlaoijfphkhchaa
open Go.RowKit Go.Shelf
/-- The first j cells of a block of N integers are k. -/
def RepB (w : World) (g N j : Nat) (k : Int) : Prop := ∃ cur : Array Value, w.heap[g]? = some (.cells cur 3 (0, 0)) ∧ cur.size = N ∧ ∀ i, i < j → cur[i]? = some (.int .i64 k)
theorem RepB.row {w : World} {g N : Nat} {k : Int} (h : RepB w g N N k) : VAt w g N (fun _ => k) := by
  obtain ⟨cur, hh, hs, hc⟩ := h
  refine ⟨(Array.getElem?_eq_some_iff.1 hh).1, fun i hi => ⟨?_, ?_⟩⟩
  · unfold World.cell?; simp only [hh]; simpa using hc i hi
  · unfold World.frozen?; simp only [hh]; simp
theorem RepB.made (w : World) (N : Nat) (k : Int) : RepB (w.alloc (.cells (madeCells #[.int .i64 0] N) 3)) w.heap.size N 0 k :=
  ⟨_, heap_alloc_new w _, by simp [madeCells], fun i hi => by omega⟩
theorem RepB.put {w : World} {g N j m : Nat} {k : Int} {cur : Array Value} (hh : w.heap[g]? = some (.cells cur 3 (0, 0))) (hs : cur.size = N) (hc : ∀ i, i < j → cur[i]? = some (.int .i64 k)) (hm : j + m ≤ N) :
    RepB (w.setRow g (cur.toList.take j ++ List.replicate m (Value.int .i64 k) ++ cur.toList.drop (j + m)).toArray) g N (j + m) k := by
  refine ⟨_, setRow_heap w g cur _ _ _ hh, by simp; omega, fun i hi => ?_⟩
  rw [List.getElem?_toArray, List.append_assoc]
  have ht : (cur.toList.take j).length = j := by simp; omega
  by_cases h1 : i < j
  · rw [List.getElem?_append_left (by rw [ht]; exact h1), List.getElem?_take_of_lt h1]
    simpa using hc i h1
  · rw [List.getElem?_append_right (by rw [ht]; omega), ht, List.getElem?_append_left (by rw [List.length_replicate]; omega), List.getElem?_replicate, if_pos (by omega)]
theorem copy_rep {w : World} {g N j l : Nat} {k : Int} {cur : Array Value} (hh : w.heap[g]? = some (.cells cur 3 (0, 0))) (a : Addr) (sl sc dc : Nat) (hsrc : ∀ i, i < l → w.cell? (a.add i) = some (.int .i64 k)) (hl : l = Nat.min sl (N - j)) (hj : j + l ≤ cur.size) (ty : TypeId) :
    (Builtin.copy_ #[38, 38] ty #[.slice (some ⟨g, j, none⟩) (N - j) dc, .slice (some a) sl sc]).run Try.prog w = .ok (goInt l) (w.setRow g (cur.toList.take j ++ List.replicate l (Value.int .i64 k) ++ cur.toList.drop (j + l)).toArray) := by
  have h := run_copy_row (P := Try.prog) w 38 38 ty 3 g j (N - j) dc a sl sc cur 3 (List.replicate l (Value.int .i64 k)) Try.underlying38 (by
    obtain ⟨i, hi, hz⟩ := Option.map_eq_some_iff.1 intInfo
    simp only [Prod.mk.injEq] at hz
    rw [hi]; exact congrArg some hz.2.1) hh (by rw [List.length_replicate]; exact hl) (fun i v hv => by
      rw [List.getElem?_replicate] at hv
      split at hv
      · cases hv; exact hsrc i (by assumption)
      · cases hv) (by rw [List.length_replicate]; exact hj) (fun v hv => by rw [List.eq_of_mem_replicate hv]; rfl)
  rw [List.length_replicate] at h
  exact h
theorem below_setRow {B : Nat} {a w : World} {g : Nat} (h : Below B a w) (hg : B ≤ g) (cs : Array Value) : Below B a (w.setRow g cs) := by
  refine ⟨h.os, h.tape, h.output, ?_, fun i hi => ?_⟩
  · simpa [World.setRow] using h.size
  · rw [← h.block i hi]
    exact setRow_other w g i cs (by omega)
set_option maxRecDepth 100000 in
set_option maxHeartbeats 4000000 in
theorem repeat_any (k : Int) (N : Nat) (p : Option Addr) (c : Nat) (h0 : 0 < N) (hN : N ≤ 1000) (w : World) (hV : VRow w p 1 (fun _ => k)) :
    Calls Try.prog 67 #[.slice p 1 c, .int .i64 (N : Int)] w (RetVecB N (fun _ => k) w) := by
  obtain ⟨vb, vo, rfl, hvb, hvc⟩ := VRow.cells hV (k := 0) (by omega)
  have x0 : w.cell? ⟨vb, vo, none⟩ = some (.int .i64 k) := by simpa using hvc 0 (by omega)
  have HM : Hid (∀ W, Calls Try.prog 93 #[.int .u64 1, .int .u64 (N : Int)] W fun e W' => e = .returned (.tuple #[.int .u64 0, .int .u64 (N : Int)]) ∧ W' = W) := Lib.hid (fun W => by
    have h := Try.bits_Mul 1 N (by omega) (by omega) W
    rw [Nat.one_mul, Nat.div_eq_of_lt (by omega), Nat.mod_eq_of_lt (by omega)] at h
    exact h)
  have hmk := make_is N (by omega) w
  have hw1 : IntKind.u64.wrap (N : Int) = (N : Int) := by rw [IntKind.wrap_u64]; omega
  have hw2 : IntKind.i64.wrap (N : Int) = (N : Int) := IntWalk.i64_in _ (by omega)
  have hR := RepB.made w N k
  obtain ⟨W0, hW0⟩ : ∃ W, w.alloc (.cells (madeCells #[.int .i64 0] N) 3) = W := ⟨_, rfl⟩
  have hb0 : Below w.heap.size w W0 := by rw [← hW0]; exact (Below.refl _ _).alloc (Nat.le_refl _) _
  rw [hW0] at hR hmk
  obtain ⟨cur, hh, hs, hc⟩ := hR
  have hcp := copy_rep (N := N) (j := 0) (l := 1) (k := k) hh ⟨vb, vo, none⟩ 1 c N (fun i hi => by
    have : i = 0 := by omega
    subst this
    rw [Addr.add_lit]; exact cell_below hb0 x0) (by rw [Nat.sub_zero]; exact (Nat.min_eq_left (by omega)).symm) (by omega) 3
  have hR1 := RepB.put (m := 1) hh hs hc (by omega)
  obtain ⟨W1, hW1⟩ : ∃ W, W0.setRow w.heap.size (cur.toList.take 0 ++ List.replicate 1 (Value.int .i64 k) ++ cur.toList.drop (0 + 1)).toArray = W := ⟨_, rfl⟩
  have hb1 : Below w.heap.size w W1 := by rw [← hW1]; exact below_setRow hb0 (Nat.le_refl _) _
  rw [hW1] at hcp hR1
  rw [show 0 + 1 = 1 from rfl] at hR1
  rw [Nat.sub_zero] at hcp
  have hcp2 : (Builtin.copy_ #[38, 38] 3 #[.slice (some ⟨w.heap.size, 0, none⟩) N N, .slice (some ⟨vb, vo, none⟩) 1 c]).run Try.prog W0 = .ok (.int .i64 1) W1 := hcp
  have HR := Lib.hid hR1
  have Hb := Lib.hid hb1
  clear hh hs hc hR1 hb0 hb1 hcp hV hvc hW0 hW1
  have z1 : (0 : Int) ≤ (N : Int) := by omega
  go_enter Try.func67, Try.ntmps67
  go_wp2_with fail
  refine (HM.out _).mono ?_
  rintro e w1 ⟨rfl, rfl⟩
  dsimp only
  go_wp2_with fail
  obtain ⟨g, hg⟩ : ∃ g, w1.heap.size = g := ⟨_, rfl⟩
  rw [hg] at HR Hb ⊢
  clear hcp2 HM hmk x0
  go_loopw [8] (fun tv wr => ∃ j : Nat, 1 ≤ j ∧ j ≤ N ∧ tv = .int .i64 (j : Nat) ∧ Hid (RepB wr g N j k) ∧ Hid (Below g w1 wr)) (fun tv _ => N - (intOf tv).toNat)
  case atStart => exact ⟨1, by omega, by omega, by go_num, HR, Hb⟩
  case round =>
    clear HR Hb
    obtain ⟨j, hj1, hj, rfl, HR, Hb⟩ := hrel
    by_cases hjl : j < N
    · have i3 : (j : Int) < (N : Int) := by omega
      have i4 : (0 : Int) ≤ (j : Int) := by omega
      have i5 : ¬ j = N := by omega
      have i7 : ¬ N = j := by omega
      have i6 : (j : Int) ≤ (N : Int) := by omega
      obtain ⟨l, hl⟩ : ∃ l, Nat.min j (N - j) = l := ⟨_, rfl⟩
      have hl1 : 1 ≤ l ∧ j + l ≤ N := by rw [← hl]; show 1 ≤ min j (N - j) ∧ j + min j (N - j) ≤ N; omega
      have hcp : ∀ W, W.heap[g]? = wr.heap[g]? → ∃ W2, (Builtin.copy_ #[38, 38] 3 #[.slice (some ⟨g, j, none⟩) (N - j) (N - j), .slice (some ⟨g, 0, none⟩) j N]).run Try.prog W = .ok (.int .i64 (l : Int)) W2 ∧ RepB W2 g N (j + l) k ∧ (Below g w1 W → Below g w1 W2) := fun W hW => by
        obtain ⟨cur, hh, hs, hc⟩ := HR.out
        rw [← hW] at hh
        have h1 := copy_rep (N := N) (j := j) (l := l) (k := k) hh ⟨g, 0, none⟩ j N (N - j) (fun i hi => by
          rw [Addr.add_lit, Nat.zero_add]
          unfold World.cell?; simp only [hh]
          have : l ≤ j := by rw [← hl]; exact Nat.min_le_left _ _
          simpa using hc i (by omega)) hl.symm (by omega) 3
        exact ⟨_, h1, RepB.put hh hs hc hl1.2, fun hB => below_setRow hB (Nat.le_refl _) _⟩
      have hw3 : IntKind.i64.wrap ((j : Int) + (l : Int)) = ((j + l : Nat) : Int) := (IntWalk.i64_in _ (by omega)).trans (by omega)
      have Hcp := Lib.hid hcp
      have Hl := Lib.hid hl1
      clear hl hcp hl1
      obtain ⟨SS, hSe⟩ : ∃ SS : World → Prop, SS = fun _ => True := ⟨_, rfl⟩
      have HS : Hid (∀ W, Below wr.heap.size wr W → SS W) := Lib.hid (fun W _ => by rw [hSe]; trivial)
      have HST : Hid (∀ W, SS W) := Lib.hid (fun W => by rw [hSe]; trivial)
      have hd : Below wr.heap.size wr wr.drew := (Below.refl _ _).drew
      go_upto_region 9 with (fail)
      refine wp_region_held_drew (S := SS) (by kernel_rfl) (HST.out _) (fun hSS => ?_)
      refine wpAnyH_take (i := 0) (v := ?_) rfl (by kernel_rfl) (by kernel_rfl) (by kernel_rfl) (fun _ _ _ h => h) (Or.inl ⟨by rfl, ?_⟩) (HST.out _) ?_
      rotate_left 1
      next => intro w hSw; go_simp; try with_reducible rfl
      try simp only [Act.put, List.getElem_toArray, List.getElem_cons_zero, List.getElem_cons_succ, List.setIfInBounds_toArray, List.set_cons_zero, List.set_cons_succ]
      refine wpAnyH_take (i := 1) (v := ?_) rfl (by kernel_rfl) (by kernel_rfl) (by kernel_rfl) (fun _ _ _ h => h) (Or.inl ⟨by rfl, ?_⟩) (HST.out _) ?_
      rotate_left 1
      next => intro w hSw; go_simp; try with_reducible rfl
      try simp only [Act.put, List.getElem_toArray, List.getElem_cons_zero, List.getElem_cons_succ, List.setIfInBounds_toArray, List.set_cons_zero, List.set_cons_succ]
      refine wpAnyH_take (i := 2) (v := ?_) rfl (by kernel_rfl) (by kernel_rfl) (by kernel_rfl) (fun _ _ _ h => h) (Or.inl ⟨by rfl, ?_⟩) (HST.out _) ?_
      rotate_left 1
      next => intro w hSw; go_simp; try with_reducible rfl
      try simp only [Act.put, List.getElem_toArray, List.getElem_cons_zero, List.getElem_cons_succ, List.setIfInBounds_toArray, List.set_cons_zero, List.set_cons_succ]
      refine wpAnyH_take (i := 3) (v := ?_) rfl (by kernel_rfl) (by kernel_rfl) (by kernel_rfl) (fun _ _ _ h => h) (Or.inl ⟨by rfl, ?_⟩) (HST.out _) ?_
      rotate_left 1
      next => intro w hSw; go_simp; try with_reducible rfl
      try simp only [Act.put, List.getElem_toArray, List.getElem_cons_zero, List.getElem_cons_succ, List.setIfInBounds_toArray, List.set_cons_zero, List.set_cons_succ]
      refine wpAnyH_take (i := 4) (v := ?_) rfl (by kernel_rfl) (by kernel_rfl) (by kernel_rfl) (fun _ _ _ h => h) (Or.inl ⟨by rfl, ?_⟩) (HST.out _) ?_
      rotate_left 1
      next => intro w hSw; go_simp; try with_reducible rfl
      try simp only [Act.put, List.getElem_toArray, List.getElem_cons_zero, List.getElem_cons_succ, List.setIfInBounds_toArray, List.set_cons_zero, List.set_cons_succ]
      refine wpAnyH_take (i := 5) (v := ?_) rfl (by kernel_rfl) (by kernel_rfl) (by kernel_rfl) (fun _ _ _ h => h) (Or.inl ⟨by rfl, ?_⟩) (HST.out _) ?_
      rotate_left 1
      next => intro w hSw; go_simp; try with_reducible rfl
      try simp only [Act.put, List.getElem_toArray, List.getElem_cons_zero, List.getElem_cons_succ, List.setIfInBounds_toArray, List.set_cons_zero, List.set_cons_succ]
      refine wpAnyH_take (i := 6) (v := ?_) rfl (by kernel_rfl) (by kernel_rfl) (by kernel_rfl) (fun _ _ _ h => h) (Or.inl ⟨by rfl, ?_⟩) (HST.out _) ?_
      rotate_left 1
      next => intro w hSw; go_simp; try with_reducible rfl
      try simp only [Act.put, List.getElem_toArray, List.getElem_cons_zero, List.getElem_cons_succ, List.setIfInBounds_toArray, List.set_cons_zero, List.set_cons_succ]
      try simp only [Act.put, List.getElem_toArray, List.getElem_cons_zero, List.getElem_cons_succ, List.setIfInBounds_toArray, List.set_cons_zero, List.set_cons_succ]
      refine wpAnyH_ready (rs := [7]) (by kernel_rfl) (by simp) ?_
      refine AllReadyH.cons rfl (fun K hK => ?_) AllReadyH.nil
      obtain ⟨W2, hW2, hr2, hbb⟩ := Hcp.out wr.drew rfl
      have HR2 := Lib.hid hr2
      have Hb2 := Lib.hid (hbb Hb.out.drew)
      go_simp
      refine hK.out _ _ (HST.out _) (fun _ => ?_)
      clear hK K hW2 hr2 hbb
      refine wpAnyH_take (i := 8) (v := ?_) rfl (by kernel_rfl) (by kernel_rfl) (by kernel_rfl) (fun _ _ _ h => h) (Or.inl ⟨by rfl, ?_⟩) (HST.out _) ?_
      rotate_left 1
      next => intro w hSw; go_simp; try with_reducible rfl
      try simp only [Act.put, List.getElem_toArray, List.getElem_cons_zero, List.getElem_cons_succ, List.setIfInBounds_toArray, List.set_cons_zero, List.set_cons_succ]
      refine wpAnyH_take (i := 9) (v := ?_) rfl (by kernel_rfl) (by kernel_rfl) (by kernel_rfl) (fun _ _ _ h => h) (Or.inl ⟨by rfl, ?_⟩) (HST.out _) ?_
      rotate_left 1
      next => intro w hSw; go_simp; try with_reducible rfl
      try simp only [Act.put, List.getElem_toArray, List.getElem_cons_zero, List.getElem_cons_succ, List.setIfInBounds_toArray, List.set_cons_zero, List.set_cons_succ]
      refine wpAnyH_done (by kernel_rfl) ?_ _
      go_wp2_with fail
      go_roundw
      case rel => exact ⟨j + l, by omega, Hl.out.2, by go_num, HR2, Hb2⟩
      case measure => have := Hl.out; simp [intOf]; omega
    · have i3 : ¬ (j : Int) < (N : Int) := by omega
      have hje : j = N := by omega
      rw [hje] at HR
      clear hje
      go_wp2
      go_ret
      exact ⟨g, rfl, HR.out.row, by omega, by rw [hg]; exact Hb.out⟩
end Go.Proofs.Ytlaoijfphkhchaa
