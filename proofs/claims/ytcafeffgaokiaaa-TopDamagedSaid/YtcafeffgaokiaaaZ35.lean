/- encoder.writer: a strings.Builder that is a field: copyCheck, WriteString, String; put. -/
import Derived.Test.YtcafeffgaokiaaaZ0
import Derived.Test.YtcafeffgaokiaaaShelfA
import Derived.Test.YtcafeffgaokiaaaZ3
import Derived.Test.YtcafeffgaokiaaaZ10
import Derived.WalkKit
import Derived.RangeFuncBox
import Derived.OrdersHeld
import Derived.Deep.RegionHeld
import Derived.Lib.OthersKept
import Derived.Lib.AppendStr
import Derived.Lib.UnsafeStr
import Derived.WalkSpells
import Derived.OwnWalk
import Derived.KernelRfl
import Derived.Lib.Hide
import Derived.Outline
namespace Go.Proofs.Ytcafeffgaokiaaa
open Go.RowKit
theorem bwrByte : (Try.prog.info? 5).map (fun i => (i.zero, i.size, i.bytes)) = some (some (.int .u8 0), 1, 1) := by kernel_rfl
theorem bwrInfo : (Try.prog.info? 71).map (fun i => i.size) = some 2 := by kernel_rfl
theorem bwrLies : liesAt Try.prog Try.prog.depth 73 (7 / Try.prog.cellsOf 73) 5 71 1 = true := by kernel_rfl
/-- A writer: its encoder, its state, the bytes that it has written. -/
def WrAt (B b : Nat) (pv : Value) (L k i : Int) (rows : Value) (st : Int) (l : List UInt8) (w : World) : Prop :=
  B ≤ b ∧ ∃ v, w.heap[b]? = some (.cells #[.int .i64 L, .int .i64 k, .int .i64 i, rows, .int .i64 st, pv, v] 73 (0, 0)) ∧ w.ownsRow B 5 1 v l.length (Lib.byteCells l) ∧ v.ownBlock ≠ some b ∧ (l = [] → v = .slice none 0 0)
def IsWr (B b : Nat) (L k i : Int) (rows : Value) (st : Int) (l : List UInt8) (w : World) : Prop :=
  WrAt B b (.pointer none) L k i rows st l w ∨ WrAt B b (.pointer (some ⟨b, 5, none⟩)) L k i rows st l w
theorem WrAt.lt {B b : Nat} {pv : Value} {L k i : Int} {rows : Value} {st : Int} {l : List UInt8} {w : World} (h : WrAt B b pv L k i rows st l w) : b < w.heap.size := by
  obtain ⟨_, v, hb, _⟩ := h
  exact (Array.getElem?_eq_some_iff.1 hb).1
theorem IsWr.lt {B b : Nat} {L k i : Int} {rows : Value} {st : Int} {l : List UInt8} {w : World} (h : IsWr B b L k i rows st l w) : b < w.heap.size := h.elim (fun h => h.lt) (fun h => h.lt)
theorem IsWr.base {B b : Nat} {L k i : Int} {rows : Value} {st : Int} {l : List UInt8} {w : World} (h : IsWr B b L k i rows st l w) : B ≤ b := h.elim (fun h => h.1) (fun h => h.1)
theorem wcell {W : World} {u : Nat} {cs : Array Value} {t : TypeId} (h : W.heap[u]? = some (.cells cs t (0, 0))) (j : Nat) : W.cell? ⟨u, j, none⟩ = cs[j]? := by
  unfold World.cell?
  simp [h]
theorem wfrozen {W : World} {u : Nat} {cs : Array Value} {t : TypeId} (h : W.heap[u]? = some (.cells cs t (0, 0))) (j : Nat) : W.frozen? ⟨u, j, none⟩ = false := by
  unfold World.frozen?
  simp [h]
/-- Its first five cells. -/
theorem IsWr.cells {B b : Nat} {L k i : Int} {rows : Value} {st : Int} {l : List UInt8} {w : World} (h : IsWr B b L k i rows st l w) :
    w.cell? ⟨b, 3, none⟩ = some rows ∧ w.cell? ⟨b, 4, none⟩ = some (.int .i64 st) ∧ w.frozen? ⟨b, 4, none⟩ = false := by
  rcases h with ⟨_, v, hb, _⟩ | ⟨_, v, hb, _⟩ <;> exact ⟨wcell hb 3, wcell hb 4, wfrozen hb 4⟩
theorem heap_freeze_ne (w : World) (p : Addr) (n k : Nat) (hk : k ≠ p.block) : (w.freeze p n).heap[k]? = w.heap[k]? := by
  unfold World.freeze
  split
  · rfl
  · simp only [Array.getElem?_modify]
    rw [if_neg (fun h => hk h.symm)]
theorem cell_freeze_ne (w : World) (p q : Addr) (n : Nat) (hk : q.block ≠ p.block) : (w.freeze p n).cell? q = w.cell? q := by
  unfold World.cell?
  rw [heap_freeze_ne w p n q.block hk]
theorem grown4 (W : World) (b j : Nat) (v : Value) : W.grownBy (W.setCell ⟨b, j, none⟩ v) (some b) :=
  ⟨rfl, rfl, rfl, by simp, fun k _ hk => Below.heap_setCell W ⟨b, j, none⟩ v k (by intro e; exact hk (by rw [e]))⟩
theorem IsWr.setState {B b : Nat} {L k i : Int} {rows : Value} {st : Int} {l : List UInt8} {w : World} (h : IsWr B b L k i rows st l w) (st2 : Int) : IsWr B b L k i rows st2 l (w.setCell ⟨b, 4, none⟩ (.int .i64 st2)) := by
  rcases h with ⟨hB, v, hb, ho, hn, h0⟩ | ⟨hB, v, hb, ho, hn, h0⟩
  · exact .inl ⟨hB, v, heap_setCell_same _ _ 4 _ _ _ hb, ho.kept (grown4 _ _ _ _) (.inr hn), hn, h0⟩
  · exact .inr ⟨hB, v, heap_setCell_same _ _ 4 _ _ _ hb, ho.kept (grown4 _ _ _ _) (.inr hn), hn, h0⟩
theorem IsWr.alloc {B b : Nat} {L k i : Int} {rows : Value} {st : Int} {l : List UInt8} {w : World} (h : IsWr B b L k i rows st l w) (o : Obj) : IsWr B b L k i rows st l (w.alloc o) := by
  rcases h with ⟨hB, v, hb, ho, hn, h0⟩ | ⟨hB, v, hb, ho, hn, h0⟩
  · exact .inl ⟨hB, v, (Below.heap_alloc _ _ _ (Array.getElem?_eq_some_iff.1 hb).1).trans hb, World.ownsRow.alloc ho o, hn, h0⟩
  · exact .inr ⟨hB, v, (Below.heap_alloc _ _ _ (Array.getElem?_eq_some_iff.1 hb).1).trans hb, World.ownsRow.alloc ho o, hn, h0⟩
theorem IsWr.drew {B b : Nat} {L k i : Int} {rows : Value} {st : Int} {l : List UInt8} {w : World} (h : IsWr B b L k i rows st l w) : IsWr B b L k i rows st l w.drew := by
  rcases h with ⟨hB, v, hb, ho, hn, h0⟩ | ⟨hB, v, hb, ho, hn, h0⟩
  · exact .inl ⟨hB, v, hb, World.ownsRow.drew ho, hn, h0⟩
  · exact .inr ⟨hB, v, hb, World.ownsRow.drew ho, hn, h0⟩
set_option maxHeartbeats 1000000 in
set_option maxRecDepth 100000 in
theorem copyCheckW (B b : Nat) (L k i : Int) (rows : Value) (st : Int) (l : List UInt8) (w : World) (h : IsWr B b L k i rows st l w) :
    Calls Try.prog 90 #[.pointer (some ⟨b, 5, none⟩)] w fun e w' => e = .returned (.tuple #[]) ∧ WrAt B b (.pointer (some ⟨b, 5, none⟩)) L k i rows st l w' ∧ Below B w w' ∧ Lib.OthersKept 5 (some b) w w' := by
  obtain ⟨j, hj, hjs⟩ := Option.map_eq_some_iff.1 bwrInfo
  rcases h with h | h
  · obtain ⟨hB, v, hb, ho, hn, h0⟩ := h
    have c5 := wcell hb 5
    have f5 := wfrozen hb 5
    simp only [List.getElem?_toArray, List.getElem?_cons_succ, List.getElem?_cons_zero] at c5
    have hsh : w.shape? b = some (73, 7) := by simp [World.shape?, hb]
    have Hb := Lib.hid hb
    have Ho := Lib.hid ho
    have Hn := Lib.hid (And.intro hn h0)
    clear hb ho hn h0
    go_enter Try.func90, Try.ntmps90
    go_wp2
    rw [Lib.run_to_unsafe w ⟨b, 5, none⟩ Try.underlying69 Try.underlying168 hj (by rw [hjs]; decide) hsh (by show 5 < 7; decide)]
    simp only [Result.andThen]
    rw [Oper.upon_value]
    go_wp2
    rw [run_callFunc_extern Try.func119 (by kernel_rfl) (by kernel_rfl) (by kernel_rfl) (e := Extern.AbiNoEscape.same) (by kernel_rfl)]
    rw [Lib.run_noEscape]
    simp only [Result.andThen]
    rw [Oper.upon_value]
    go_wp2
    rw [Lib.run_from_unsafe w ⟨b, 5, none⟩ Try.underlying168 Try.underlying69 hj hsh bwrLies]
    simp only [Result.andThen]
    rw [Oper.upon_value]
    go_wp2
    go_end0
    exact ⟨rfl, ⟨hB, v, heap_setCell_same _ _ 5 _ _ _ Hb.out, Ho.out.kept (grown4 _ _ _ _) (.inr Hn.out.1), Hn.out.1, Hn.out.2⟩, (Below.refl B w).setCell (p := ⟨b, 5, none⟩) hB _, (Lib.OthersKept.refl _ _ _).setCell ⟨b, 5, none⟩ rfl _⟩
  · have H := Lib.hid h
    obtain ⟨hB, v, hb, ho, hn, h0⟩ := h
    have c5 := wcell hb 5
    simp only [List.getElem?_toArray, List.getElem?_cons_succ, List.getElem?_cons_zero] at c5
    clear hb ho hn h0
    go_enter Try.func90, Try.ntmps90
    go_wp2
    rw [Lib.run_neq_ptr_same w _ Try.underlying69 hj]
    go_wp2
    go_end0
    exact ⟨rfl, H.out, Below.refl _ _, Lib.OthersKept.refl _ _ _⟩
set_option maxHeartbeats 2000000 in
set_option maxRecDepth 100000 in
theorem writeStringW (B b : Nat) (L k i : Int) (rows : Value) (st : Int) (l : List UInt8) (s : ByteArray) (w : World) (h : IsWr B b L k i rows st l w) (hlen : l.length + s.size ≤ 1000000000) (hs0 : s.size ≠ 0) (hBw : B ≤ w.heap.size) :
    Calls Try.prog 64 #[.pointer (some ⟨b, 5, none⟩), .string s] w fun e w' => e = .returned (.tuple #[.int .i64 s.size, .nilIface]) ∧ IsWr B b L k i rows st (l ++ s.data.toList) w' ∧ Below B w w' ∧ Lib.OthersKept 5 (some b) w w' := by
  obtain ⟨i0, hi, hz0, hz1, hz2⟩ := info_parts bwrByte
  go_enter Try.func64, Try.ntmps64
  go_wp2_with fail
  refine (copyCheckW B b L k i rows st l _ h).mono ?_
  rintro e w1 ⟨rfl, h1, hb1, hk1⟩
  have Hb1 := Lib.hid hb1
  have Hk1 := Lib.hid hk1
  have hlt := h1.lt
  obtain ⟨hB, v, hbk, hown, hne, h0⟩ := h1
  have c5 := wcell hbk 5
  have c6 := wcell hbk 6
  have f6 := wfrozen hbk 6
  simp only [List.getElem?_toArray, List.getElem?_cons_succ, List.getElem?_cons_zero] at c5 c6
  have hs1 := hb1.size
  have Hbk := Lib.hid hbk
  have Hne := Lib.hid hne
  have Hown := Lib.hid hown
  clear h hb1 hbk hne hown h0 hk1
  go_wp2_with (at_builtin; refine Lib.wpList_append_own_string _ rfl _ _ 25 9 rfl B 5 i0 Try.underlying25 Try.underlying9 hi hz0 hz1 hz2 _ _ _ rfl Hown.out s rfl ?c3 ?c4 ?c5 ?_)
  case c3 => unfold maxLen; omega
  case c4 => omega
  case c5 => omega
  intro v' w2 hown' hgrow _
  have hb2 : w2.heap[b]? = some (.cells #[.int .i64 L, .int .i64 k, .int .i64 i, rows, .int .i64 st, .pointer (some ⟨b, 5, none⟩), v] 73 (0, 0)) := by
    rw [hgrow.block b hlt (fun e => Hne.out e.symm)]
    exact Hbk.out
  have d5 := wcell hb2 5
  have d6 := wcell hb2 6
  have g6 := wfrozen hb2 6
  simp only [List.getElem?_toArray, List.getElem?_cons_succ, List.getElem?_cons_zero] at d5 d6
  have hbs : Lib.byteCells l ++ Lib.strCells s = Lib.byteCells (l ++ s.data.toList) := by rw [Lib.strCells_eq]; unfold Lib.byteCells; rw [List.map_append]
  have hll : (l ++ s.data.toList).length = l.length + s.size := by rw [List.length_append]; simp
  rw [hbs, ← hll] at hown'
  have hne2 : v'.ownBlock ≠ some b := by
    rcases hown'.2 with ⟨hv, _⟩ | ⟨g, cap, cur, hv, hg, hgg, _⟩
    · rw [hv]; intro e; cases e
    · rw [hv]
      intro e
      have e2 : g = b := by simpa [Value.ownBlock] using e
      rw [e2, hb2] at hgg
      injection hgg with hgg
      injection hgg with _ ht _
      exact absurd ht (by decide)
  obtain ⟨ao, n', cap, rfl⟩ : ∃ ao n' cap, v' = .slice ao n' cap := by
    rcases hown'.2 with ⟨hv, _⟩ | ⟨g, cap, cur, hv, _⟩
    · exact ⟨_, _, _, hv⟩
    · exact ⟨_, _, _, hv⟩
  have Hb2 := Lib.hid hb2
  have Hown2 := Lib.hid hown'
  have Hgrow := Lib.hid hgrow
  have Hne2 := Lib.hid hne2
  clear hb2 hown' hgrow hne2 hbs hll
  go_wp2
  go_ret2
  refine ⟨rfl, .inr ⟨hB, _, heap_setCell_same _ _ 6 _ _ _ Hb2.out, Hown2.out.kept (grown4 _ _ _ _) (.inr Hne2.out), Hne2.out, fun h => ?_⟩, ?_, ?_⟩
  · have h9 : s.data.toList = [] := (List.append_eq_nil_iff.1 h).2
    have h8 : s.size = s.data.toList.length := by simp
    rw [h9] at h8
    exact absurd h8 hs0
  · exact (Hb1.out.grown Hgrow.out (by omega) (fun k hk => (Hown.out.lt k hk).1)).setCell (p := ⟨b, 6, none⟩) hB _
  · refine (Hk1.out.grown Hgrow.out fun g hg => ?_).setCell ⟨b, 6, none⟩ rfl _
    rcases Hown.out.2 with ⟨rfl, _⟩ | ⟨g', cap', cur, rfl, _, hgg, _⟩
    · simp [Value.ownBlock] at hg
    · simp [Value.ownBlock] at hg
      subst hg
      exact ⟨cur, _, hgg⟩
set_option maxHeartbeats 2000000 in
set_option maxRecDepth 100000 in
theorem stringW (B b : Nat) (L k i : Int) (rows : Value) (st : Int) (l : List UInt8) (w : World) (h : IsWr B b L k i rows st l w) :
    Calls Try.prog 35 #[.pointer (some ⟨b, 5, none⟩)] w fun e w' => e = .returned (.string ⟨l.toArray⟩) ∧ Below B w w' ∧ w'.cell? ⟨b, 4, none⟩ = some (.int .i64 st) := by
  have c4 := h.cells.2.1
  obtain ⟨pv, hB, v, hbk, hown, hne, hnil⟩ : ∃ pv, WrAt B b pv L k i rows st l w := by
    rcases h with h | h
    · exact ⟨_, h⟩
    · exact ⟨_, h⟩
  by_cases h0 : l = []
  · have hv := hnil h0
    subst hv h0
    have hUS : (Builtin.unsafeString_ #[119, 3] 9 #[.pointer none, .int .i64 0]).run Try.prog w.drew = .ok (.string .empty) w.drew := Lib.run_unsafeString_none w.drew _ _ _ none
    have c6 : w.cell? ⟨b, 6, none⟩ = some (.slice none 0 0) := wcell hbk 6
    have hblt := (Array.getElem?_eq_some_iff.1 hbk).1
    have hSD : (Builtin.unsafeSliceData_ #[25] 119 #[.slice none 0 0]).run Try.prog w.drew = .ok (.pointer none) w.drew := rfl
    clear hbk hown hnil hne h
    go_enter Try.func35, Try.ntmps35
    go_upto_region 1 with (fail)
    obtain ⟨SS, hSe⟩ : ∃ SS : World → Prop, SS = fun W => W.cell? ⟨b, 6, none⟩ = some (.slice none 0 0) := ⟨_, rfl⟩
    have HS : Hid (∀ W, Below w.heap.size w W → SS W) := Lib.hid (fun W hW => by rw [hSe]; exact (hW.cell (p := ⟨b, 6, none⟩) hblt).trans c6)
    have hd : Below w.heap.size w w.drew := (Below.refl _ _).drew
    refine wp_region_held_drew (S := SS) (by kernel_rfl) (HS.out _ hd) (fun hSS => ?_)
    refine wpAnyH_take (i := 0) (v := ?_) rfl (by kernel_rfl) (by kernel_rfl) (by kernel_rfl) (fun _ _ _ h => h) (Or.inl ⟨by rfl, ?_⟩) (HS.out _ hd) ?_
    rotate_left 1
    next => intro w hSw; rw [hSe] at hSw; have s1 := hSw; go_simp; try with_reducible rfl
    try simp only [Act.put, List.getElem_toArray, List.getElem_cons_zero, List.getElem_cons_succ, List.setIfInBounds_toArray, List.set_cons_zero, List.set_cons_succ]
    refine wpAnyH_take (i := 1) (v := ?_) rfl (by kernel_rfl) (by kernel_rfl) (by kernel_rfl) (fun _ _ _ h => h) (Or.inl ⟨by rfl, ?_⟩) (HS.out _ hd) ?_
    rotate_left 1
    next => intro w hSw; rw [hSe] at hSw; have s1 := hSw; go_simp; try with_reducible rfl
    try simp only [Act.put, List.getElem_toArray, List.getElem_cons_zero, List.getElem_cons_succ, List.setIfInBounds_toArray, List.set_cons_zero, List.set_cons_succ]
    refine wpAnyH_take (i := 2) (v := ?_) rfl (by kernel_rfl) (by kernel_rfl) (by kernel_rfl) (fun _ _ _ h => h) (Or.inl ⟨by rfl, ?_⟩) (HS.out _ hd) ?_
    rotate_left 1
    next => intro w hSw; rw [hSe] at hSw; have s1 := hSw; go_simp; try with_reducible rfl
    try simp only [Act.put, List.getElem_toArray, List.getElem_cons_zero, List.getElem_cons_succ, List.setIfInBounds_toArray, List.set_cons_zero, List.set_cons_succ]
    refine wpAnyH_take (i := 3) (v := ?_) rfl (by kernel_rfl) (by kernel_rfl) (by kernel_rfl) (fun _ _ _ h => h) (Or.inl ⟨by rfl, ?_⟩) (HS.out _ hd) ?_
    rotate_left 1
    next => intro w hSw; rw [hSe] at hSw; have s1 := hSw; go_simp; try with_reducible rfl
    try simp only [Act.put, List.getElem_toArray, List.getElem_cons_zero, List.getElem_cons_succ, List.setIfInBounds_toArray, List.set_cons_zero, List.set_cons_succ]
    refine wpAnyH_take (i := 5) (v := ?_) rfl (by kernel_rfl) (by kernel_rfl) (by kernel_rfl) (fun _ _ _ h => h) (Or.inl ⟨by rfl, ?_⟩) (HS.out _ hd) ?_
    rotate_left 1
    next => intro w hSw; rw [hSe] at hSw; have s1 := hSw; go_simp; try with_reducible rfl
    try simp only [Act.put, List.getElem_toArray, List.getElem_cons_zero, List.getElem_cons_succ, List.setIfInBounds_toArray, List.set_cons_zero, List.set_cons_succ]
    refine wpAnyH_take (i := 6) (v := ?_) rfl (by kernel_rfl) (by kernel_rfl) (by kernel_rfl) (fun _ _ _ h => h) (Or.inl ⟨by rfl, ?_⟩) (HS.out _ hd) ?_
    rotate_left 1
    next => intro w hSw; rw [hSe] at hSw; have s1 := hSw; go_simp; try with_reducible rfl
    try simp only [Act.put, List.getElem_toArray, List.getElem_cons_zero, List.getElem_cons_succ, List.setIfInBounds_toArray, List.set_cons_zero, List.set_cons_succ]
    refine wpAnyH_take (i := 7) (v := ?_) rfl (by kernel_rfl) (by kernel_rfl) (by kernel_rfl) (fun _ _ _ h => h) (Or.inl ⟨by rfl, ?_⟩) (HS.out _ hd) ?_
    rotate_left 1
    next => intro w hSw; rw [hSe] at hSw; have s1 := hSw; go_simp; try with_reducible rfl
    try simp only [Act.put, List.getElem_toArray, List.getElem_cons_zero, List.getElem_cons_succ, List.setIfInBounds_toArray, List.set_cons_zero, List.set_cons_succ]
    refine wpAnyH_take (i := 8) (v := ?_) rfl (by kernel_rfl) (by kernel_rfl) (by kernel_rfl) (fun _ _ _ h => h) (Or.inl ⟨by rfl, ?_⟩) (HS.out _ hd) ?_
    rotate_left 1
    next => intro w hSw; rw [hSe] at hSw; have s1 := hSw; go_simp; try with_reducible rfl
    try simp only [Act.put, List.getElem_toArray, List.getElem_cons_zero, List.getElem_cons_succ, List.setIfInBounds_toArray, List.set_cons_zero, List.set_cons_succ]
    refine wpAnyH_take (i := 9) (v := ?_) rfl (by kernel_rfl) (by kernel_rfl) (by kernel_rfl) (fun _ _ _ h => h) (Or.inl ⟨by rfl, ?_⟩) (HS.out _ hd) ?_
    rotate_left 1
    next => intro w hSw; rw [hSe] at hSw; have s1 := hSw; go_simp; try with_reducible rfl
    try simp only [Act.put, List.getElem_toArray, List.getElem_cons_zero, List.getElem_cons_succ, List.setIfInBounds_toArray, List.set_cons_zero, List.set_cons_succ]
    try simp only [Act.put, List.getElem_toArray, List.getElem_cons_zero, List.getElem_cons_succ, List.setIfInBounds_toArray, List.set_cons_zero, List.set_cons_succ]
    refine wpAnyH_ready (rs := [4]) (by kernel_rfl) (by simp) ?_
    refine AllReadyH.cons rfl (fun K hK => ?_) AllReadyH.nil
    go_simp
    refine hK.out _ _ (HS.out _ hd) (fun _ => ?_)
    clear hK K
    try simp only [Act.put, List.getElem_toArray, List.getElem_cons_zero, List.getElem_cons_succ, List.setIfInBounds_toArray, List.set_cons_zero, List.set_cons_succ]
    refine wpAnyH_ready (rs := [10]) (by kernel_rfl) (by simp) ?_
    refine AllReadyH.cons rfl (fun K hK => ?_) AllReadyH.nil
    go_simp
    refine hK.out _ _ (HS.out _ hd) (fun _ => ?_)
    clear hK K
    try simp only [Act.put, List.getElem_toArray, List.getElem_cons_zero, List.getElem_cons_succ, List.setIfInBounds_toArray, List.set_cons_zero, List.set_cons_succ]
    refine wpAnyH_ready (rs := [11]) (by kernel_rfl) (by simp) ?_
    refine AllReadyH.cons rfl (fun K hK => ?_) AllReadyH.nil
    go_simp
    refine hK.out _ _ (HS.out _ hd) (fun _ => ?_)
    clear hK K
    refine wpAnyH_done (by kernel_rfl) ?_ _
    go_wp2
    go_ret
    exact ⟨rfl, Below.drew (Below.refl B w), c4⟩
  · have hl0 : l.length ≠ 0 := by simpa using h0
    obtain ⟨g, cap, cur, rfl, hbg, hg, hnc, hcm, hcs, htake⟩ : ∃ g cap cur, v = .slice (some ⟨g, 0, none⟩) l.length cap ∧ B ≤ g ∧ w.heap[g]? = some (.cells cur 5 (0, 0)) ∧ l.length ≤ cap ∧ cap ≤ maxLen ∧ cur.size = cap * 1 ∧ cur.toList.take (l.length * 1) = Lib.byteCells l := by
      rcases hown.2 with ⟨_, hz⟩ | ⟨g, cap, cur, hv, r⟩
      · exact absurd hz hl0
      · exact ⟨g, cap, cur, hv, r⟩
    have c6 : w.cell? ⟨b, 6, none⟩ = some (.slice (some ⟨g, 0, none⟩) l.length cap) := wcell hbk 6
    have hblt := (Array.getElem?_eq_some_iff.1 hbk).1
    have hSD : (Builtin.unsafeSliceData_ #[25] 119 #[.slice (some ⟨g, 0, none⟩) l.length cap]).run Try.prog w.drew = .ok (.pointer (some ⟨g, 0, none⟩)) w.drew :=
      Lib.run_unsafeSliceData_row _ _ _ _ _ _ (by omega)
    have hUS : (Builtin.unsafeString_ #[119, 3] 9 #[.pointer (some ⟨g, 0, none⟩), .int .i64 l.length]).run Try.prog w.drew = .ok (.string ⟨l.toArray⟩) (w.drew.freeze ⟨g, 0, none⟩ l.length) := by
      refine Lib.run_unsafeString_row w.drew 119 3 9 5 Try.underlying119 (by kernel_rfl) g cur.size (by have hg' : w.drew.heap[g]? = some (.cells cur 5 (0, 0)) := hg; simp [World.shape?, hg']) l h0 (by omega) (by unfold maxLen at hcm; omega) ?_
      intro j x hx
      exact hown.cells (g := g) rfl j (.int .u8 x.toNat) (by simp [Lib.byteCells, hx])
    have hbg2 : b ≠ g := fun e => hne (by rw [e]; rfl)
    clear hbk hown hnil hne h htake hcs hg
    go_enter Try.func35, Try.ntmps35
    go_upto_region 1 with (fail)
    obtain ⟨SS, hSe⟩ : ∃ SS : World → Prop, SS = fun W => W.cell? ⟨b, 6, none⟩ = some (.slice (some ⟨g, 0, none⟩) l.length cap) := ⟨_, rfl⟩
    have HS : Hid (∀ W, Below w.heap.size w W → SS W) := Lib.hid (fun W hW => by rw [hSe]; exact (hW.cell (p := ⟨b, 6, none⟩) hblt).trans c6)
    have hd : Below w.heap.size w w.drew := (Below.refl _ _).drew
    refine wp_region_held_drew (S := SS) (by kernel_rfl) (HS.out _ hd) (fun hSS => ?_)
    refine wpAnyH_take (i := 0) (v := ?_) rfl (by kernel_rfl) (by kernel_rfl) (by kernel_rfl) (fun _ _ _ h => h) (Or.inl ⟨by rfl, ?_⟩) (HS.out _ hd) ?_
    rotate_left 1
    next => intro w hSw; rw [hSe] at hSw; have s1 := hSw; go_simp; try with_reducible rfl
    try simp only [Act.put, List.getElem_toArray, List.getElem_cons_zero, List.getElem_cons_succ, List.setIfInBounds_toArray, List.set_cons_zero, List.set_cons_succ]
    refine wpAnyH_take (i := 1) (v := ?_) rfl (by kernel_rfl) (by kernel_rfl) (by kernel_rfl) (fun _ _ _ h => h) (Or.inl ⟨by rfl, ?_⟩) (HS.out _ hd) ?_
    rotate_left 1
    next => intro w hSw; rw [hSe] at hSw; have s1 := hSw; go_simp; try with_reducible rfl
    try simp only [Act.put, List.getElem_toArray, List.getElem_cons_zero, List.getElem_cons_succ, List.setIfInBounds_toArray, List.set_cons_zero, List.set_cons_succ]
    refine wpAnyH_take (i := 2) (v := ?_) rfl (by kernel_rfl) (by kernel_rfl) (by kernel_rfl) (fun _ _ _ h => h) (Or.inl ⟨by rfl, ?_⟩) (HS.out _ hd) ?_
    rotate_left 1
    next => intro w hSw; rw [hSe] at hSw; have s1 := hSw; go_simp; try with_reducible rfl
    try simp only [Act.put, List.getElem_toArray, List.getElem_cons_zero, List.getElem_cons_succ, List.setIfInBounds_toArray, List.set_cons_zero, List.set_cons_succ]
    refine wpAnyH_take (i := 3) (v := ?_) rfl (by kernel_rfl) (by kernel_rfl) (by kernel_rfl) (fun _ _ _ h => h) (Or.inl ⟨by rfl, ?_⟩) (HS.out _ hd) ?_
    rotate_left 1
    next => intro w hSw; rw [hSe] at hSw; have s1 := hSw; go_simp; try with_reducible rfl
    try simp only [Act.put, List.getElem_toArray, List.getElem_cons_zero, List.getElem_cons_succ, List.setIfInBounds_toArray, List.set_cons_zero, List.set_cons_succ]
    refine wpAnyH_take (i := 5) (v := ?_) rfl (by kernel_rfl) (by kernel_rfl) (by kernel_rfl) (fun _ _ _ h => h) (Or.inl ⟨by rfl, ?_⟩) (HS.out _ hd) ?_
    rotate_left 1
    next => intro w hSw; rw [hSe] at hSw; have s1 := hSw; go_simp; try with_reducible rfl
    try simp only [Act.put, List.getElem_toArray, List.getElem_cons_zero, List.getElem_cons_succ, List.setIfInBounds_toArray, List.set_cons_zero, List.set_cons_succ]
    refine wpAnyH_take (i := 6) (v := ?_) rfl (by kernel_rfl) (by kernel_rfl) (by kernel_rfl) (fun _ _ _ h => h) (Or.inl ⟨by rfl, ?_⟩) (HS.out _ hd) ?_
    rotate_left 1
    next => intro w hSw; rw [hSe] at hSw; have s1 := hSw; go_simp; try with_reducible rfl
    try simp only [Act.put, List.getElem_toArray, List.getElem_cons_zero, List.getElem_cons_succ, List.setIfInBounds_toArray, List.set_cons_zero, List.set_cons_succ]
    refine wpAnyH_take (i := 7) (v := ?_) rfl (by kernel_rfl) (by kernel_rfl) (by kernel_rfl) (fun _ _ _ h => h) (Or.inl ⟨by rfl, ?_⟩) (HS.out _ hd) ?_
    rotate_left 1
    next => intro w hSw; rw [hSe] at hSw; have s1 := hSw; go_simp; try with_reducible rfl
    try simp only [Act.put, List.getElem_toArray, List.getElem_cons_zero, List.getElem_cons_succ, List.setIfInBounds_toArray, List.set_cons_zero, List.set_cons_succ]
    refine wpAnyH_take (i := 8) (v := ?_) rfl (by kernel_rfl) (by kernel_rfl) (by kernel_rfl) (fun _ _ _ h => h) (Or.inl ⟨by rfl, ?_⟩) (HS.out _ hd) ?_
    rotate_left 1
    next => intro w hSw; rw [hSe] at hSw; have s1 := hSw; go_simp; try with_reducible rfl
    try simp only [Act.put, List.getElem_toArray, List.getElem_cons_zero, List.getElem_cons_succ, List.setIfInBounds_toArray, List.set_cons_zero, List.set_cons_succ]
    refine wpAnyH_take (i := 9) (v := ?_) rfl (by kernel_rfl) (by kernel_rfl) (by kernel_rfl) (fun _ _ _ h => h) (Or.inl ⟨by rfl, ?_⟩) (HS.out _ hd) ?_
    rotate_left 1
    next => intro w hSw; rw [hSe] at hSw; have s1 := hSw; go_simp; try with_reducible rfl
    try simp only [Act.put, List.getElem_toArray, List.getElem_cons_zero, List.getElem_cons_succ, List.setIfInBounds_toArray, List.set_cons_zero, List.set_cons_succ]
    try simp only [Act.put, List.getElem_toArray, List.getElem_cons_zero, List.getElem_cons_succ, List.setIfInBounds_toArray, List.set_cons_zero, List.set_cons_succ]
    refine wpAnyH_ready (rs := [4]) (by kernel_rfl) (by simp) ?_
    refine AllReadyH.cons rfl (fun K hK => ?_) AllReadyH.nil
    go_simp
    refine hK.out _ _ (HS.out _ hd) (fun _ => ?_)
    clear hK K
    try simp only [Act.put, List.getElem_toArray, List.getElem_cons_zero, List.getElem_cons_succ, List.setIfInBounds_toArray, List.set_cons_zero, List.set_cons_succ]
    refine wpAnyH_ready (rs := [10]) (by kernel_rfl) (by simp) ?_
    refine AllReadyH.cons rfl (fun K hK => ?_) AllReadyH.nil
    go_simp
    have hb9 : Below B w (w.drew.freeze ⟨g, 0, none⟩ l.length) := Lib.below_freeze (Below.drew (Below.refl B w)) (p := ⟨g, 0, none⟩) hbg _
    have hs9 : SS (w.drew.freeze ⟨g, 0, none⟩ l.length) := by rw [hSe]; exact (cell_freeze_ne _ _ _ _ hbg2).trans c6
    refine hK.out _ _ hs9 (fun _ => ?_)
    clear hK K
    try simp only [Act.put, List.getElem_toArray, List.getElem_cons_zero, List.getElem_cons_succ, List.setIfInBounds_toArray, List.set_cons_zero, List.set_cons_succ]
    refine wpAnyH_ready (rs := [11]) (by kernel_rfl) (by simp) ?_
    refine AllReadyH.cons rfl (fun K hK => ?_) AllReadyH.nil
    go_simp
    refine hK.out _ _ hs9 (fun _ => ?_)
    clear hK K
    refine wpAnyH_done (by kernel_rfl) ?_ _
    go_wp2
    go_ret
    exact ⟨rfl, hb9, (cell_freeze_ne _ _ _ _ hbg2).trans c4⟩
end Go.Proofs.Ytcafeffgaokiaaa
