/- The walk of matrix.table at api.Int. -/
import Derived.Test.YtlaoijfphkhchaaB4
import Derived.Deep.RegionHeld
import Derived.RangeFuncCalls
namespace Go.Proofs.Ytlaoijfphkhchaa
open Go.RowKit

theorem zInfo : (Try.prog.info? 28).map (fun i => (i.zero, i.size, i.bytes)) = some (some (.agg #[.bool false, .string ⟨#[]⟩]), 2, 24) := by kernel_rfl
theorem rowInfo : (Try.prog.info? 53).map (fun i => (i.zero, i.size, i.bytes)) = some (some (.slice none 0 0), 1, 24) := by kernel_rfl
/-- make([][]api.Int, n), make([]api.Int, n). -/
theorem make_rows (n : Nat) (h : n ≤ 1000000) (w : World) :
    (Instr.makeSlice 63 (.int .i64 (n : Int)) (.int .i64 (n : Int))).run Try.prog w = .ok (.slice (some ⟨w.heap.size, 0, none⟩) n n) (w.alloc (.cells (madeCells #[.slice none 0 0] n) 53)) :=
  run_make_row' 63 53 (.slice none 0 0) 24 Try.underlying63 rowInfo rfl .i64 .i64 n (by omega) (by omega) w
theorem make_zs (n : Nat) (h : n ≤ 1000000) (w : World) :
    (Instr.makeSlice 53 (.int .i64 (n : Int)) (.int .i64 (n : Int))).run Try.prog w = .ok (.slice (some ⟨w.heap.size, 0, none⟩) n n) (w.alloc (.cells (madeCells #[.bool false, .string ⟨#[]⟩] (n * 2)) 28)) := by
  obtain ⟨i, hi, hzz⟩ := Option.map_eq_some_iff.1 zInfo
  simp only [Prod.mk.injEq] at hzz
  obtain ⟨hz, hs, hb⟩ := hzz
  have hr := run_make (P := Try.prog) w 53 28 i _ Try.underlying53 hi hz .i64 .i64 n n (by omega) (Int.le_refl _) (by rw [hb]; omega) (by omega)
  simp only [Int.toNat_natCast, hs] at hr
  exact hr

/-- Between two rounds of table: i rows are made. -/
structure TabO (w wr : World) (g rows cols i : Nat) (F : Nat → Nat → Int) (A : Nat → Nat) : Prop where
  below : Below w.heap.size w wr
  hdr : HAt wr g rows (fun j => if j < i then .slice (some ⟨A j, 0, none⟩) cols cols else .slice none 0 0)
  row : ∀ j, j < i → ZAt wr (A j) cols (F j) ∧ w.heap.size ≤ A j ∧ A j ≠ g
  low : w.heap.size ≤ g
/-- Within a round: the row i is in the block A i, and k of its numbers are there. -/
structure TabI (w wr : World) (g rows cols i k : Nat) (F : Nat → Nat → Int) (A : Nat → Nat) : Prop where
  below : Below w.heap.size w wr
  hdr : HAt wr g rows (fun j => if j < i + 1 then .slice (some ⟨A j, 0, none⟩) cols cols else .slice none 0 0)
  row : ∀ j, j < i → ZAt wr (A j) cols (F j) ∧ w.heap.size ≤ A j ∧ A j ≠ g ∧ A j ≠ A i
  cur : ZAt wr (A i) cols (fun m => if m < k then F i m else 0) ∧ w.heap.size ≤ A i ∧ A i ≠ g
  low : w.heap.size ≤ g
theorem TabO.start (w wr : World) (hb : Below w.heap.size w wr) (rows cols : Nat) (t : TypeId) (F : Nat → Nat → Int) : TabO w (wr.alloc (.cells (madeCells #[.slice none 0 0] rows) t)) wr.heap.size rows cols 0 F (fun _ => 0) :=
  ⟨hb.alloc hb.size _, (made_hdr wr rows t).congr fun k _ => by rw [if_neg (by omega)], fun j h => by omega, hb.size⟩
theorem TabO.enter {w wr : World} {g rows cols i : Nat} {F : Nat → Nat → Int} {A : Nat → Nat} (h : TabO w wr g rows cols i F A) (t : TypeId) :
    TabI w ((wr.alloc (.cells (madeCells #[.bool false, .string ⟨#[]⟩] (cols * 2)) t)).setCell ⟨g, i, none⟩ (.slice (some ⟨wr.heap.size, 0, none⟩) cols cols)) g rows cols i 0 F (fun j => if j = i then wr.heap.size else A j) := by
  obtain ⟨hb, hh, hr, hl⟩ := h
  have hg : g < wr.heap.size := hh.1
  have hal := (Below.refl wr.heap.size wr).alloc (Nat.le_refl _) (.cells (madeCells #[.bool false, .string ⟨#[]⟩] (cols * 2)) t)
  refine ⟨(hb.alloc hb.size _).setCell (by simpa using hl) _, ?_, fun j hj => ?_, ?_, hl⟩
  · refine ((hh.below hal hg).set (k := i) _).congr fun j hj => ?_
    by_cases e : j = i
    · subst e; simp
    · simp only [if_neg e]
      by_cases h1 : j < i
      · rw [if_pos h1, if_pos (by omega)]
      · rw [if_neg h1, if_neg (by omega)]
  · obtain ⟨h1, h2, h3⟩ := hr j hj
    have e : ¬ j = i := by omega
    have e1 : A j < wr.heap.size := h1.1
    simp only [if_neg e, if_true]
    exact ⟨(h1.below hal e1).other _ _ (by intro h; exact h3 h.symm), h2, h3, by omega⟩
  · simp only [if_true]
    refine ⟨((made_zero wr cols t).other _ _ (by show g ≠ wr.heap.size; omega)).congr fun k _ => by rw [if_neg (by omega)], hb.size, by omega⟩
theorem TabI.call {w wr wr' : World} {g rows cols i k : Nat} {F : Nat → Nat → Int} {A : Nat → Nat} (h : TabI w wr g rows cols i k F A) (hb : Below wr.heap.size wr wr') : TabI w wr' g rows cols i k F A := by
  obtain ⟨h1, h2, h3, h4, h5⟩ := h
  exact ⟨h1.trans (hb.mono h1.size), h2.below hb h2.1, fun j hj => by
    obtain ⟨a, b⟩ := h3 j hj
    exact ⟨a.below hb a.1, b⟩, ⟨h4.1.below hb h4.1.1, h4.2⟩, h5⟩
theorem TabI.put {w wr : World} {g rows cols i k : Nat} {F : Nat → Nat → Int} {A : Nat → Nat} (h : TabI w wr g rows cols i k F A) :
    TabI w ((wr.setCell ⟨A i, k * 2, none⟩ (.bool (canon (F i k)).neg)).setCell ⟨A i, k * 2 + 1, none⟩ (.string (canon (F i k)).mag)) g rows cols i (k + 1) F A := by
  obtain ⟨h1, h2, h3, h4, h5⟩ := h
  refine ⟨(h1.setCell h4.2.1 _).setCell h4.2.1 _, (h2.other _ _ h4.2.2).other _ _ h4.2.2, fun j hj => ?_, ⟨(h4.1.set (k := k) (F i k)).congr fun m _ => ?_, h4.2⟩, h5⟩
  · obtain ⟨a, b, c, d⟩ := h3 j hj
    exact ⟨(a.other _ _ (by exact fun h => d h.symm)).other _ _ (by exact fun h => d h.symm), b, c, d⟩
  · by_cases e : m = k
    · subst e; rw [if_pos rfl, if_pos (by omega)]
    · rw [if_neg e]
      by_cases h1 : m < k
      · rw [if_pos h1, if_pos (by omega)]
      · rw [if_neg h1, if_neg (by omega)]
theorem TabI.leave {w wr : World} {g rows cols i : Nat} {F : Nat → Nat → Int} {A : Nat → Nat} (h : TabI w wr g rows cols i cols F A) : TabO w wr g rows cols (i + 1) F A := by
  obtain ⟨h1, h2, h3, h4, h5⟩ := h
  refine ⟨h1, h2, fun j hj => ?_, h5⟩
  by_cases e : j = i
  · subst e
    exact ⟨h4.1.congr fun m hm => by rw [if_pos hm], h4.2⟩
  · obtain ⟨a, b, c, _⟩ := h3 j (by omega)
    exact ⟨a, b, c⟩
theorem TabO.own {w wr : World} {g rows cols : Nat} {F : Nat → Nat → Int} {A : Nat → Nat} (h : TabO w wr g rows cols rows F A) : OwnMat wr w.heap.size g rows cols F :=
  ⟨A, h.hdr.congr fun j hj => by rw [if_pos hj], h.row, h.low⟩

/-- What table gives: rows of its own. -/
def RetOwn (rows cols : Nat) (F : Nat → Nat → Int) (w : World) (e : Ending) (w' : World) : Prop := ∃ g, e = .returned (.slice (some ⟨g, 0, none⟩) rows rows) ∧ OwnMat w' w.heap.size g rows cols F ∧ Below w.heap.size w w'
theorem RetOwn.mat {r c : Nat} {F : Nat → Nat → Int} {w w' : World} {e : Ending} (h : RetOwn r c F w e w') : RetMat r c F w e w' := by
  obtain ⟨g, h1, h2, h3⟩ := h
  exact ⟨_, _, h1, h2.mat, h3⟩

set_option maxRecDepth 100000 in
set_option maxHeartbeats 4000000 in
theorem table_any (rows cols : Nat) (hr : rows ≤ 1000000) (hcl : cols ≤ 1000000) (fid : Nat) (bound : Array Value) (F : Nat → Nat → Int) (w : World) (eg : ∀ args w, (callFunc fid args).run Try.prog w = .ok (.enter fid args) w)
    (hof : ∀ i k W, i < rows → k < cols → Below w.heap.size w W → Calls Try.prog fid (#[.int .i64 (i : Int), .int .i64 (k : Int)] ++ bound) W (RetZ (canon (F i k)) W)) :
    Calls Try.prog 94 #[.int .i64 (rows : Int), .int .i64 (cols : Int), .func (.func fid) #[] bound] w (RetOwn rows cols F w) := by
  have Hof := Lib.hid hof
  have Heg := Lib.hid eg
  clear hof eg
  have hmk := make_rows rows hr w
  have hst := TabO.start w w (Below.refl _ _) rows cols 53 F
  generalize w.alloc (.cells (madeCells #[.slice none 0 0] rows) 53) = w1 at *
  obtain ⟨g, hg⟩ : ∃ g, w.heap.size = g := ⟨_, rfl⟩
  rw [hg] at hmk
  have Hst : Hid (TabO w w1 g rows cols 0 F (fun _ => 0)) := Lib.hid (by rw [← hg]; exact hst)
  clear hst
  go_enter Try.func94, Try.ntmps94
  go_wp2
  go_loopw [14] (fun v wr => ∃ (i : Nat) (A : Nat → Nat), i ≤ rows ∧ v = .int .i64 i ∧ Hid (TabO w wr g rows cols i F A)) (fun v _ => rows - (intOf v).toNat)
  case atStart => exact ⟨0, _, by omega, by go_num, Hst⟩
  case round =>
    clear Hst hmk
    obtain ⟨i, A, hi, rfl, HO⟩ := hrel
    by_cases hlt : i < rows
    · have hiI : (i : Int) < (rows : Int) := by omega
      have hi0 : (0 : Int) ≤ (i : Int) := by omega
      have hmk := make_zs cols hcl wr
      have hen := HO.out.enter 28
      have hg1 : g < wr.heap.size := HO.out.hdr.1
      have hal := (Below.refl wr.heap.size wr).alloc (Nat.le_refl _) (.cells (madeCells #[.bool false, .string ⟨#[]⟩] (cols * 2)) 28)
      have hcg := ((HO.out.hdr.below hal hg1).2 i hlt)
      obtain ⟨hcg1, hcg2⟩ := hcg
      dsimp only at hcg1
      rw [if_neg (by omega)] at hcg1
      generalize wr.alloc (.cells (madeCells #[.bool false, .string ⟨#[]⟩] (cols * 2)) 28) = w2 at *
      obtain ⟨gi, hgi⟩ : ∃ gi, wr.heap.size = gi := ⟨_, rfl⟩
      rw [hgi] at hmk hen
      obtain ⟨A', hA'⟩ : ∃ A' : Nat → Nat, A' = fun j => if j = i then gi else A j := ⟨_, rfl⟩
      rw [← hA'] at hen
      have hAi : A' i = gi := by rw [hA']; simp
      have Hen := Lib.hid hen
      have hcl2 := (hen.hdr.2 i hlt).1
      dsimp only at hcl2
      rw [if_pos (by omega), hAi] at hcl2
      clear hal hen hA' hgi
      go_wp2
      go_loopw [27] (fun v wr => ∃ k : Nat, k ≤ cols ∧ v = .int .i64 k ∧ Hid (TabI w wr g rows cols i k F A')) (fun v _ => cols - (intOf v).toNat)
      case atStart => exact ⟨0, by omega, by go_num, Hen⟩
      case round =>
        clear Hen hcl2 hcg1 hcg2 hmk
        obtain ⟨k, hk, rfl, HI⟩ := hrel
        by_cases hkl : k < cols
        · have hkI : (k : Int) < (cols : Int) := by omega
          have hk0 : (0 : Int) ≤ (k : Int) := by omega
          have hgc : wr.cell? ⟨g, i, none⟩ = some (.slice (some ⟨gi, 0, none⟩) cols cols) := by
            have := (HI.out.hdr.2 i hlt).1
            dsimp only at this
            rw [if_pos (by omega), hAi] at this
            exact this
          have heg := Heg.out
          go_wp2
          refine wp_region_held_drew (S := fun W => W.cell? ⟨g, i, none⟩ = some (.slice (some ⟨gi, 0, none⟩) cols cols)) (by kernel_rfl) hgc (fun hSS => ?_)
          refine wpAnyH_take (i := 0) (v := ?_) rfl (by kernel_rfl) (by kernel_rfl) (by kernel_rfl) (fun _ _ _ h => h) (Or.inl ⟨by rfl, ?_⟩) hSS ?_
          rotate_left 1
          next => intro w hSw; go_simp; try with_reducible rfl
          refine wpAnyH_take (i := 1) (v := ?_) rfl (by kernel_rfl) (by kernel_rfl) (by kernel_rfl) (fun _ _ _ h => h) (Or.inl ⟨by rfl, ?_⟩) hSS ?_
          rotate_left 1
          next => intro w hSw; go_simp; try with_reducible rfl
          refine wpAnyH_take (i := 2) (v := ?_) rfl (by kernel_rfl) (by kernel_rfl) (by kernel_rfl) (fun _ _ _ h => h) (Or.inl ⟨by rfl, ?_⟩) hSS ?_
          rotate_left 1
          next => intro w hSw; go_simp; try with_reducible rfl
          refine wpAnyH_take (i := 3) (v := ?_) rfl (by kernel_rfl) (by kernel_rfl) (by kernel_rfl) (fun _ _ _ h => h) (Or.inl ⟨by rfl, ?_⟩) hSS ?_
          rotate_left 1
          next => intro w hSw; go_simp; try with_reducible rfl
          refine wpAnyH_take (i := 4) (v := ?_) rfl (by kernel_rfl) (by kernel_rfl) (by kernel_rfl) (fun _ _ _ h => h) (Or.inl ⟨by rfl, ?_⟩) hSS ?_
          rotate_left 1
          next => intro w hSw; go_simp; try with_reducible rfl
          refine wpAnyH_take (i := 5) (v := ?_) rfl (by kernel_rfl) (by kernel_rfl) (by kernel_rfl) (fun _ _ _ h => h) (Or.inl ⟨by rfl, ?_⟩) hSS ?_
          rotate_left 1
          next => intro w hSw; go_simp; try with_reducible rfl
          refine wpAnyH_take (i := 6) (v := ?_) rfl (by kernel_rfl) (by kernel_rfl) (by kernel_rfl) (fun _ _ _ h => h) (Or.inl ⟨by rfl, ?_⟩) hSS ?_
          rotate_left 1
          next => intro w hSw; go_simp; try with_reducible rfl
          refine wpAnyH_take (i := 7) (v := ?_) rfl (by kernel_rfl) (by kernel_rfl) (by kernel_rfl) (fun _ _ _ h => h) (Or.inl ⟨by rfl, ?_⟩) hSS ?_
          rotate_left 1
          next => intro w hSw; go_simp; try with_reducible rfl
          refine wpAnyH_ready (rs := [8]) (by kernel_rfl) (by simp) ?_
          refine AllReadyH.cons rfl (fun K hK => ?_) AllReadyH.nil
          go_simp
          refine (Hof.out i k _ hlt hkl (HI.out.below.drew)).mono ?_
          rintro e5 w5 ⟨rfl, hb⟩
          have HI5 : Hid (TabI w w5 g rows cols i k F A') := Lib.hid (HI.out.call ((Below.refl _ wr).drew.trans hb))
          have hSS : w5.cell? ⟨g, i, none⟩ = some (.slice (some ⟨gi, 0, none⟩) cols cols) := (hb.cell (p := ⟨g, i, none⟩) HI.out.hdr.1).trans hgc
          have hcur := HI5.out.cur
          rw [hAi] at hcur
          obtain ⟨⟨z1, z2⟩, z3, z4⟩ := hcur.1.2 k hkl
          have hgg : ¬ gi = g := hcur.2.2
          have HI6 := Lib.hid HI5.out.put
          rw [hAi] at HI6
          have hS6 : ((w5.setCell ⟨gi, k * 2, none⟩ (.bool (canon (F i k)).neg)).setCell ⟨gi, k * 2 + 1, none⟩ (.string (canon (F i k)).mag)).cell? ⟨g, i, none⟩ = some (.slice (some ⟨gi, 0, none⟩) cols cols) := by
            rw [World.cell?_setCell_other _ _ _ _ (by intro hh; simp only [Addr.mk.injEq] at hh; exact hgg hh.1), World.cell?_setCell_other _ _ _ _ (by intro hh; simp only [Addr.mk.injEq] at hh; exact hgg hh.1)]; exact hSS
          clear hcur hb
          dsimp only
          refine hK.out _ _ hSS (fun _ => ?_)
          clear hK K
          refine wpAnyH_take (i := 9) (v := ?_) rfl (by kernel_rfl) (by kernel_rfl) (by kernel_rfl) (fun _ _ _ h => h) (Or.inl ⟨by rfl, ?_⟩) hSS ?_
          rotate_left 1
          next => intro w hSw; go_simp; try with_reducible rfl
          refine wpAnyH_ready (rs := [10]) (by kernel_rfl) (by simp) ?_
          refine AllReadyH.cons rfl (fun K hK => ?_) AllReadyH.nil
          go_simp
          refine hK.out _ _ hS6 (fun _ => ?_)
          clear hK K
          refine wpAnyH_done (by kernel_rfl) ?_ _
          clear hS6 hSS z1 z2 z3 z4 hgc
          go_wp2
          go_roundw
          case rel => exact ⟨k + 1, by omega, by go_num, HI6⟩
          case measure => simp [intOf]; omega
        · have hkI : ¬ (k : Int) < (cols : Int) := by omega
          have HO2 : Hid (TabO w wr g rows cols (i + 1) F A') := Lib.hid (by
            have h := HI.out
            rw [show k = cols from by omega] at h
            exact h.leave)
          clear HI
          go_wp2
          go_roundw
          case rel => exact ⟨i + 1, A', by omega, by go_num, HO2⟩
          case measure => simp [intOf]; omega
    · have hiI : ¬ (i : Int) < (rows : Int) := by omega
      have HO2 : Hid (TabO w wr g rows cols rows F A) := Lib.hid (by have h := HO.out; rw [show i = rows from by omega] at h; exact h)
      clear HO
      go_wp2
      go_ret
      exact ⟨g, rfl, HO2.out.own, HO2.out.below⟩
end Go.Proofs.Ytlaoijfphkhchaa
