/- The walk of the statement PropagationWorst: it returns true for every input. -/
import Derived.Test.YtcafeffgaokiaaaZ44
import Derived.Test.YtcafeffgaokiaaaZ45
import Derived.Laws.StructEq
namespace Go.Proofs.Ytcafeffgaokiaaa
open Go.RowKit
theorem wstV_form (l b i : Int) (m : EM) (dl db di dp df : Int) (es : List Ent) (n : Int) : ∃ (S : ByteArray) (A C E : Int), wstV l b i m dl db di dp df es n = .tuple #[.string S, .int .i64 A, .int .i64 C, .int .i64 E] := by
  unfold wstV
  split
  · split
    · exact ⟨_, _, _, _, rfl⟩
    · exact ⟨_, _, _, _, rfl⟩
  · exact ⟨_, _, _, _, rfl⟩
theorem avgV_form (l b i : Int) (m : EM) (dl db di dp df : Int) (es : List Ent) (n : Int) : ∃ (a : Bool) (b' : ByteArray) (c : Bool) (d : ByteArray), avgV l b i m dl db di dp df es n = .agg #[.bool a, .string b', .bool c, .string d] := by
  unfold avgV
  split
  · exact ⟨_, _, _, _, rfl⟩
  · exact ⟨_, _, _, _, rfl⟩
set_option maxRecDepth 100000 in
set_option maxHeartbeats 8000000 in
theorem worstLaw (l b i : Int) (m : EM) (p : Option Addr) (c : Nat) (dl db di dp df : Int) (es : List Ent) (a : Option Addr) (ca : Nat) (n : Int) (w : World) (hA : m.At w p) (hf : m.Fit) (hE : EntsAt w a es) (hwins : WinsFit es) (hlen : es.length ≤ 100000000000000) :
    Calls Try.prog 4 #[.agg #[.int .i64 l, .int .i64 b, .int .i64 i, .slice p m.r c], .agg #[.int .i64 dl, .int .i64 db, .int .i64 di, .int .i64 dp, .int .i64 df, .slice a es.length ca], .int .i64 n] w fun e w' => e = .returned (.bool true) ∧ Below w.heap.size w w' := by
  obtain ⟨V, hV⟩ : ∃ V, ((w.alloc (.cells #[.int .i64 l, .int .i64 b, .int .i64 i, .slice p m.r c] 24)).alloc (.cells #[.int .i64 dl, .int .i64 db, .int .i64 di, .int .i64 dp, .int .i64 df, .slice a es.length ca] 30)) = V := ⟨_, rfl⟩
  have hbV : Below w.heap.size w V := by rw [← hV]; exact ((Below.refl w.heap.size w).alloc (Nat.le_refl _) _).alloc (by simp) _
  obtain ⟨g, hg⟩ : ∃ g, w.heap.size = g := ⟨_, rfl⟩
  have hsV : V.heap.size = g + 2 := by rw [← hV]; simp [hg]
  have x0 : V.cell? ⟨g, 0, none⟩ = some (.int .i64 l) ∧ V.cell? ⟨g, 1, none⟩ = some (.int .i64 b) ∧ V.cell? ⟨g, 2, none⟩ = some (.int .i64 i) ∧ V.cell? ⟨g, 3, none⟩ = some (.slice p m.r c) := by
    rw [← hV, ← hg]; refine ⟨?_, ?_, ?_, ?_⟩ <;> simp
  have y0 : V.cell? ⟨g + 1, 0, none⟩ = some (.int .i64 dl) ∧ V.cell? ⟨g + 1, 1, none⟩ = some (.int .i64 db) ∧ V.cell? ⟨g + 1, 2, none⟩ = some (.int .i64 di) ∧ V.cell? ⟨g + 1, 3, none⟩ = some (.int .i64 dp) ∧ V.cell? ⟨g + 1, 4, none⟩ = some (.int .i64 df) ∧ V.cell? ⟨g + 1, 5, none⟩ = some (.slice a es.length ca) := by
    rw [← hV, ← hg]; refine ⟨?_, ?_, ?_, ?_, ?_, ?_⟩ <;> simp
  have HX := Lib.hid (fun (W : World) (h : Below V.heap.size V W) => show (W.cell? ⟨g, 0, none⟩ = some (.int .i64 l) ∧ W.cell? ⟨g, 1, none⟩ = some (.int .i64 b) ∧ W.cell? ⟨g, 2, none⟩ = some (.int .i64 i) ∧ W.cell? ⟨g, 3, none⟩ = some (.slice p m.r c)) ∧ W.cell? ⟨g + 1, 0, none⟩ = some (.int .i64 dl) ∧ W.cell? ⟨g + 1, 1, none⟩ = some (.int .i64 db) ∧ W.cell? ⟨g + 1, 2, none⟩ = some (.int .i64 di) ∧ W.cell? ⟨g + 1, 3, none⟩ = some (.int .i64 dp) ∧ W.cell? ⟨g + 1, 4, none⟩ = some (.int .i64 df) ∧ W.cell? ⟨g + 1, 5, none⟩ = some (.slice a es.length ca) from
    ⟨⟨(h.cell (by simp; omega)).trans x0.1, (h.cell (by simp; omega)).trans x0.2.1, (h.cell (by simp; omega)).trans x0.2.2.1, (h.cell (by simp; omega)).trans x0.2.2.2⟩,
      (h.cell (by simp; omega)).trans y0.1, (h.cell (by simp; omega)).trans y0.2.1, (h.cell (by simp; omega)).trans y0.2.2.1, (h.cell (by simp; omega)).trans y0.2.2.2.1, (h.cell (by simp; omega)).trans y0.2.2.2.2.1, (h.cell (by simp; omega)).trans y0.2.2.2.2.2⟩)
  have HG1 := Lib.hid (fun (W : World) (h : Below w.heap.size w W) => encGreat_any l b i m p c W (hA.below (Nat.le_refl _) h) hf)
  have HG2 := Lib.hid (fun (W : World) (h : Below w.heap.size w W) => great_any dl db di dp df es a ca W (SlAt.mono hE (Nat.le_refl _) h) hwins hlen)
  have HMy := Lib.hid (fun (W : World) => many_any l b i m p c n W)
  have HPr := Lib.hid (fun (hM : manyB b i m.r n = false) => show (∀ W, Below w.heap.size w W → _) from fun (W : World) (h : Below w.heap.size w W) =>
    have hsm := fun h0 => let r := rps_small (l := l) (b := b) (i := i) (m := m) (dl := dl) (db := db) (di := di) (dp := dp) (df := df) (es := es) (n := n) h0 hM; (⟨Nat.le_trans r.2.2 (by decide), Nat.le_trans r.2.1 (by decide)⟩ : sumF (rps l b i m dp df es n) ≤ 1000000000 ∧ (rps l b i m dp df es n).length ≤ 1000000000)
    And.intro (pGreatest_any l b i m p c dl db di dp df es a ca n W (hA.below (Nat.le_refl _) h) hf (SlAt.mono hE (Nat.le_refl _) h) hwins)
    (And.intro (rGreatest_any l b i m p c dl db di dp df es a ca n W (hA.below (Nat.le_refl _) h) hf (SlAt.mono hE (Nat.le_refl _) h) hwins hsm)
    (And.intro (pAverage_any l b i m p c dl db di dp df es a ca n W (hA.below (Nat.le_refl _) h) hf (SlAt.mono hE (Nat.le_refl _) h) hwins hsm)
    (And.intro (rAverage_any l b i m p c dl db di dp df es a ca n W (hA.below (Nat.le_refl _) h) hf (SlAt.mono hE (Nat.le_refl _) h) hwins hsm)
    (And.intro (pWorst_any l b i m p c dl db di dp df es a ca n W (hA.below (Nat.le_refl _) h) hf (SlAt.mono hE (Nat.le_refl _) h) hwins)
    (rWorst_any l b i m p c dl db di dp df es a ca n W (hA.below (Nat.le_refl _) h) hf (SlAt.mono hE (Nat.le_refl _) h) hwins hsm))))))
  have HbV := Lib.hid hbV
  obtain ⟨⟨x0, x1, x2, x3⟩, y0, y1, y2, y3, y4, y5⟩ := HX.out V (Below.refl _ _)
  clear hA hE hwins hf hbV
  go_enter Try.func4, Try.ntmps4
  have HB0 : Hid (Below V.heap.size V V) := Lib.hid (Below.refl _ _)
  go_wp2_with fail
  refine (HG1.out _ HbV.out).mono ?_
  rintro e W1 ⟨g1, rfl, hb⟩
  have HB1 := Lib.hid (HB0.out.trans (hb.mono HB0.out.size))
  have Hw1 := Lib.hid (HbV.out.trans (HB1.out.mono HbV.out.size))
  clear x0 x1 x2 x3 y0 y1 y2 y3 y4 y5
  obtain ⟨⟨x0, x1, x2, x3⟩, y0, y1, y2, y3, y4, y5⟩ := HX.out _ HB1.out
  clear hb
  cases g1
  case true =>
    go_wp2_with (go_at_call 18; refine (awake_any _).mono ?_; rintro e w9 ⟨rfl, hb⟩; have Hb9 := Lib.hid hb; clear hb)
    go_ret
    exact ⟨rfl, Hw1.out.trans (Hb9.out.mono Hw1.out.size)⟩
  case false =>
    go_wp2_with fail
    refine (HG2.out _ Hw1.out).mono ?_
    rintro e W2 ⟨g2, rfl, _, hb⟩
    have HB2 := Lib.hid (HB1.out.trans (hb.mono HB1.out.size))
    have Hw2 := Lib.hid (HbV.out.trans (HB2.out.mono HbV.out.size))
    clear x0 x1 x2 x3 y0 y1 y2 y3 y4 y5
    obtain ⟨⟨x0, x1, x2, x3⟩, y0, y1, y2, y3, y4, y5⟩ := HX.out _ HB2.out
    clear hb
    cases g2
    case true =>
      go_wp2_with (go_at_call 18; refine (awake_any _).mono ?_; rintro e w9 ⟨rfl, hb⟩; have Hb9 := Lib.hid hb; clear hb)
      go_ret
      exact ⟨rfl, Hw2.out.trans (Hb9.out.mono Hw2.out.size)⟩
    case false =>
      go_wp2_with fail
      refine (HMy.out _).mono ?_
      rintro e W3 ⟨rfl, hb⟩
      have HB3 := Lib.hid (HB2.out.trans (hb.mono HB2.out.size))
      have Hw3 := Lib.hid (HbV.out.trans (HB3.out.mono HbV.out.size))
      clear x0 x1 x2 x3 y0 y1 y2 y3 y4 y5
      obtain ⟨⟨x0, x1, x2, x3⟩, y0, y1, y2, y3, y4, y5⟩ := HX.out _ HB3.out
      clear hb
      obtain ⟨mb, hmb⟩ : ∃ x, manyB b i m.r n = x := ⟨_, rfl⟩
      rw [hmb]
      cases mb
      case true =>
        clear hmb HPr
        go_wp2_with (go_at_call 18; refine (awake_any _).mono ?_; rintro e w9 ⟨rfl, hb⟩; have Hb9 := Lib.hid hb; clear hb)
        go_ret
        exact ⟨rfl, Hw3.out.trans (Hb9.out.mono Hw3.out.size)⟩
      case false =>
        have HPs := Lib.hid (HPr.out hmb)
        clear hmb HPr HG1 HG2 HMy
        obtain ⟨gv, hgv⟩ : ∃ x, grtV l b i m dl db di dp df es n = x := ⟨_, rfl⟩
        obtain ⟨fe, hfe⟩ : ∃ x, fitErr l b i m dl db di dp df es n = x := ⟨_, rfl⟩
        obtain ⟨ra, rb, rc, rd, hav⟩ := avgV_form l b i m dl db di dp df es n
        obtain ⟨S, A, C, E, hwv⟩ := wstV_form l b i m dl db di dp df es n
        rw [hgv, hfe, hav, hwv] at HPs
        clear hgv hfe hav hwv
        go_wp2_with fail
        refine ((HPs.out _ Hw3.out).1).mono ?_
        rintro e W4 ⟨rfl, hb⟩
        have HB4 := Lib.hid (HB3.out.trans (hb.mono HB3.out.size))
        have Hw4 := Lib.hid (HbV.out.trans (HB4.out.mono HbV.out.size))
        clear x0 x1 x2 x3 y0 y1 y2 y3 y4 y5
        obtain ⟨⟨x0, x1, x2, x3⟩, y0, y1, y2, y3, y4, y5⟩ := HX.out _ HB4.out
        clear hb
        go_wp2_with fail
        refine ((HPs.out _ Hw4.out).2.1).mono ?_
        rintro e W5 ⟨rfl, hb⟩
        have HB5 := Lib.hid (HB4.out.trans (hb.mono HB4.out.size))
        have Hw5 := Lib.hid (HbV.out.trans (HB5.out.mono HbV.out.size))
        clear x0 x1 x2 x3 y0 y1 y2 y3 y4 y5
        obtain ⟨⟨x0, x1, x2, x3⟩, y0, y1, y2, y3, y4, y5⟩ := HX.out _ HB5.out
        clear hb
        go_wp2_with fail
        refine ((HPs.out _ Hw5.out).2.2.1).mono ?_
        rintro e W6 ⟨rfl, hb⟩
        have HB6 := Lib.hid (HB5.out.trans (hb.mono HB5.out.size))
        have Hw6 := Lib.hid (HbV.out.trans (HB6.out.mono HbV.out.size))
        clear x0 x1 x2 x3 y0 y1 y2 y3 y4 y5
        obtain ⟨⟨x0, x1, x2, x3⟩, y0, y1, y2, y3, y4, y5⟩ := HX.out _ HB6.out
        clear hb
        go_upto_region 6 with (fail)
        have hb := (Below.refl W6.heap.size W6).alloc (Nat.le_refl _) (.cells #[.bool ra, .string rb, .bool rc, .string rd] 50)
        have hob : (W6.alloc (.cells #[.bool ra, .string rb, .bool rc, .string rd] 50)).heap[W6.heap.size]? = some (.cells #[.bool ra, .string rb, .bool rc, .string rd] 50 (0, 0)) := World.alloc_heap_new W6 _
        have HOu1 := Lib.hid hob
        clear hob
        obtain ⟨u1, hu1⟩ : ∃ x, W6.heap.size = x := ⟨_, rfl⟩
        rw [hu1] at HOu1 ⊢
        have HB7 := Lib.hid (HB6.out.trans (hb.mono HB6.out.size))
        have Hw7 := Lib.hid (HbV.out.trans (HB7.out.mono HbV.out.size))
        clear hb x0 x1 x2 x3 y0 y1 y2 y3 y4 y5 hu1
        generalize W6.alloc (.cells #[.bool ra, .string rb, .bool rc, .string rd] 50) = X7 at *
        obtain ⟨⟨x0, x1, x2, x3⟩, y0, y1, y2, y3, y4, y5⟩ := HX.out _ HB7.out
        go_wp2_with fail
        refine ((HPs.out _ Hw7.out).2.2.2.1).mono ?_
        rintro e W8 ⟨rfl, hb⟩
        have HOu1 := Lib.hid ((hb.block u1 (Array.getElem?_eq_some_iff.1 HOu1.out).1).trans HOu1.out)
        have HB8 := Lib.hid (HB7.out.trans (hb.mono HB7.out.size))
        have Hw8 := Lib.hid (HbV.out.trans (HB8.out.mono HbV.out.size))
        clear x0 x1 x2 x3 y0 y1 y2 y3 y4 y5
        obtain ⟨⟨x0, x1, x2, x3⟩, y0, y1, y2, y3, y4, y5⟩ := HX.out _ HB8.out
        clear hb
        have hb := (Below.refl W8.heap.size W8).alloc (Nat.le_refl _) (.cells #[.bool ra, .string rb, .bool rc, .string rd] 50)
        have HOu1 := Lib.hid ((hb.block u1 (Array.getElem?_eq_some_iff.1 HOu1.out).1).trans HOu1.out)
        clear hb
        go_upto_region 7 with (fail)
        have hb := (Below.refl W8.heap.size W8).alloc (Nat.le_refl _) (.cells #[.bool ra, .string rb, .bool rc, .string rd] 50)
        have hob : (W8.alloc (.cells #[.bool ra, .string rb, .bool rc, .string rd] 50)).heap[W8.heap.size]? = some (.cells #[.bool ra, .string rb, .bool rc, .string rd] 50 (0, 0)) := World.alloc_heap_new W8 _
        have HOu2 := Lib.hid hob
        clear hob
        obtain ⟨u2, hu2⟩ : ∃ x, W8.heap.size = x := ⟨_, rfl⟩
        rw [hu2] at HOu2 ⊢
        have HB9 := Lib.hid (HB8.out.trans (hb.mono HB8.out.size))
        have Hw9 := Lib.hid (HbV.out.trans (HB9.out.mono HbV.out.size))
        clear hb x0 x1 x2 x3 y0 y1 y2 y3 y4 y5 hu2
        generalize W8.alloc (.cells #[.bool ra, .string rb, .bool rc, .string rd] 50) = X9 at *
        obtain ⟨⟨x0, x1, x2, x3⟩, y0, y1, y2, y3, y4, y5⟩ := HX.out _ HB9.out
        go_wp2_with fail
        refine ((HPs.out _ Hw9.out).2.2.2.2.1).mono ?_
        rintro e W10 ⟨rfl, hb⟩
        have HOu1 := Lib.hid ((hb.block u1 (Array.getElem?_eq_some_iff.1 HOu1.out).1).trans HOu1.out)
        have HOu2 := Lib.hid ((hb.block u2 (Array.getElem?_eq_some_iff.1 HOu2.out).1).trans HOu2.out)
        have HB10 := Lib.hid (HB9.out.trans (hb.mono HB9.out.size))
        have Hw10 := Lib.hid (HbV.out.trans (HB10.out.mono HbV.out.size))
        clear x0 x1 x2 x3 y0 y1 y2 y3 y4 y5
        obtain ⟨⟨x0, x1, x2, x3⟩, y0, y1, y2, y3, y4, y5⟩ := HX.out _ HB10.out
        clear hb
        go_wp2_with fail
        refine ((HPs.out _ Hw10.out).2.2.2.2.2).mono ?_
        rintro e W11 ⟨rfl, hb⟩
        have HOu1 := Lib.hid ((hb.block u1 (Array.getElem?_eq_some_iff.1 HOu1.out).1).trans HOu1.out)
        have HOu2 := Lib.hid ((hb.block u2 (Array.getElem?_eq_some_iff.1 HOu2.out).1).trans HOu2.out)
        have HB11 := Lib.hid (HB10.out.trans (hb.mono HB10.out.size))
        have Hw11 := Lib.hid (HbV.out.trans (HB11.out.mono HbV.out.size))
        clear x0 x1 x2 x3 y0 y1 y2 y3 y4 y5
        obtain ⟨⟨x0, x1, x2, x3⟩, y0, y1, y2, y3, y4, y5⟩ := HX.out _ HB11.out
        clear hb
        clear HPs x0 x1 x2 x3 y0 y1 y2 y3 y4 y5
        have u10 := cell_of_obj HOu1.out 0
        have u11 := cell_of_obj HOu1.out 1
        have u12 := cell_of_obj HOu1.out 2
        have u13 := cell_of_obj HOu1.out 3
        simp only [List.getElem?_toArray, List.getElem?_cons_succ, List.getElem?_cons_zero] at u10 u11 u12 u13
        have u20 := cell_of_obj HOu2.out 0
        have u21 := cell_of_obj HOu2.out 1
        have u22 := cell_of_obj HOu2.out 2
        have u23 := cell_of_obj HOu2.out 3
        simp only [List.getElem?_toArray, List.getElem?_cons_succ, List.getElem?_cons_zero] at u20 u21 u22 u23
        go_wp2_with (go_at_call 18; refine (awake_any _).mono ?_; rintro e w9 ⟨rfl, hb⟩; have Hb9 := Lib.hid hb; clear hb)
        go_ret
        exact ⟨rfl, Hw11.out.trans (Hb9.out.mono Hw11.out.size)⟩
end Go.Proofs.Ytcafeffgaokiaaa
