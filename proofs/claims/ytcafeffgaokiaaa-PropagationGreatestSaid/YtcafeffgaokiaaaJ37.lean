/- propagation.Average. -/
import Derived.Test.YtcafeffgaokiaaaJ11
import Derived.Test.YtcafeffgaokiaaaJ12
import Derived.Test.YtcafeffgaokiaaaJ36
namespace Go.Proofs.Ytcafeffgaokiaaa
open Go.RowKit
attribute [local go_sem] Oper.semAt_some wideF
theorem avg_boxes (X : World) (g : Nat) (hg : X.heap.size = g) (L b i : Int) (m : EM) (p : Option Addr) (c : Nat) (dl db di dp df : Int) (da : Option Addr) (dn dc : Nat) (t1 t2 t3 : TypeId) (w1 : World)
    (h : w1 = ((X.alloc (.cells #[.int .i64 L, .int .i64 b, .int .i64 i, .slice p m.r c] t1)).alloc (.cells #[.int .i64 dl, .int .i64 db, .int .i64 di, .int .i64 dp, .int .i64 df, .slice da dn dc] t2)).alloc (.cells #[.bool false, .string ⟨#[]⟩, .bool false, .string ⟨#[]⟩] t3)) :
    w1.heap.size = g + 3 ∧ Below X.heap.size X w1 ∧ EBox w1 g L b i m p c ∧ DBox w1 (g + 1) dl db di dp df da dn dc ∧ w1.heap[g + 2]? = some (.cells #[.bool false, .string ⟨#[]⟩, .bool false, .string ⟨#[]⟩] t3 (0, 0)) := by
  obtain ⟨A, hA⟩ : ∃ A, X.alloc (.cells #[.int .i64 L, .int .i64 b, .int .i64 i, .slice p m.r c] t1) = A := ⟨_, rfl⟩
  obtain ⟨D, hD⟩ : ∃ D, A.alloc (.cells #[.int .i64 dl, .int .i64 db, .int .i64 di, .int .i64 dp, .int .i64 df, .slice da dn dc] t2) = D := ⟨_, rfl⟩
  have a1 : A.heap[g]? = some (.cells #[.int .i64 L, .int .i64 b, .int .i64 i, .slice p m.r c] t1) := by rw [← hA, ← hg]; exact World.alloc_heap_new X _
  have a2 : A.heap.size = g + 1 := by rw [← hA, World.size_alloc, hg]
  have d1 : D.heap[g + 1]? = some (.cells #[.int .i64 dl, .int .i64 db, .int .i64 di, .int .i64 dp, .int .i64 df, .slice da dn dc] t2) := by rw [← hD, ← a2]; exact World.alloc_heap_new A _
  have d2 : D.heap.size = g + 2 := by rw [← hD, World.size_alloc, a2]
  have d3 : D.heap[g]? = some (.cells #[.int .i64 L, .int .i64 b, .int .i64 i, .slice p m.r c] t1) := by rw [← hD]; exact (Below.heap_alloc _ _ _ (by omega)).trans a1
  rw [hA, hD] at h
  have n1 : w1.heap[g + 2]? = some (.cells #[.bool false, .string ⟨#[]⟩, .bool false, .string ⟨#[]⟩] t3) := by rw [h, ← d2]; exact World.alloc_heap_new D _
  have n2 : w1.heap[g + 1]? = some (.cells #[.int .i64 dl, .int .i64 db, .int .i64 di, .int .i64 dp, .int .i64 df, .slice da dn dc] t2) := by rw [h]; exact (Below.heap_alloc _ _ _ (by omega)).trans d1
  have n3 : w1.heap[g]? = some (.cells #[.int .i64 L, .int .i64 b, .int .i64 i, .slice p m.r c] t1) := by rw [h]; exact (Below.heap_alloc _ _ _ (by omega)).trans d3
  refine ⟨by rw [h, World.size_alloc, d2], ?_, ⟨cell_of_obj n3 0, cell_of_obj n3 1, cell_of_obj n3 2, cell_of_obj n3 3⟩, ⟨cell_of_obj n2 0, cell_of_obj n2 1, cell_of_obj n2 2, cell_of_obj n2 3, cell_of_obj n2 4, cell_of_obj n2 5⟩, n1⟩
  rw [h, ← hD, ← hA]
  exact (((Below.refl _ X).alloc (Nat.le_refl _) _).alloc (by simp) _).alloc (by simp; omega) _
/-- The mean, or nothing. -/
def avgV (l b i : Int) (m : EM) (dl db di dp df : Int) (es : List Ent) (n : Int) : Value :=
  if fitErr l b i m dl db di dp df es n = 0 then ratV (rloN (sumF (rps l b i m dp df es n) : Int) ((max (rps l b i m dp df es n).length 1 : Nat) : Int)) (rloD (sumF (rps l b i m dp df es n) : Int) ((max (rps l b i m dp df es n).length 1 : Nat) : Int)) else .agg #[.bool false, .string ⟨#[]⟩, .bool false, .string ⟨#[]⟩]
theorem box4_set4 {w : World} {g : Nat} {a b c d : Value} (h : Box4 w g a b c d) (x y z u : Value) : Box4 ((((w.setCell ⟨g, 0, none⟩ x).setCell ⟨g, 1, none⟩ y).setCell ⟨g, 2, none⟩ z).setCell ⟨g, 3, none⟩ u) g x y z u := by
  obtain ⟨h1, h2, h3, h4, h5, h6⟩ := h
  have ne : ∀ i j : Nat, i ≠ j → ∀ (W : World) (v : Value), (W.setCell ⟨g, i, none⟩ v).cell? ⟨g, j, none⟩ = W.cell? ⟨g, j, none⟩ := fun i j hij W v => World.cell?_setCell_other _ _ _ _ (by intro h; injection h with _ h; omega)
  refine ⟨?_, ?_, ?_, ?_, fun j => ?_, by simpa using h6⟩
  · rw [ne 3 0 (by decide), ne 2 0 (by decide), ne 1 0 (by decide)]; exact World.cell?_setCell_same _ _ _ h1
  · rw [ne 3 1 (by decide), ne 2 1 (by decide)]; exact World.cell?_setCell_same (u := b) _ _ _ (by rw [ne 0 1 (by decide)]; exact h2)
  · rw [ne 3 2 (by decide)]; exact World.cell?_setCell_same (u := c) _ _ _ (by rw [ne 1 2 (by decide), ne 0 2 (by decide)]; exact h3)
  · exact World.cell?_setCell_same (u := d) _ _ _ (by rw [ne 2 3 (by decide), ne 1 3 (by decide), ne 0 3 (by decide)]; exact h4)
  · rw [World.frozen?_setCell, World.frozen?_setCell, World.frozen?_setCell, World.frozen?_setCell]; exact h5 j
/-- What a round of Average finds: the sum and the number so far. -/
structure IAvg (w w1 : World) (g0 gr : Nat) (pre : List Rp) (X : World) : Prop where
  s : Boxed X g0 3 (.int .i64 (sumF pre : Int))
  t : Boxed X (g0 + 1) 3 (.int .i64 (pre.length : Int))
  r : X.heap[gr]? = some (.cells #[.bool false, .string ⟨#[]⟩, .bool false, .string ⟨#[]⟩] 50 (0, 0))
  b : Below w.heap.size w X
  sz : w1.heap.size ≤ X.heap.size
theorem IAvg.turn {w w1 : World} {g0 gr C B : Nat} {pre : List Rp} {W W' : World} {row : Option Nat} (h : IAvg w w1 g0 gr pre W) (hg : W.grownBy W' row) (hr : ∀ r, row = some r → TurnT C (TB B) r W) (hC : w.heap.size ≤ C ∧ w.heap.size ≤ B) : IAvg w w1 g0 gr pre W' :=
  ⟨tb_boxed h.s hg hr, tb_boxed h.t hg hr, tb_cells h.r rfl hg hr, tb_below h.b h.b.size hg hr hC.1 hC.2, Nat.le_trans h.sz hg.size⟩
theorem IAvg.alloc {w w1 : World} {g0 gr : Nat} {pre : List Rp} {W : World} (h : IAvg w w1 g0 gr pre W) (o : Obj) : IAvg w w1 g0 gr pre (W.alloc o) :=
  ⟨h.s.alloc _, h.t.alloc _, (Below.heap_alloc _ _ _ (Array.getElem?_eq_some_iff.1 h.r).1).trans h.r, h.b.alloc h.b.size _, by simp; exact Nat.le_succ_of_le h.sz⟩
theorem boxed_far {W : World} {u : Nat} {t : TypeId} {v : Value} (h : Boxed W u t v) (p : Addr) (x : Value) (hp : u ≠ p.block) : Boxed (W.setCell p x) u t v := (Below.heap_setCell W p x u hp).trans h
theorem IAvg.set {w w1 : World} {g0 gr : Nat} {pre pre2 : List Rp} {W : World} (h : IAvg w w1 g0 gr pre W) (S T z : Nat) (hS : sumF pre2 = S + z) (hT : pre2.length = T + 1) (hw : w.heap.size ≤ g0) (hgr : gr < g0) :
    IAvg w w1 g0 gr pre2 ((W.setCell ⟨g0, 0, none⟩ (.int .i64 ((S + z : Nat) : Int))).setCell ⟨g0 + 1, 0, none⟩ (.int .i64 ((T + 1 : Nat) : Int))) :=
  ⟨by rw [hS]; exact boxed_far (h.s.set _) _ _ (by show g0 ≠ g0 + 1; omega), by rw [hT]; exact (boxed_far h.t ⟨g0, 0, none⟩ _ (by show g0 + 1 ≠ g0; omega)).set _,
    by rw [Below.heap_setCell _ _ _ gr (by show gr ≠ g0 + 1; omega), Below.heap_setCell _ _ _ gr (by show gr ≠ g0; omega)]; exact h.r,
    (h.b.setCell (p := ⟨g0, 0, none⟩) hw _).setCell (p := ⟨g0 + 1, 0, none⟩) (by show w.heap.size ≤ g0 + 1; omega) _, by simpa using h.sz⟩
set_option maxRecDepth 100000 in
set_option maxHeartbeats 8000000 in
theorem pAverage_any (l b i : Int) (m : EM) (p : Option Addr) (c : Nat) (dl db di dp df : Int) (es : List Ent) (a : Option Addr) (ca : Nat) (n : Int) (w : World) (hA : m.At w p) (hf : m.Fit) (hE : EntsAt w a es) (hwins : WinsFit es) (hsm : fitErr l b i m dl db di dp df es n = 0 → sumF (rps l b i m dp df es n) ≤ 1000000000 ∧ (rps l b i m dp df es n).length ≤ 1000000000) :
    Calls Try.prog 21 #[.agg #[.int .i64 l, .int .i64 b, .int .i64 i, .slice p m.r c], .agg #[.int .i64 dl, .int .i64 db, .int .i64 di, .int .i64 dp, .int .i64 df, .slice a es.length ca], .int .i64 n] w fun e w' => e = .returned (.tuple #[avgV l b i m dl db di dp df es n, .int .i64 (fitErr l b i m dl db di dp df es n)]) ∧ Below w.heap.size w w' := by
  obtain ⟨V, hV⟩ : ∃ V, ((w.alloc (.cells #[.int .i64 l, .int .i64 b, .int .i64 i, .slice p m.r c] 24)).alloc (.cells #[.int .i64 dl, .int .i64 db, .int .i64 di, .int .i64 dp, .int .i64 df, .slice a es.length ca] 30)).alloc (.cells #[.bool false, .string ⟨#[]⟩, .bool false, .string ⟨#[]⟩] 50) = V := ⟨_, rfl⟩
  obtain ⟨g, hg⟩ : ∃ g, w.heap.size = g := ⟨_, rfl⟩
  obtain ⟨hsV, hbV, x0, y0, hrz⟩ := avg_boxes w g hg l b i m p c dl db di dp df a es.length ca 24 30 50 V hV.symm
  have HX := Lib.hid (fun (W : World) (h : Below V.heap.size V W) => show (W.cell? ⟨g, 0, none⟩ = some (.int .i64 l) ∧ W.cell? ⟨g, 1, none⟩ = some (.int .i64 b) ∧ W.cell? ⟨g, 2, none⟩ = some (.int .i64 i) ∧ W.cell? ⟨g, 3, none⟩ = some (.slice p m.r c)) ∧ W.cell? ⟨g + 1, 0, none⟩ = some (.int .i64 dl) ∧ W.cell? ⟨g + 1, 1, none⟩ = some (.int .i64 db) ∧ W.cell? ⟨g + 1, 2, none⟩ = some (.int .i64 di) ∧ W.cell? ⟨g + 1, 3, none⟩ = some (.int .i64 dp) ∧ W.cell? ⟨g + 1, 4, none⟩ = some (.int .i64 df) ∧ W.cell? ⟨g + 1, 5, none⟩ = some (.slice a es.length ca) from
    ⟨⟨(h.cell (by simp; omega)).trans x0.1, (h.cell (by simp; omega)).trans x0.2.1, (h.cell (by simp; omega)).trans x0.2.2.1, (h.cell (by simp; omega)).trans x0.2.2.2⟩,
      (h.cell (by simp; omega)).trans y0.1, (h.cell (by simp; omega)).trans y0.2.1, (h.cell (by simp; omega)).trans y0.2.2.1, (h.cell (by simp; omega)).trans y0.2.2.2.1, (h.cell (by simp; omega)).trans y0.2.2.2.2.1, (h.cell (by simp; omega)).trans y0.2.2.2.2.2⟩)
  have HCk := Lib.hid (fun (W : World) (h : Below w.heap.size w W) => pcheck_any l b i m p c dl db di dp df es a ca n W (hA.below (Nat.le_refl _) h) hf (SlAt.mono hE (Nat.le_refl _) h) hwins)
  have HbV := Lib.hid hbV
  obtain ⟨⟨x0, x1, x2, x3⟩, y0, y1, y2, y3, y4, y5⟩ := HX.out V (Below.refl _ _)
  clear hf hbV
  refine calls_marks Try.func21 rfl ?_
  simp only [Try.ntmps21, List.size_toArray, List.length_cons, List.length_nil, Nat.reduceAdd, Nat.reduceSub, Array.replicate_succ, Array.replicate_zero, List.push_toArray, List.append_toArray, List.nil_append, List.cons_append]
  by_cases e1 : fitErr l b i m dl db di dp df es n = 0
  case neg =>
    have Hv := Lib.hid (show avgV l b i m dl db di dp df es n = .agg #[.bool false, .string ⟨#[]⟩, .bool false, .string ⟨#[]⟩] by unfold avgV; rw [if_neg e1])
    have e1' : (fitErr l b i m dl db di dp df es n != 0) = true := by simpa using e1
    clear e1
    go_wp2_with (go_at_call 44; refine (HCk.out _ HbV.out).mono ?_; rintro e W1 ⟨rfl, hb⟩; have hz := (hb.block (g + 2) (by omega)).trans hrz; have z0 := cell_of_obj hz 0; have z1 := cell_of_obj hz 1; have z2 := cell_of_obj hz 2; have z3 := cell_of_obj hz 3; have f0 := frozen_of_obj hz 0; have f1 := frozen_of_obj hz 1; have f2 := frozen_of_obj hz 2; have f3 := frozen_of_obj hz 3; simp only [List.getElem?_toArray, List.getElem?_cons_succ, List.getElem?_cons_zero] at z0 z1 z2 z3; have Hb := Lib.hid (HbV.out.trans (hb.mono HbV.out.size)); clear hb hz)
    refine ⟨.tuple #[.agg #[.bool false, .string ⟨#[]⟩, .bool false, .string ⟨#[]⟩], .int .i64 (fitErr l b i m dl db di dp df es n)], ?_, by rw [Hv.out], (((Hb.out.setCell (by simp; omega) _).setCell (by simp; omega) _).setCell (by simp; omega) _).setCell (by simp; omega) _⟩
    simp [results, Try.results21, go_sem, z0, z1, z2, z3]
  obtain ⟨he, hd, rfl, rfl, rfl, hn, hcnt⟩ := fit_ok e1
  obtain ⟨⟨l1, l2⟩, ⟨b1, b2⟩, ⟨i1, i2⟩, ⟨r1, r2⟩, hok, _⟩ := encCheck_ok he
  obtain ⟨N, rfl⟩ : ∃ N : Nat, n = N := ⟨n.toNat, by omega⟩
  obtain ⟨L, rfl⟩ : ∃ L : Nat, dl = L := ⟨dl.toNat, by omega⟩
  obtain ⟨B, rfl⟩ : ∃ B : Nat, db = B := ⟨db.toNat, by omega⟩
  obtain ⟨I, rfl⟩ : ∃ I : Nat, di = I := ⟨di.toNat, by omega⟩
  rw [Int.toNat_natCast, Int.toNat_natCast] at hok
  rw [Int.toNat_natCast] at hcnt
  have hdec : ∀ x ∈ wordsE m N, decErr (L : Int) (B : Int) (I : Int) dp df es x = 0 := fun x hx => (words_dec he hd (by omega) x hx).2
  obtain ⟨sm1, sm2⟩ := hsm e1
  have HSq := Lib.hid (fun (W0 : World) (h : Below w.heap.size w W0) (B1 lo hi be bn bd : Nat) (hlo : W0.heap.size ≤ lo) (h3 : hi ≤ be) (h4 : hi ≤ bn) (h5 : hi ≤ bd) => repl_seq W0 B1 lo hi be bn bd hlo h3 h4 h5 L (B : Int) (I : Int) m p c I B N (hA.below (Nat.le_refl _) h) hok (by omega) (by omega) (by omega) (by omega) (B : Int) (I : Int) dp df es a ca (SlAt.mono hE (Nat.le_refl _) h) hwins (by omega) hdec)
  have e1' : (fitErr (L : Int) (B : Int) (I : Int) m (L : Int) (B : Int) (I : Int) dp df es (N : Int) != 0) = false := by rw [e1]; rfl
  obtain ⟨ps, hps⟩ : ∃ ps, rps (L : Int) (B : Int) (I : Int) m dp df es (N : Int) = ps := ⟨_, rfl⟩
  have hps2 : rpE (decOut (L : Int) (B : Int) (I : Int) dp df es) L (wordsE m N) = ps := by rw [← hps]; unfold rps; rw [Int.toNat_natCast, Int.toNat_natCast]
  have Hv := Lib.hid (show avgV (L : Int) (B : Int) (I : Int) m (L : Int) (B : Int) (I : Int) dp df es (N : Int) = ratV (rloN (sumF ps : Int) ((max ps.length 1 : Nat) : Int)) (rloD (sumF ps : Int) ((max ps.length 1 : Nat) : Int)) by
    unfold avgV; rw [if_pos e1, hps])
  rw [hps] at sm1 sm2
  have E1 := Lib.hid e1
  have HPs := Lib.hid hps2
  clear hA hE hwins hdec he hd hok e1 hcnt hsm hps hps2
  go_wp2_with fail
  refine (HCk.out _ HbV.out).mono ?_; rintro e W1 ⟨rfl, hb⟩
  have HB1 := Lib.hid hb
  have Hw1 := Lib.hid (HbV.out.trans (hb.mono HbV.out.size))
  have Hrz1 := Lib.hid ((hb.block (g + 2) (by omega)).trans hrz)
  clear hb x0 x1 x2 x3 y0 y1 y2 y3 y4 y5 HCk hrz
  obtain ⟨⟨x0, x1, x2, x3⟩, y0, y1, y2, y3, y4, y5⟩ := HX.out _ HB1.out
  obtain ⟨g0, hg0⟩ : ∃ x, W1.heap.size = x := ⟨_, rfl⟩
  go_upto_region 5 with (fail)
  have hal := ((Below.refl W1.heap.size W1).alloc (Nat.le_refl _) (.cells #[.int .i64 0] 3)).alloc (by simp) (.cells #[.int .i64 0] 3)
  have hbx : Boxed ((W1.alloc (.cells #[.int .i64 0] 3)).alloc (.cells #[.int .i64 0] 3)) W1.heap.size 3 (.int .i64 0) := (Boxed.new W1 3 (.int .i64 0)).alloc _
  have hby : Boxed ((W1.alloc (.cells #[.int .i64 0] 3)).alloc (.cells #[.int .i64 0] 3)) (W1.heap.size + 1) 3 (.int .i64 0) := by
    have h := Boxed.new (W1.alloc (.cells #[.int .i64 0] 3)) 3 (.int .i64 0)
    rwa [World.size_alloc] at h
  have hsx : ((W1.alloc (.cells #[.int .i64 0] 3)).alloc (.cells #[.int .i64 0] 3)).heap.size = g0 + 2 := by simp [hg0]
  have hgV : V.heap.size ≤ W1.heap.size := HB1.out.size
  have hrz2 := (hal.block (g + 2) (by omega)).trans Hrz1.out
  rw [hg0] at hbx hby hgV
  have HB2 := Lib.hid (HB1.out.trans (hal.mono HB1.out.size))
  have Hw2 := Lib.hid (Hw1.out.trans (hal.mono Hw1.out.size))
  have Hbx := Lib.hid hbx
  have Hby := Lib.hid hby
  have Hrz2 := Lib.hid hrz2
  clear hal hbx hby hrz2 Hrz1 x0 x1 x2 x3 y0 y1 y2 y3 y4 y5 HB1 Hw1
  generalize (W1.alloc (.cells #[.int .i64 0] 3)).alloc (.cells #[.int .i64 0] 3) = X at *
  obtain ⟨⟨x0, x1, x2, x3⟩, y0, y1, y2, y3, y4, y5⟩ := HX.out _ HB2.out
  go_wp2_with fail
  refine (repls_any (L : Int) (B : Int) (I : Int) p m.r c (L : Int) (B : Int) (I : Int) dp df a es.length ca (N : Int) X).mono ?_
  rintro e w1 ⟨rfl, hw1⟩
  dsimp only
  obtain ⟨hs1, hb1, hE1, hD1, hn1⟩ := repls_boxes X (g0 + 2) hsx _ _ _ m _ _ _ _ _ _ _ _ _ _ _ _ _ _ w1 hw1
  have Hw3 := Lib.hid (Hw2.out.trans (hb1.mono Hw2.out.size))
  have Hbx1 := Lib.hid ((hb1.block _ (by omega)).trans Hbx.out : Boxed w1 g0 3 (.int .i64 0))
  have Hby1 := Lib.hid ((hb1.block _ (by omega)).trans Hby.out : Boxed w1 (g0 + 1) 3 (.int .i64 0))
  have Hrz3 := Lib.hid ((hb1.block _ (by omega)).trans Hrz2.out)
  have hgw : w.heap.size ≤ g0 := by omega
  rw [show X.heap.size = g0 + 2 from hsx]
  have hg3 : g + 2 < g0 := by omega
  clear hw1 hb1 x0 x1 x2 x3 y0 y1 y2 y3 y4 y5 Hbx Hby HB2 Hw2 HX hsx HbV hV Hrz2
  have hsq := HSq.out w (Below.refl _ _) (w1.heap.size + 2) g0 (g0 + 2) (g0 + 2) (g0 + 2 + 2) (g0 + 2 + 1) hgw (Nat.le_refl _) (by omega) (by omega)
  rw [HPs.out] at hsq
  clear HSq
  go_wp2_with fail
  refine rangeW3 (gf := 69) (lb := #[.pointer (some ⟨g0 + 2, 0, none⟩), .pointer (some ⟨g0 + 2 + 1 + 1, 0, none⟩), .pointer (some ⟨g0 + 2 + 1, 0, none⟩)]) rfl (enters_of Try.func69 (by kernel_rfl) rfl)
    hsq (fun _ _ h => h) (fun r W h => ⟨by have := h.1; omega, by have := h.1; omega⟩) (fun h k => h.trans k) (fun W o o' ho hc => KpO.put o' (by omega) ho hc)
    (fun X hX hz => ⟨hz, by omega, (Low.of_below (Hw3.out.trans (hX.mono (by omega)))), hE1.kept (lo := g0) (hi := g0 + 2) (KpH.of_below hX) (.inr (Nat.le_refl _)), (KpH.of_below (lo := g0) (hi := g0 + 2) hX).cell hn1 (.inr (by show g0 + 2 ≤ g0 + 2 + 2; omega)), hD1.kept (lo := g0) (hi := g0 + 2) (KpH.of_below hX) (.inr (by omega))⟩) (fun _ => rfl)
    (IAvg w w1 g0 (g + 2)) (fun _ _ _ => False)
    (fun s A B row h hg hr => h.turn hg hr ⟨by omega, by omega⟩) (fun c s A B row h hg hr => h.elim)
    ⟨Hbx1.out, Hby1.out, Hrz3.out, Hw3.out, Nat.le_refl _⟩
    (fun q W => IAvg w w1 g0 (g + 2) q.1 W ∧ (∃ post, q.1 ++ q.2.1 :: post = ps) ∧ ∃ u, w1.heap.size ≤ u ∧ W.heap[u]? = some (rpObj q.2.1) ∧ q.2.2 = { tmps := #[.agg #[.int .i64 (L : Int), .int .i64 (B : Int), .int .i64 (I : Int), .slice p m.r c], .agg #[.int .i64 (L : Int), .int .i64 (B : Int), .int .i64 (I : Int), .int .i64 dp, .int .i64 df, .slice a es.length ca], .int .i64 (N : Int), .pointer (some ⟨g, 0, none⟩), .pointer (some ⟨g + 1, 0, none⟩), undef, .pointer (some ⟨g + 1 + 1, 0, none⟩), .int .i64 0, .int .i64 (fitErr (L : Int) (B : Int) (I : Int) m (L : Int) (B : Int) (I : Int) dp df es (N : Int)), .pointer (some ⟨g0, 0, none⟩), .pointer (some ⟨g0 + 1, 0, none⟩), .pointer (some ⟨u, 0, none⟩), .agg #[.int .i64 (L : Int), .int .i64 (B : Int), .int .i64 (I : Int), .slice p m.r c], .agg #[.int .i64 (L : Int), .int .i64 (B : Int), .int .i64 (I : Int), .int .i64 dp, .int .i64 df, .slice a es.length ca], .int .i64 (N : Int), .int .i64 (fitErr (L : Int) (B : Int) (I : Int) m (L : Int) (B : Int) (I : Int) dp df es (N : Int)), .int .i64 (fitErr (L : Int) (B : Int) (I : Int) m (L : Int) (B : Int) (I : Int) dp df es (N : Int)), .bool false, undef, undef, .agg #[.int .i64 (L : Int), .int .i64 (B : Int), .int .i64 (I : Int), .slice p m.r c], .agg #[.int .i64 (L : Int), .int .i64 (B : Int), .int .i64 (I : Int), .int .i64 dp, .int .i64 df, .slice a es.length ca], .int .i64 (N : Int), .func (.func 69) #[] #[.pointer (some ⟨g0 + 2, 0, none⟩), .pointer (some ⟨g0 + 2 + 1 + 1, 0, none⟩), .pointer (some ⟨g0 + 2 + 1, 0, none⟩)], .agg #[.string q.2.1.w, .int .i64 (q.2.1.a : Int), .int .i64 (q.2.1.c : Int), .int .i64 (q.2.1.n : Int)], undef, undef, undef, undef, undef, undef, undef, undef, undef, undef, undef, undef], defers := [] })
    ?hM ?assign ?body ?done ?stop
  case hM =>
    rintro ⟨pre, z, a⟩ W W' row ⟨h1, h2, u, h4, h5, h6⟩ hg hr
    exact ⟨h1.turn hg hr ⟨by omega, by omega⟩, h2, u, h4, tb_cells h5 rfl hg hr, h6⟩
  case assign =>
    intro l pre z X K hI hz hK
    dsimp only [encR]
    gi_wp2
    have hX : w1.heap.size ≤ X.heap.size := hI.sz
    refine hK _ _ ⟨hI.alloc _, hz, X.heap.size, hX, World.alloc_heap_new X _, rfl⟩ ((KeepsOthers.alloc _ _).from _) (KpO.of_below ((Below.refl _ _).alloc (Nat.le_refl _) _))
  case body =>
    rintro l pre z a X ⟨hI, hpo, u, hu, hub, hae⟩
    dsimp only at hI hpo hub hae
    subst hae
    have hc0 := hI.s.cell
    have hf0 := hI.s.frozen
    have hc1 := hI.t.cell
    have hf1 := hI.t.frozen
    have hc3 := cell_of_obj hub 3
    simp only [List.getElem?_toArray, List.getElem?_cons_succ, List.getElem?_cons_zero] at hc3
    have HI := Lib.hid hI
    obtain ⟨post, hpo⟩ := hpo
    have hst := rp_step hpo
    obtain ⟨S, hS⟩ : ∃ S, sumF pre = S := ⟨_, rfl⟩
    obtain ⟨T, hT⟩ : ∃ T, pre.length = T := ⟨_, rfl⟩
    obtain ⟨zn, hzn⟩ : ∃ k, z.n = k := ⟨_, rfl⟩
    have Hn := Lib.hid (show sumF (pre ++ [z]) = S + zn ∧ (pre ++ [z]).length = T + 1 by rw [sumF_snoc, hS, hzn, List.length_append, hT]; exact ⟨rfl, rfl⟩)
    rw [hS, hT, hzn] at hst
    rw [hS] at hc0
    rw [hT] at hc1
    rw [hzn] at hc3 ⊢
    have hw1 : wrap64 ((S : Int) + (zn : Int)) = ((S + zn : Nat) : Int) := by rw [← Int.natCast_add]; exact IntWalk.wrap64_in _ (by omega)
    have hw2 : IntKind.i64.wrap ((S : Int) + (zn : Int)) = ((S + zn : Nat) : Int) := (IntWalk.i64_left _).trans hw1
    have hw3 : wrap64 ((T : Int) + 1) = ((T + 1 : Nat) : Int) := by rw [show (T : Int) + 1 = ((T + 1 : Nat) : Int) from by omega]; exact IntWalk.wrap64_in _ (by omega)
    have hw4 : IntKind.i64.wrap ((T : Int) + 1) = ((T + 1 : Nat) : Int) := (IntWalk.i64_left _).trans hw3
    have n01 : ¬ (g0 = g0 + 1) := by omega
    have n10 : ¬ (g0 + 1 = g0) := by omega
    clear hub hS hT hzn hsq hI hpo hst
    gi_wp2
    have hE9 := HI.out.set S T zn Hn.out.1 Hn.out.2 hgw hg3
    exact ⟨((KeepsOthers.setCell _ _ _).from _).trans ((KeepsOthers.setCell _ _ _).from _), (KpO.setCell X 0 _ (Nat.le_refl _) (by omega)).trans (KpO.setCell _ 0 _ (by omega) (by omega)), hE9⟩
  case done =>
    rintro D xs X hD rfl hI hK
    have hc0 := hI.s.cell
    have hc1 := hI.t.cell
    have HI := Lib.hid hI
    have HK := Lib.hid hK
    have hmx := @maxI Try.prog
    obtain ⟨A, hA⟩ : ∃ A, max xs.length 1 = A := ⟨_, rfl⟩
    have hmv : mxI (xs.length : Int) 1 = (A : Int) := by rw [← hA, show (1 : Int) = ((1 : Nat) : Int) from rfl, mxI_nat]
    have Hv2 := Lib.hid Hv.out
    rw [hA] at Hv2
    have HRt := Lib.hid (fun W => ratioQ_any (sumF xs) A (by omega) (by omega) (by omega) W)
    generalize sumF xs = S at *
    generalize xs.length = T at *
    clear hK hI hA
    go_wp2_with fail
    refine (HRt.out _).mono ?_
    rintro e W9 ⟨rfl, hb9⟩
    have hDX : D < X.heap.size := (Array.getElem?_eq_some_iff.1 HK.out).1
    have hgX : g + 2 < X.heap.size := (Array.getElem?_eq_some_iff.1 HI.out.r).1
    have hr9 := (hb9.block (g + 2) hgX).trans HI.out.r
    have HB4 : Hid (Box4 W9 (g + 2) (.bool false) (.string ⟨#[]⟩) (.bool false) (.string ⟨#[]⟩)) := Lib.hid ⟨cell_of_obj hr9 0, cell_of_obj hr9 1, cell_of_obj hr9 2, cell_of_obj hr9 3, fun j => frozen_of_obj hr9 j, (Array.getElem?_eq_some_iff.1 hr9).1⟩
    have HK9 := Lib.hid ((hb9.block D hDX).trans HK.out)
    have Hb9 := Lib.hid (HI.out.b.trans (hb9.mono HI.out.b.size))
    have nD : ¬ g + 2 = D := by omega
    obtain ⟨gc, hgc⟩ : ∃ k, g + 2 = k := ⟨_, rfl⟩
    rw [show g + 1 + 1 = gc from hgc]
    have lew : w.heap.size ≤ gc := by omega
    rw [hgc] at HB4 nD
    unfold ratV
    obtain ⟨CP, hCP⟩ : ∃ z, canon (rloN (S : Int) (A : Int)) = z := ⟨_, rfl⟩
    obtain ⟨CQ, hCQ⟩ : ∃ z, canon (rloD (S : Int) (A : Int)) = z := ⟨_, rfl⟩
    have Hv3 : Hid (avgV (L : Int) (B : Int) (I : Int) m (L : Int) (B : Int) (I : Int) dp df es (N : Int) = .agg #[.bool CP.neg, .string CP.mag, .bool CQ.neg, .string CQ.mag]) := Lib.hid (by rw [Hv2.out, ← hCP, ← hCQ]; rfl)
    rw [hCP, hCQ]
    clear hCP hCQ HRt HI hb9 hr9 HK hgX hDX hc0 hc1
    obtain ⟨c0, c1, c2, c3, c4, _⟩ := HB4.out
    have f0 := c4 0
    have f1 := c4 1
    have f2 := c4 2
    have f3 := c4 3
    clear c4 hgc
    go_wp2_with fail
    have HK2 : Hid (((((W9.setCell ⟨gc, 0, none⟩ (.bool CP.neg)).setCell ⟨gc, 1, none⟩ (.string CP.mag)).setCell ⟨gc, 2, none⟩ (.bool CQ.neg)).setCell ⟨gc, 3, none⟩ (.string CQ.mag)).heap[D]? = some (.deferred (some []))) := Lib.hid (by
      rw [Below.heap_setCell _ _ _ D (by show D ≠ gc; omega), Below.heap_setCell _ _ _ D (by show D ≠ gc; omega), Below.heap_setCell _ _ _ D (by show D ≠ gc; omega), Below.heap_setCell _ _ _ D (by show D ≠ gc; omega)]
      exact HK9.out)
    have HB2 := Lib.hid ((((Hb9.out.setCell (p := ⟨gc, 0, none⟩) lew (.bool CP.neg)).setCell (p := ⟨gc, 1, none⟩) lew (.string CP.mag)).setCell (p := ⟨gc, 2, none⟩) lew (.bool CQ.neg)).setCell (p := ⟨gc, 3, none⟩) lew (.string CQ.mag))
    have hB4 := box4_set4 HB4.out (.bool CP.neg) (.string CP.mag) (.bool CQ.neg) (.string CQ.mag)
    refine ⟨by simp, .inl ⟨_, _, rfl, run_takeDeferred HK2.out, ?_⟩⟩
    refine ⟨.tuple #[.agg #[.bool CP.neg, .string CP.mag, .bool CQ.neg, .string CQ.mag], .int .i64 0], ?_, by rw [Hv3.out, E1.out], ?_⟩
    · have hput : ∀ i, (((((W9.setCell ⟨gc, 0, none⟩ (.bool CP.neg)).setCell ⟨gc, 1, none⟩ (.string CP.mag)).setCell ⟨gc, 2, none⟩ (.bool CQ.neg)).setCell ⟨gc, 3, none⟩ (.string CQ.mag)).putObj D (.deferred none)).cell? ⟨gc, i, none⟩ = ((((W9.setCell ⟨gc, 0, none⟩ (.bool CP.neg)).setCell ⟨gc, 1, none⟩ (.string CP.mag)).setCell ⟨gc, 2, none⟩ (.bool CQ.neg)).setCell ⟨gc, 3, none⟩ (.string CQ.mag)).cell? ⟨gc, i, none⟩ := fun i => by
        unfold World.cell?
        rw [World.putObj_heap_other (by exact nD)]
      have k0 := (hput 0).trans hB4.1
      have k1 := (hput 1).trans hB4.2.1
      have k2 := (hput 2).trans hB4.2.2.1
      have k3 := (hput 3).trans hB4.2.2.2.1
      generalize ((((W9.setCell ⟨gc, 0, none⟩ (.bool CP.neg)).setCell ⟨gc, 1, none⟩ (.string CP.mag)).setCell ⟨gc, 2, none⟩ (.bool CQ.neg)).setCell ⟨gc, 3, none⟩ (.string CQ.mag)).putObj D (.deferred none) = WE at *
      simp [results, Try.results21, go_sem, k0, k1, k2, k3]
    · exact HB2.out.trans ⟨rfl, rfl, rfl, by simp, fun b hb => World.putObj_heap_other (by omega)⟩
  case stop =>
    intro D c pre X _ h
    exact h.elim
end Go.Proofs.Ytcafeffgaokiaaa
