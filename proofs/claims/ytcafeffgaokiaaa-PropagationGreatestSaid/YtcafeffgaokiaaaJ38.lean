/- propagation.Worst. Plain facts on Changed: a replacement changes only what is decoded by windows that contain its block. -/
import Derived.Test.YtcafeffgaokiaaaJ11
import Derived.Test.YtcafeffgaokiaaaJ12
import Derived.Test.YtcafeffgaokiaaaJ4
namespace Go.Proofs.Ytcafeffgaokiaaa
open Go.RowKit
attribute [local go_sem] Oper.semAt_some wideF
def wsObj (s : Ws) : Obj := .cells #[.string s.w, .int .i64 s.a, .int .i64 s.c, .int .i64 s.n] 95 (0, 0)
/-- What Worst answers. -/
def wstV (l b i : Int) (m : EM) (dl db di dp df : Int) (es : List Ent) (n : Int) : Value :=
  if fitErr l b i m dl db di dp df es n = 0 then
    (if (wsF (rps l b i m dp df es n)).n < 0 then .tuple #[.string ⟨#[]⟩, .int .i64 0, .int .i64 0, .int .i64 5]
     else .tuple #[.string (wsF (rps l b i m dp df es n)).w, .int .i64 (wsF (rps l b i m dp df es n)).a, .int .i64 (wsF (rps l b i m dp df es n)).c, .int .i64 0])
  else .tuple #[.string ⟨#[]⟩, .int .i64 0, .int .i64 0, .int .i64 (fitErr l b i m dl db di dp df es n)]
theorem obj4_set {W : World} {u : Nat} {t : TypeId} {a b c d : Value} (h : W.heap[u]? = some (.cells #[a, b, c, d] t (0, 0))) (x y z v : Value) :
    ((((W.setCell ⟨u, 0, none⟩ x).setCell ⟨u, 1, none⟩ y).setCell ⟨u, 2, none⟩ z).setCell ⟨u, 3, none⟩ v).heap[u]? = some (.cells #[x, y, z, v] t (0, 0)) := by
  have h1 := heap_setCell_same _ _ 0 _ _ x h
  have h2 := heap_setCell_same _ _ 1 _ _ y h1
  have h3 := heap_setCell_same _ _ 2 _ _ z h2
  exact heap_setCell_same _ _ 3 _ _ v h3
/-- What a round of Worst finds. -/
structure IWst (w w1 : World) (g0 : Nat) (pre : List Rp) (X : World) : Prop where
  o : X.heap[g0]? = some (wsObj (wsF pre))
  b : Below w.heap.size w X
  sz : w1.heap.size ≤ X.heap.size
theorem IWst.turn {w w1 : World} {g0 C B : Nat} {pre : List Rp} {W W' : World} {row : Option Nat} (h : IWst w w1 g0 pre W) (hg : W.grownBy W' row) (hr : ∀ r, row = some r → TurnT C (TB B) r W) (hC : w.heap.size ≤ C ∧ w.heap.size ≤ B) : IWst w w1 g0 pre W' :=
  ⟨tb_cells h.o rfl hg hr, tb_below h.b h.b.size hg hr hC.1 hC.2, Nat.le_trans h.sz hg.size⟩
theorem IWst.alloc {w w1 : World} {g0 : Nat} {pre : List Rp} {W : World} (h : IWst w w1 g0 pre W) (o : Obj) : IWst w w1 g0 pre (W.alloc o) :=
  ⟨(Below.heap_alloc _ _ _ (Array.getElem?_eq_some_iff.1 h.o).1).trans h.o, h.b.alloc h.b.size _, by simp; exact Nat.le_succ_of_le h.sz⟩
set_option maxRecDepth 100000 in
set_option maxHeartbeats 8000000 in
theorem pWorst_any (l b i : Int) (m : EM) (p : Option Addr) (c : Nat) (dl db di dp df : Int) (es : List Ent) (a : Option Addr) (ca : Nat) (n : Int) (w : World) (hA : m.At w p) (hf : m.Fit) (hE : EntsAt w a es) (hwins : WinsFit es) :
    Calls Try.prog 23 #[.agg #[.int .i64 l, .int .i64 b, .int .i64 i, .slice p m.r c], .agg #[.int .i64 dl, .int .i64 db, .int .i64 di, .int .i64 dp, .int .i64 df, .slice a es.length ca], .int .i64 n] w fun e w' => e = .returned (wstV l b i m dl db di dp df es n) ∧ Below w.heap.size w w' := by
  obtain ⟨V, hV⟩ : ∃ V, ((w.alloc (.cells #[.int .i64 l, .int .i64 b, .int .i64 i, .slice p m.r c] 24)).alloc (.cells #[.int .i64 dl, .int .i64 db, .int .i64 di, .int .i64 dp, .int .i64 df, .slice a es.length ca] 30)) = V := ⟨_, rfl⟩
  have hbV : Below w.heap.size w V := by rw [← hV]; exact ((Below.refl w.heap.size w).alloc (Nat.le_refl _) _).alloc (by simp) _
  obtain ⟨g, hg⟩ : ∃ g, w.heap.size = g := ⟨_, rfl⟩
  have hsV : V.heap.size = g + 2 := by rw [← hV]; simp [hg]
  have x0 : V.cell? ⟨g, 0, none⟩ = some (.int .i64 l) ∧ V.cell? ⟨g, 1, none⟩ = some (.int .i64 b) ∧ V.cell? ⟨g, 2, none⟩ = some (.int .i64 i) ∧ V.cell? ⟨g, 3, none⟩ = some (.slice p m.r c) := by
    rw [← hV, ← hg]; refine ⟨?_, ?_, ?_, ?_⟩ <;> simp
  have y0 : V.cell? ⟨g + 1, 0, none⟩ = some (.int .i64 dl) ∧ V.cell? ⟨g + 1, 1, none⟩ = some (.int .i64 db) ∧ V.cell? ⟨g + 1, 2, none⟩ = some (.int .i64 di) ∧ V.cell? ⟨g + 1, 3, none⟩ = some (.int .i64 dp) ∧ V.cell? ⟨g + 1, 4, none⟩ = some (.int .i64 df) ∧ V.cell? ⟨g + 1, 5, none⟩ = some (.slice a es.length ca) := by
    rw [← hV, ← hg]; refine ⟨?_, ?_, ?_, ?_, ?_, ?_⟩ <;> simp
  have HX := Lib.hid (fun (W : World) (h : Below V.heap.size V W) => show (W.cell? ⟨g, 0, none⟩ = some (.int .i64 l) ∧ W.cell? ⟨g, 1, none⟩ = some (.int .i64 b) ∧ W.cell? ⟨g, 2, none⟩ = some (.int .i64 i) ∧ W.cell? ⟨g, 3, none⟩ = some (.slice p m.r c)) ∧ W.cell? ⟨g + 1, 0, none⟩ = some (.int .i64 dl) ∧ W.cell? ⟨g + 1, 1, none⟩ = some (.int .i64 db) ∧ W.cell? ⟨g + 1, 2, none⟩ = some (.int .i64 di) ∧ W.cell? ⟨g + 1, 3, none⟩ = some (.int .i64 dp) ∧ W.cell? ⟨g + 1, 4, none⟩ = some (.int .i64 df) ∧ W.cell? ⟨g + 1, 5, none⟩ = some (.slice a es.length ca) from
    ⟨⟨(h.cell (by simp; omega)).trans x0.1, (h.cell (by simp; omega)).trans x0.2.1, (h.cell (by simp; omega)).trans x0.2.2.1, (h.cell (by simp; omega)).trans x0.2.2.2⟩,
      (h.cell (by simp; omega)).trans y0.1, (h.cell (by simp; omega)).trans y0.2.1, (h.cell (by simp; omega)).trans y0.2.2.1, (h.cell (by simp; omega)).trans y0.2.2.2.1, (h.cell (by simp; omega)).trans y0.2.2.2.2.1, (h.cell (by simp; omega)).trans y0.2.2.2.2.2⟩)
  have HCk := Lib.hid (fun (W : World) (h : Below w.heap.size w W) => pcheck_any l b i m p c dl db di dp df es a ca n W (hA.below (Nat.le_refl _) h) hf (SlAt.mono hE (Nat.le_refl _) h) hwins)
  have HbV := Lib.hid hbV
  obtain ⟨⟨x0, x1, x2, x3⟩, y0, y1, y2, y3, y4, y5⟩ := HX.out V (Below.refl _ _)
  clear hf hbV
  refine calls_marks Try.func23 rfl ?_
  simp only [Try.ntmps23, List.size_toArray, List.length_cons, List.length_nil, Nat.reduceAdd, Nat.reduceSub, Array.replicate_succ, Array.replicate_zero, List.push_toArray, List.append_toArray, List.nil_append, List.cons_append]
  by_cases e1 : fitErr l b i m dl db di dp df es n = 0
  case neg =>
    have Hv := Lib.hid (show wstV l b i m dl db di dp df es n = .tuple #[.string ⟨#[]⟩, .int .i64 0, .int .i64 0, .int .i64 (fitErr l b i m dl db di dp df es n)] by unfold wstV; rw [if_neg e1])
    have e1' : (fitErr l b i m dl db di dp df es n != 0) = true := by simpa using e1
    clear e1
    go_wp2_with (go_at_call 44; refine (HCk.out _ HbV.out).mono ?_; rintro e W1 ⟨rfl, hb⟩; have Hb := Lib.hid (HbV.out.trans (hb.mono HbV.out.size)); clear hb)
    refine ⟨.tuple #[.string ⟨#[]⟩, .int .i64 0, .int .i64 0, .int .i64 (fitErr l b i m dl db di dp df es n)], ?_, by rw [Hv.out], Hb.out⟩
    simp [results, Try.results23, go_sem]
  obtain ⟨he, hd, rfl, rfl, rfl, hn, hcnt⟩ := fit_ok e1
  obtain ⟨⟨l1, l2⟩, ⟨b1, b2⟩, ⟨i1, i2⟩, ⟨r1, r2⟩, hok, _⟩ := encCheck_ok he
  obtain ⟨N, rfl⟩ : ∃ N : Nat, n = N := ⟨n.toNat, by omega⟩
  obtain ⟨L, rfl⟩ : ∃ L : Nat, dl = L := ⟨dl.toNat, by omega⟩
  obtain ⟨B, rfl⟩ : ∃ B : Nat, db = B := ⟨db.toNat, by omega⟩
  obtain ⟨I, rfl⟩ : ∃ I : Nat, di = I := ⟨di.toNat, by omega⟩
  rw [Int.toNat_natCast, Int.toNat_natCast] at hok
  rw [Int.toNat_natCast] at hcnt
  have hdec : ∀ x ∈ wordsE m N, decErr (L : Int) (B : Int) (I : Int) dp df es x = 0 := fun x hx => (words_dec he hd (by omega) x hx).2
  have HSq := Lib.hid (fun (W0 : World) (h : Below w.heap.size w W0) (B1 lo hi be bn bd : Nat) (hlo : W0.heap.size ≤ lo) (h3 : hi ≤ be) (h4 : hi ≤ bn) (h5 : hi ≤ bd) => repl_seq W0 B1 lo hi be bn bd hlo h3 h4 h5 L (B : Int) (I : Int) m p c I B N (hA.below (Nat.le_refl _) h) hok (by omega) (by omega) (by omega) (by omega) (B : Int) (I : Int) dp df es a ca (SlAt.mono hE (Nat.le_refl _) h) hwins (by omega) hdec)
  have e1' : (fitErr (L : Int) (B : Int) (I : Int) m (L : Int) (B : Int) (I : Int) dp df es (N : Int) != 0) = false := by rw [e1]; rfl
  obtain ⟨ps, hps⟩ : ∃ ps, rps (L : Int) (B : Int) (I : Int) m dp df es (N : Int) = ps := ⟨_, rfl⟩
  have hps2 : rpE (decOut (L : Int) (B : Int) (I : Int) dp df es) L (wordsE m N) = ps := by rw [← hps]; unfold rps; rw [Int.toNat_natCast, Int.toNat_natCast]
  have Hv := Lib.hid (show wstV (L : Int) (B : Int) (I : Int) m (L : Int) (B : Int) (I : Int) dp df es (N : Int) = if (wsF ps).n < 0 then .tuple #[.string ⟨#[]⟩, .int .i64 0, .int .i64 0, .int .i64 5]
     else .tuple #[.string (wsF ps).w, .int .i64 (wsF ps).a, .int .i64 (wsF ps).c, .int .i64 0] by
    unfold wstV; rw [if_pos e1, hps])
  have HPs := Lib.hid hps2
  clear hA hE hwins hdec he hd hok e1 hcnt hps hps2
  go_wp2_with fail
  refine (HCk.out _ HbV.out).mono ?_; rintro e W1 ⟨rfl, hb⟩
  have HB1 := Lib.hid hb
  have Hw1 := Lib.hid (HbV.out.trans (hb.mono HbV.out.size))
  clear hb x0 x1 x2 x3 y0 y1 y2 y3 y4 y5 HCk
  obtain ⟨⟨x0, x1, x2, x3⟩, y0, y1, y2, y3, y4, y5⟩ := HX.out _ HB1.out
  obtain ⟨g0, hg0⟩ : ∃ x, W1.heap.size = x := ⟨_, rfl⟩
  go_upto_region 5 with (fail)
  have hal := (Below.refl W1.heap.size W1).alloc (Nat.le_refl _) (wsObj ⟨⟨#[]⟩, 0, 0, -1⟩)
  have hbx : (W1.alloc (wsObj ⟨⟨#[]⟩, 0, 0, -1⟩)).heap[W1.heap.size]? = some (wsObj (wsF [])) := World.alloc_heap_new W1 _
  have hsx : (W1.alloc (wsObj ⟨⟨#[]⟩, 0, 0, -1⟩)).heap.size = g0 + 1 := by simp [hg0]
  have hgV : V.heap.size ≤ W1.heap.size := HB1.out.size
  unfold wsObj at hal hsx
  rw [hg0] at hbx hgV
  have HB2 := Lib.hid (HB1.out.trans (hal.mono HB1.out.size))
  have Hw2 := Lib.hid (Hw1.out.trans (hal.mono Hw1.out.size))
  have Hbx := Lib.hid hbx
  clear hal hbx x0 x1 x2 x3 y0 y1 y2 y3 y4 y5 HB1 Hw1
  have hXn : W1.alloc (.cells #[.string ⟨#[]⟩, .int .i64 0, .int .i64 0, .int .i64 (-1)] 95) = W1.alloc (wsObj ⟨⟨#[]⟩, 0, 0, -1⟩) := rfl
  rw [← hXn] at Hbx
  clear hXn
  generalize W1.alloc (.cells #[.string ⟨#[]⟩, .int .i64 0, .int .i64 0, .int .i64 (-1)] 95) = X at *
  obtain ⟨⟨x0, x1, x2, x3⟩, y0, y1, y2, y3, y4, y5⟩ := HX.out _ HB2.out
  go_wp2_with fail
  refine (repls_any (L : Int) (B : Int) (I : Int) p m.r c (L : Int) (B : Int) (I : Int) dp df a es.length ca (N : Int) X).mono ?_
  rintro e w1 ⟨rfl, hw1⟩
  dsimp only
  obtain ⟨hs1, hb1, hE1, hD1, hn1⟩ := repls_boxes X (g0 + 1) hsx _ _ _ m _ _ _ _ _ _ _ _ _ _ _ _ _ _ w1 hw1
  have Hw3 := Lib.hid (Hw2.out.trans (hb1.mono Hw2.out.size))
  have Hbx1 := Lib.hid ((hb1.block _ (by omega)).trans Hbx.out)
  have hgw : w.heap.size ≤ g0 := by omega
  rw [show X.heap.size = g0 + 1 from hsx]
  clear hw1 hb1 x0 x1 x2 x3 y0 y1 y2 y3 y4 y5 Hbx HB2 Hw2 HX hsx HbV hV
  have hsq := HSq.out w (Below.refl _ _) (w1.heap.size + 2) g0 (g0 + 1) (g0 + 1) (g0 + 1 + 2) (g0 + 1 + 1) hgw (Nat.le_refl _) (by omega) (by omega)
  rw [HPs.out] at hsq
  clear HSq
  go_wp2_with fail
  refine rangeW3 (gf := 69) (lb := #[.pointer (some ⟨g0 + 1, 0, none⟩), .pointer (some ⟨g0 + 1 + 1 + 1, 0, none⟩), .pointer (some ⟨g0 + 1 + 1, 0, none⟩)]) rfl (enters_of Try.func69 (by kernel_rfl) rfl)
    hsq (fun _ _ h => h) (fun r W h => ⟨by have := h.1; omega, by have := h.1; omega⟩) (fun h k => h.trans k) (fun W o o' ho hc => KpO.put o' (by omega) ho hc)
    (fun X hX hz => ⟨hz, by omega, (Low.of_below (Hw3.out.trans (hX.mono (by omega)))), hE1.kept (lo := g0) (hi := g0 + 1) (KpH.of_below hX) (.inr (Nat.le_refl _)), (KpH.of_below (lo := g0) (hi := g0 + 1) hX).cell hn1 (.inr (by show g0 + 1 ≤ g0 + 1 + 2; omega)), hD1.kept (lo := g0) (hi := g0 + 1) (KpH.of_below hX) (.inr (by omega))⟩) (fun _ => rfl)
    (IWst w w1 g0) (fun _ _ _ => False)
    (fun s A B row h hg hr => h.turn hg hr ⟨by omega, by omega⟩) (fun c s A B row h hg hr => h.elim)
    ⟨Hbx1.out, Hw3.out, Nat.le_refl _⟩
    (fun q W => IWst w w1 g0 q.1 W ∧ ∃ u, w1.heap.size ≤ u ∧ W.heap[u]? = some (rpObj q.2.1) ∧ q.2.2 = { tmps := #[.agg #[.int .i64 (L : Int), .int .i64 (B : Int), .int .i64 (I : Int), .slice p m.r c], .agg #[.int .i64 (L : Int), .int .i64 (B : Int), .int .i64 (I : Int), .int .i64 dp, .int .i64 df, .slice a es.length ca], .int .i64 (N : Int), .pointer (some ⟨g, 0, none⟩), .pointer (some ⟨g + 1, 0, none⟩), undef, .string ⟨#[]⟩, .int .i64 0, .int .i64 0, .int .i64 0, .int .i64 (fitErr (L : Int) (B : Int) (I : Int) m (L : Int) (B : Int) (I : Int) dp df es (N : Int)), .pointer (some ⟨g0, 0, none⟩), .pointer (some ⟨u, 0, none⟩), .agg #[.int .i64 (L : Int), .int .i64 (B : Int), .int .i64 (I : Int), .slice p m.r c], .agg #[.int .i64 (L : Int), .int .i64 (B : Int), .int .i64 (I : Int), .int .i64 dp, .int .i64 df, .slice a es.length ca], .int .i64 (N : Int), .int .i64 (fitErr (L : Int) (B : Int) (I : Int) m (L : Int) (B : Int) (I : Int) dp df es (N : Int)), .int .i64 (fitErr (L : Int) (B : Int) (I : Int) m (L : Int) (B : Int) (I : Int) dp df es (N : Int)), .bool false, undef, .agg #[.string ⟨#[]⟩, .int .i64 0, .int .i64 0, .int .i64 (-1)], .agg #[.int .i64 (L : Int), .int .i64 (B : Int), .int .i64 (I : Int), .slice p m.r c], .agg #[.int .i64 (L : Int), .int .i64 (B : Int), .int .i64 (I : Int), .int .i64 dp, .int .i64 df, .slice a es.length ca], .int .i64 (N : Int), .func (.func 69) #[] #[.pointer (some ⟨g0 + 1, 0, none⟩), .pointer (some ⟨g0 + 1 + 1 + 1, 0, none⟩), .pointer (some ⟨g0 + 1 + 1, 0, none⟩)], .agg #[.string q.2.1.w, .int .i64 (q.2.1.a : Int), .int .i64 (q.2.1.c : Int), .int .i64 (q.2.1.n : Int)], undef, undef, undef, undef, undef, undef, undef, undef, undef, undef, undef, undef, undef, undef, undef], defers := [] })
    ?hM ?assign ?body ?done ?stop
  case hM =>
    rintro ⟨pre, z, a⟩ W W' row ⟨h1, u, h4, h5, h6⟩ hg hr
    exact ⟨h1.turn hg hr ⟨by omega, by omega⟩, u, h4, tb_cells h5 rfl hg hr, h6⟩
  case assign =>
    intro l pre z X K hI hz hK
    dsimp only [encR]
    gi_wp2
    have hX : w1.heap.size ≤ X.heap.size := hI.sz
    refine hK _ _ ⟨hI.alloc _, X.heap.size, hX, World.alloc_heap_new X _, rfl⟩ ((KeepsOthers.alloc _ _).from _) (KpO.of_below ((Below.refl _ _).alloc (Nat.le_refl _) _))
  case body =>
    rintro l pre z a X ⟨hI, u, hu, hub, hae⟩
    dsimp only at hI hub hae
    subst hae
    have HI := Lib.hid hI
    obtain ⟨s, hs⟩ : ∃ s, wsF pre = s := ⟨_, rfl⟩
    have Hn := Lib.hid (show wsF (pre ++ [z]) = s.step z by rw [wsF_snoc, hs])
    have ho := hI.o
    rw [hs] at ho
    have Ho := Lib.hid ho
    have a0 := cell_of_obj ho 0
    have a1 := cell_of_obj ho 1
    have a2 := cell_of_obj ho 2
    have a3 := cell_of_obj ho 3
    have f0 := frozen_of_obj ho 0
    have f1 := frozen_of_obj ho 1
    have f2 := frozen_of_obj ho 2
    have f3 := frozen_of_obj ho 3
    have z0 := cell_of_obj hub 0
    have z1 := cell_of_obj hub 1
    have z2 := cell_of_obj hub 2
    have z3 := cell_of_obj hub 3
    simp only [List.getElem?_toArray, List.getElem?_cons_succ, List.getElem?_cons_zero] at a0 a1 a2 a3 z0 z1 z2 z3
    clear hs hub hsq hI ho
    by_cases hgt : s.n < (z.n : Int)
    · have Hst : Hid (wsF (pre ++ [z]) = z.ws) := Lib.hid (by rw [Hn.out]; unfold Ws.step; rw [if_pos hgt])
      gi_wp2
      refine ⟨((((KeepsOthers.setCell _ _ _).from _).trans ((KeepsOthers.setCell _ _ _).from _)).trans ((KeepsOthers.setCell _ _ _).from _)).trans ((KeepsOthers.setCell _ _ _).from _), (((KpO.setCell X 0 _ (Nat.le_refl _) (by omega)).trans (KpO.setCell _ 1 _ (Nat.le_refl _) (by omega))).trans (KpO.setCell _ 2 _ (Nat.le_refl _) (by omega))).trans (KpO.setCell _ 3 _ (Nat.le_refl _) (by omega)), ?_, (((HI.out.b.setCell (p := ⟨g0, 0, none⟩) hgw _).setCell (p := ⟨g0, 1, none⟩) hgw _).setCell (p := ⟨g0, 2, none⟩) hgw _).setCell (p := ⟨g0, 3, none⟩) hgw _, by simpa using HI.out.sz⟩
      rw [Hst.out]
      exact obj4_set Ho.out _ _ _ _
    · have Hst : Hid (wsF (pre ++ [z]) = s) := Lib.hid (by rw [Hn.out]; unfold Ws.step; rw [if_neg hgt])
      gi_wp2
      exact ⟨KeepsFrom.refl _ _, KpO.refl _ _ _ _, by rw [Hst.out]; exact Ho.out, HI.out.b, HI.out.sz⟩
  case done =>
    rintro D xs X hD rfl hI hK
    have HI := Lib.hid hI
    have HK := Lib.hid hK
    obtain ⟨s, hs⟩ : ∃ s, wsF xs = s := ⟨_, rfl⟩
    have ho := hI.o
    rw [hs] at ho Hv
    have a0 := cell_of_obj ho 0
    have a1 := cell_of_obj ho 1
    have a2 := cell_of_obj ho 2
    have a3 := cell_of_obj ho 3
    simp only [List.getElem?_toArray, List.getElem?_cons_succ, List.getElem?_cons_zero] at a0 a1 a2 a3
    clear hK hI hs ho hsq
    by_cases hneg : s.n < 0
    · have Hv2 := Lib.hid Hv.out
      rw [if_pos hneg] at Hv2
      go_wp2
      refine ⟨by simp, .inl ⟨_, _, rfl, run_takeDeferred HK.out, ?_⟩⟩
      refine ⟨.tuple #[.string ⟨#[]⟩, .int .i64 0, .int .i64 0, .int .i64 5], ?_, by rw [Hv2.out], HI.out.b.trans ⟨rfl, rfl, rfl, by simp, fun b hb => World.putObj_heap_other (by omega)⟩⟩
      simp [results, Try.results23, go_sem]
    · have Hv2 := Lib.hid Hv.out
      rw [if_neg hneg] at Hv2
      go_wp2_with fail
      go_quiet (fail)
      go_wp2
      refine ⟨by simp, .inl ⟨_, _, rfl, run_takeDeferred (show (X.drewN nq).heap[D]? = _ from HK.out), ?_⟩⟩
      refine ⟨.tuple #[.string s.w, .int .i64 s.a, .int .i64 s.c, .int .i64 0], ?_, by rw [Hv2.out], (below_dr HI.out.b).trans ⟨rfl, rfl, rfl, by simp, fun b hb => World.putObj_heap_other (by omega)⟩⟩
      simp [results, Try.results23, go_sem]
  case stop =>
    intro D c pre X _ h
    exact h.elim
end Go.Proofs.Ytcafeffgaokiaaa
namespace Go.Proofs.Ytcafeffgaokiaaa
open Go.RowKit

theorem ba_ext {a b : ByteArray} (h : a.data.toList = b.data.toList) : a = b := by
  cases a; cases b
  simp only [ByteArray.mk.injEq]
  exact Array.toList_inj.1 h
theorem extract_list (s : ByteArray) (m n : Nat) : (s.extract m (m + n)).data.toList = (s.data.toList.drop m).take n := by
  rw [ByteArray.data_extract, Array.toList_extract, List.extract_eq_take_drop]
  simp
theorem replS_set (s : ByteArray) (a c : Nat) (hc : c < 16) (ha : a < s.size) : (replS s a c).data.toList = s.data.toList.set a (letters.getD c 0) := by
  rw [replS_list s a c hc, List.set_eq_take_append_cons_drop, if_pos (by simpa using ha)]
theorem replS_extract {s : ByteArray} {a c m n : Nat} (hc : c < 16) (ha : a < s.size) (h : a < m ∨ m + n ≤ a) : (replS s a c).extract m (m + n) = s.extract m (m + n) := by
  apply ba_ext
  rw [extract_list, extract_list, replS_set s a c hc ha]
  rcases h with h | h
  · rw [List.drop_set_of_lt h]
  · rw [List.drop_set]
    rw [if_neg (by omega), List.take_set_of_le (by omega)]
theorem replS_decAt {es : List Ent} {s : ByteArray} {a c m n : Nat} (hc : c < 16) (ha : a < s.size) (h : a < m ∨ m + n ≤ a) : decAt es (replS s a c) n m = decAt es s n m := by
  unfold decAt; rw [replS_extract hc ha h]

/-- Strictly increasing. -/
def Inc (l : List Int) : Prop := l.Pairwise (· < ·)
theorem inc_len : ∀ (l : List Int) (lo hi : Int), Inc l → (∀ x ∈ l, lo ≤ x ∧ x ≤ hi) → lo ≤ hi + 1 → (l.length : Int) ≤ hi - lo + 1
  | [], lo, hi, _, _, h => by simp; omega
  | x :: l, lo, hi, hp, hb, h => by
    have h1 := List.pairwise_cons.1 hp
    have hx := hb x (List.mem_cons_self ..)
    have := inc_len l (x + 1) hi h1.2 (fun y hy => ⟨by have := h1.1 y hy; omega, (hb y (List.mem_cons_of_mem _ hy)).2⟩) (by omega)
    simp only [List.length_cons]
    omega
theorem diffs_inc (a b : List Int) : Inc (diffs a b) := by
  unfold diffs diffsK Inc
  rw [List.pairwise_map]
  have h : (List.range (min a.length b.length)).Pairwise (· < ·) := List.pairwise_lt_range
  exact (h.filter _).imp fun h => by omega
theorem diffs_mem {a b : List Int} {x : Int} (h : x ∈ diffs a b) : ∃ k : Nat, x = k ∧ k < a.length ∧ k < b.length ∧ a.getD k 0 ≠ b.getD k 0 := by
  unfold diffs diffsK at h
  obtain ⟨k, hk, rfl⟩ := List.mem_map.1 h
  rw [List.mem_filter, List.mem_range] at hk
  exact ⟨k, rfl, by omega, by omega, by simpa using hk.2⟩
theorem decList_getD {b p f : Int} {es : List Ent} {s : ByteArray} {k : Nat} (h : k < (decList b p f es s).length) : (decList b p f es s).getD k 0 = decAt es s ((p + 1 + f) * b).toNat (k * b.toNat) := by
  rw [decList_len] at h
  unfold decList
  rw [List.getD_eq_getElem?_getD, List.getElem?_map, List.getElem?_range h]; rfl

theorem chErr_zero {l b i p f : Int} {es : List Ent} {s : ByteArray} {a c : Int} : chErr l b i p f es s a c = 0 ↔ decErr l b i p f es s = 0 ∧ (0 ≤ a ∧ a < s.size) ∧ (0 ≤ c ∧ c < l) := by
  unfold chErr
  by_cases h1 : decErr l b i p f es s ≠ 0
  · rw [if_pos h1]; constructor
    · intro h; exact absurd h h1
    · intro h; exact absurd h.1 h1
  rw [if_neg h1]
  by_cases h2 : a < 0 ∨ (s.size : Int) ≤ a
  · rw [if_pos h2]; constructor
    · intro h; omega
    · intro h; omega
  rw [if_neg h2]
  by_cases h3 : c < 0 ∨ l ≤ c
  · rw [if_pos h3]; constructor
    · intro h; omega
    · intro h; omega
  rw [if_neg h3]
  simp only [ne_eq, Classical.not_not] at h1
  exact ⟨fun _ => ⟨h1, by omega, by omega⟩, fun _ => rfl⟩

/-- The block of a place lies in the window of each element that is changed. -/
theorem chOut_mem {l b i p f : Int} {es : List Ent} {s : ByteArray} {a c : Int} (h0 : chErr l b i p f es s a c = 0) {x : Int} (h : x ∈ chOut l b i p f es s a c) : 0 ≤ x ∧ x ≤ a / b ∧ a / b ≤ x + p + f := by
  obtain ⟨h1, h2, h3⟩ := chErr_zero.1 h0
  obtain ⟨hl, hb, _⟩ := decCheck_ok (decErr_zero.1 h1).1
  unfold chOut at h
  rw [if_pos h0] at h
  obtain ⟨k, rfl, hk1, hk2, hne⟩ := diffs_mem h
  have he2 := replS_err (a := a.toNat) (c := c.toNat) (by omega) (by omega) (by omega) h1
  have e1 : decOut l b i p f es s = decList b p f es s := by unfold decOut; rw [if_pos h1]
  have e2 : decOut l b i p f es (replS s a.toNat c.toNat) = decList b p f es (replS s a.toNat c.toNat) := by unfold decOut; rw [if_pos he2]
  rw [e1] at hk1 hne
  rw [e2] at hk2 hne
  rw [decList_getD hk1, decList_getD hk2] at hne
  have hin : ¬ (a.toNat < k * b.toNat ∨ k * b.toNat + ((p + 1 + f) * b).toNat ≤ a.toNat) := fun hor => hne (replS_decAt (by omega) (by omega) hor).symm
  have hmul : 0 ≤ (p + 1 + f) * b := Int.mul_nonneg (by omega) (by omega)
  have hkb : ((k * b.toNat : Nat) : Int) = (k : Int) * b := by rw [Int.natCast_mul, Int.toNat_of_nonneg (by omega)]
  have g1 : (k : Int) * b ≤ a := by omega
  have g2 : a < (k : Int) * b + (p + 1 + f) * b := by omega
  refine ⟨by omega, ?_, ?_⟩
  · exact (Int.le_ediv_iff_mul_le (by omega)).2 g1
  · have : a / b < (k : Int) + (p + 1 + f) := (Int.ediv_lt_iff_lt_mul (by omega)).2 (by rw [Int.add_mul]; exact g2)
    omega
theorem chOut_inc (l b i p f : Int) (es : List Ent) (s : ByteArray) (a c : Int) : Inc (chOut l b i p f es s a c) := by
  unfold chOut
  split
  · exact diffs_inc _ _
  · exact List.Pairwise.nil
theorem chOut_len {l b i p f : Int} {es : List Ent} {s : ByteArray} {a c : Int} (h0 : chErr l b i p f es s a c = 0) : ((chOut l b i p f es s a c).length : Int) ≤ p + 1 + f := by
  obtain ⟨h1, _, _⟩ := chErr_zero.1 h0
  obtain ⟨_, hb, _⟩ := decCheck_ok (decErr_zero.1 h1).1
  have := inc_len _ (a / b - (p + f)) (a / b) (chOut_inc l b i p f es s a c) (fun x hx => by have := chOut_mem h0 hx; omega) (by omega)
  omega
end Go.Proofs.Ytcafeffgaokiaaa
