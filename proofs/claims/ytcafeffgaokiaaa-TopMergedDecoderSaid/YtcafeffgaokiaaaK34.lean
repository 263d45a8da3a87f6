/- propagation.Greatest. -/
import Derived.Test.YtcafeffgaokiaaaK24
namespace Go.Proofs.Ytcafeffgaokiaaa
open Go.RowKit
attribute [local go_sem] Oper.semAt_some wideF
def mxI (a b : Int) : Int := if b > a then b else a
theorem mxI_nat (a b : Nat) : mxI (a : Int) (b : Int) = ((max a b : Nat) : Int) := by
  unfold mxI
  split <;> omega
theorem maxI {P : Program} (ts : Array TypeId) (t : TypeId) (w : World) (a b : Int) : (Builtin.max_ ts t #[.int .i64 a, .int .i64 b]).run P w = .ok (.int .i64 (mxI a b)) w := rfl
theorem cell_of_obj {W : World} {u : Nat} {cs : Array Value} {t : TypeId} (h : W.heap[u]? = some (.cells cs t (0, 0))) (j : Nat) : W.cell? ⟨u, j, none⟩ = cs[j]? := by
  unfold World.cell?
  simp [h]
theorem repls_boxes (X : World) (g : Nat) (hg : X.heap.size = g) (L b i : Int) (m : EM) (p : Option Addr) (c : Nat) (dl db di dp df : Int) (da : Option Addr) (dn dc : Nat) (n : Int) (t1 t2 t3 : TypeId) (w1 : World)
    (h : w1 = ((X.alloc (.cells #[.int .i64 L, .int .i64 b, .int .i64 i, .slice p m.r c] t1)).alloc (.cells #[.int .i64 dl, .int .i64 db, .int .i64 di, .int .i64 dp, .int .i64 df, .slice da dn dc] t2)).alloc (.cells #[.int .i64 n] t3)) :
    w1.heap.size = g + 3 ∧ Below X.heap.size X w1 ∧ EBox w1 g L b i m p c ∧ DBox w1 (g + 1) dl db di dp df da dn dc ∧ w1.cell? ⟨g + 2, 0, none⟩ = some (.int .i64 n) := by
  obtain ⟨A, hA⟩ : ∃ A, X.alloc (.cells #[.int .i64 L, .int .i64 b, .int .i64 i, .slice p m.r c] t1) = A := ⟨_, rfl⟩
  obtain ⟨D, hD⟩ : ∃ D, A.alloc (.cells #[.int .i64 dl, .int .i64 db, .int .i64 di, .int .i64 dp, .int .i64 df, .slice da dn dc] t2) = D := ⟨_, rfl⟩
  have a1 : A.heap[g]? = some (.cells #[.int .i64 L, .int .i64 b, .int .i64 i, .slice p m.r c] t1) := by rw [← hA, ← hg]; exact World.alloc_heap_new X _
  have a2 : A.heap.size = g + 1 := by rw [← hA, World.size_alloc, hg]
  have d1 : D.heap[g + 1]? = some (.cells #[.int .i64 dl, .int .i64 db, .int .i64 di, .int .i64 dp, .int .i64 df, .slice da dn dc] t2) := by rw [← hD, ← a2]; exact World.alloc_heap_new A _
  have d2 : D.heap.size = g + 2 := by rw [← hD, World.size_alloc, a2]
  have d3 : D.heap[g]? = some (.cells #[.int .i64 L, .int .i64 b, .int .i64 i, .slice p m.r c] t1) := by rw [← hD]; exact (Below.heap_alloc _ _ _ (by omega)).trans a1
  rw [hA, hD] at h
  have n1 : w1.heap[g + 2]? = some (.cells #[.int .i64 n] t3) := by rw [h, ← d2]; exact World.alloc_heap_new D _
  have n2 : w1.heap[g + 1]? = some (.cells #[.int .i64 dl, .int .i64 db, .int .i64 di, .int .i64 dp, .int .i64 df, .slice da dn dc] t2) := by rw [h]; exact (Below.heap_alloc _ _ _ (by omega)).trans d1
  have n3 : w1.heap[g]? = some (.cells #[.int .i64 L, .int .i64 b, .int .i64 i, .slice p m.r c] t1) := by rw [h]; exact (Below.heap_alloc _ _ _ (by omega)).trans d3
  refine ⟨by rw [h, World.size_alloc, d2], ?_, ⟨cell_of_obj n3 0, cell_of_obj n3 1, cell_of_obj n3 2, cell_of_obj n3 3⟩, ⟨cell_of_obj n2 0, cell_of_obj n2 1, cell_of_obj n2 2, cell_of_obj n2 3, cell_of_obj n2 4, cell_of_obj n2 5⟩, cell_of_obj n1 0⟩
  rw [h, ← hD, ← hA]
  exact (((Below.refl _ X).alloc (Nat.le_refl _) _).alloc (by simp) _).alloc (by simp; omega) _
/-- The cells of a replacement that a round holds. -/
def rpObj (x : Rp) : Obj := .cells #[.string x.w, .int .i64 (x.a : Int), .int .i64 (x.c : Int), .int .i64 (x.n : Int)] 95 (0, 0)
def grtV (l b i : Int) (m : EM) (dl db di dp df : Int) (es : List Ent) (n : Int) : Int := if fitErr l b i m dl db di dp df es n = 0 then (mostF (rps l b i m dp df es n) : Int) else 0
set_option maxRecDepth 100000 in
set_option maxHeartbeats 8000000 in
theorem pGreatest_any (l b i : Int) (m : EM) (p : Option Addr) (c : Nat) (dl db di dp df : Int) (es : List Ent) (a : Option Addr) (ca : Nat) (n : Int) (w : World) (hA : m.At w p) (hf : m.Fit) (hE : EntsAt w a es) (hwins : WinsFit es) :
    Calls Try.prog 19 #[.agg #[.int .i64 l, .int .i64 b, .int .i64 i, .slice p m.r c], .agg #[.int .i64 dl, .int .i64 db, .int .i64 di, .int .i64 dp, .int .i64 df, .slice a es.length ca], .int .i64 n] w fun e w' => e = .returned (.tuple #[.int .i64 (grtV l b i m dl db di dp df es n), .int .i64 (fitErr l b i m dl db di dp df es n)]) ∧ Below w.heap.size w w' := by
  obtain ⟨V, hV⟩ : ∃ V, ((w.alloc (.cells #[.int .i64 l, .int .i64 b, .int .i64 i, .slice p m.r c] 24)).alloc (.cells #[.int .i64 dl, .int .i64 db, .int .i64 di, .int .i64 dp, .int .i64 df, .slice a es.length ca] 30)) = V := ⟨_, rfl⟩
  have hbV : Below w.heap.size w V := by rw [← hV]; exact ((Below.refl w.heap.size w).alloc (Nat.le_refl _) _).alloc (by simp) _
  obtain ⟨g, hg⟩ : ∃ g, w.heap.size = g := ⟨_, rfl⟩
  have hsV : V.heap.size = g + 2 := by rw [← hV]; simp [hg]
  have x0 : V.cell? ⟨g, 0, none⟩ = some (.int .i64 l) ∧ V.cell? ⟨g, 1, none⟩ = some (.int .i64 b) ∧ V.cell? ⟨g, 2, none⟩ = some (.int .i64 i) ∧ V.cell? ⟨g, 3, none⟩ = some (.slice p m.r c) := by
    rw [← hV, ← hg]; refine ⟨?_, ?_, ?_, ?_⟩ <;> simp
  have y0 : V.cell? ⟨g + 1, 0, none⟩ = some (.int .i64 dl) ∧ V.cell? ⟨g + 1, 1, none⟩ = some (.int .i64 db) ∧ V.cell? ⟨g + 1, 2, none⟩ = some (.int .i64 di) ∧ V.cell? ⟨g + 1, 3, none⟩ = some (.int .i64 dp) ∧ V.cell? ⟨g + 1, 4, none⟩ = some (.int .i64 df) ∧ V.cell? ⟨g + 1, 5, none⟩ = some (.slice a es.length ca) := by
    rw [← hV, ← hg]; refine ⟨?_, ?_, ?_, ?_, ?_, ?_⟩ <;> simp
  have HX := Lib.hid (fun (W : World) (h : Below V.heap.size V W) => show (W.cell? ⟨g, 0, none⟩ = some (.int .i64 l) ∧ W.cell? ⟨g, 1, none⟩ = some (.int .i64 b) ∧ W.cell? ⟨g, 2, none⟩ = some (.int .i64 i) ∧ W.cell? ⟨g, 3, none⟩ = some (.slice p m.r c)) ∧ W.cell? ⟨g + 1, 0, none⟩ = some (.int .i64 dl) ∧ W.cell? ⟨g + 1, 1, none⟩ = some (.int .i64 db) ∧ W.cell? ⟨g + 1, 2, none⟩ = some (.int .i64 di) ∧ W.cell? ⟨g + 1, 3, none⟩ = some (.int .i64 dp) ∧ W.cell? ⟨g + 1, 4, none⟩ = some (.int .i64 df) ∧ W.cell? ⟨g + 1, 5, none⟩ = some (.slice a es.length ca) from
    ⟨⟨(h.cell (by simp; omega)).trans x0.1, (h.cell (by simp; omega)).trans x0.2.1, (h.cell (by simp; omega)).trans x0.2.2.1, (h.cell (by simp; omega)).trans x0.2.2.2⟩,
      (h.cell (by simp; omega)).trans y0.1, (h.cell (by simp; omega)).trans y0.2.1, (h.cell (by simp; omega)).trans y0.2.2.1, (h.cell (by simp; omega)).trans y0.2.2.2.1, (h.cell (by simp; omega)).trans y0.2.2.2.2.1, (h.cell (by simp; omega)).trans y0.2.2.2.2.2⟩)
  have HCk := Lib.hid (fun (W : World) (h : Below w.heap.size w W) => pcheck_any l b i m p c dl db di dp df es a ca n W (hA.below (Nat.le_refl _) h) hf (SlAt.mono hE (Nat.le_refl _) h) hwins)
  have HbV := Lib.hid hbV
  obtain ⟨⟨x0, x1, x2, x3⟩, y0, y1, y2, y3, y4, y5⟩ := HX.out V (Below.refl _ _)
  clear hf hbV
  refine calls_marks Try.func19 rfl ?_
  simp only [Try.ntmps19, List.size_toArray, List.length_cons, List.length_nil, Nat.reduceAdd, Nat.reduceSub, Array.replicate_succ, Array.replicate_zero, List.push_toArray, List.append_toArray, List.nil_append, List.cons_append]
  by_cases e1 : fitErr l b i m dl db di dp df es n = 0
  case neg =>
    have Hv := Lib.hid (show grtV l b i m dl db di dp df es n = 0 by unfold grtV; rw [if_neg e1])
    have e1' : (fitErr l b i m dl db di dp df es n != 0) = true := by simpa using e1
    clear e1
    go_wp2_with (go_at_call 44; refine (HCk.out _ HbV.out).mono ?_; rintro e W1 ⟨rfl, hb⟩; have Hb := Lib.hid (HbV.out.trans (hb.mono HbV.out.size)); clear hb)
    refine ⟨_, results_tmp2 rfl _ _ _, ?_, Hb.out⟩
    rw [Hv.out]; rfl
  obtain ⟨he, hd, rfl, rfl, rfl, hn, hcnt⟩ := fit_ok e1
  obtain ⟨⟨l1, l2⟩, ⟨b1, b2⟩, ⟨i1, i2⟩, ⟨r1, r2⟩, hok, _⟩ := encCheck_ok he
  obtain ⟨N, rfl⟩ : ∃ N : Nat, n = N := ⟨n.toNat, by omega⟩
  obtain ⟨L, rfl⟩ : ∃ L : Nat, dl = L := ⟨dl.toNat, by omega⟩
  obtain ⟨B, rfl⟩ : ∃ B : Nat, db = B := ⟨db.toNat, by omega⟩
  obtain ⟨I, rfl⟩ : ∃ I : Nat, di = I := ⟨di.toNat, by omega⟩
  rw [Int.toNat_natCast, Int.toNat_natCast] at hok
  rw [Int.toNat_natCast] at hcnt
  have hdec : ∀ x ∈ wordsE m N, decErr (L : Int) (B : Int) (I : Int) dp df es x = 0 := fun x hx => (words_dec he hd (by omega) x hx).2
  have HSq := Lib.hid (fun (W0 : World) (h : Below w.heap.size w W0) (B1 lo hi be bn bd : Nat) (hlo : W0.heap.size ≤ lo) (h3 : hi ≤ be) (h4 : hi ≤ bn) (h5 : hi ≤ bd) => repl_seq W0 B1 lo hi be bn bd hlo h3 h4 h5 L (B : Int) (I : Int) m p c I B N (hA.below (Nat.le_refl _) h) hok (by omega) (by omega) (by omega) (by omega) (B : Int) (I : Int) dp df es a ca (SlAt.mono hE (Nat.le_refl _) h) hwins (by omega) hdec)
  have e1' : (fitErr (L : Int) (B : Int) (I : Int) m (L : Int) (B : Int) (I : Int) dp df es (N : Int) != 0) = false := by rw [e1]; rfl
  have Hv := Lib.hid (show grtV (L : Int) (B : Int) (I : Int) m (L : Int) (B : Int) (I : Int) dp df es (N : Int) = (mostF (rpE (decOut (L : Int) (B : Int) (I : Int) dp df es) L (wordsE m N)) : Int) by
    unfold grtV rps; rw [if_pos e1, Int.toNat_natCast, Int.toNat_natCast])
  have E1 := Lib.hid e1
  clear hA hE hwins hdec he hd hok e1 hcnt
  go_wp2_with fail
  refine (HCk.out _ HbV.out).mono ?_; rintro e W1 ⟨rfl, hb⟩
  have HB1 := Lib.hid hb
  have Hw1 := Lib.hid (HbV.out.trans (hb.mono HbV.out.size))
  clear hb x0 x1 x2 x3 y0 y1 y2 y3 y4 y5 HCk
  obtain ⟨⟨x0, x1, x2, x3⟩, y0, y1, y2, y3, y4, y5⟩ := HX.out _ HB1.out
  obtain ⟨g0, hg0⟩ : ∃ x, W1.heap.size = x := ⟨_, rfl⟩
  go_upto_region 5 with (fail)
  have hbx := Boxed.new W1 3 (.int .i64 0)
  have hal := (Below.refl W1.heap.size W1).alloc (Nat.le_refl _) (.cells #[.int .i64 0] 3)
  have hsx : (W1.alloc (.cells #[.int .i64 0] 3)).heap.size = g0 + 1 := by simp [hg0]
  have hgV : V.heap.size ≤ W1.heap.size := HB1.out.size
  rw [hg0] at hbx hgV
  have HB2 := Lib.hid (HB1.out.trans (hal.mono HB1.out.size))
  have Hw2 := Lib.hid (Hw1.out.trans (hal.mono Hw1.out.size))
  have Hbx := Lib.hid hbx
  clear hal hbx x0 x1 x2 x3 y0 y1 y2 y3 y4 y5 HB1 Hw1
  generalize W1.alloc (.cells #[.int .i64 0] 3) = X at *
  obtain ⟨⟨x0, x1, x2, x3⟩, y0, y1, y2, y3, y4, y5⟩ := HX.out _ HB2.out
  go_wp2_with fail
  refine (repls_any (L : Int) (B : Int) (I : Int) p m.r c (L : Int) (B : Int) (I : Int) dp df a es.length ca (N : Int) X).mono ?_
  rintro e w1 ⟨rfl, hw1⟩
  dsimp only
  obtain ⟨hs1, hb1, hE1, hD1, hn1⟩ := repls_boxes X (g0 + 1) hsx _ _ _ m _ _ _ _ _ _ _ _ _ _ _ _ _ _ w1 hw1
  have Hw3 := Lib.hid (Hw2.out.trans (hb1.mono Hw2.out.size))
  have Hbx1 := Lib.hid ((hb1.block _ (by omega)).trans Hbx.out : Boxed w1 g0 3 (.int .i64 0))
  have hgw : w.heap.size ≤ g0 := by omega
  rw [show X.heap.size = g0 + 1 from hsx]
  clear hw1 hb1 x0 x1 x2 x3 y0 y1 y2 y3 y4 y5 Hbx HB2 Hw2 HX hsx HbV hV
  obtain ⟨ps, hps⟩ : ∃ ps, rpE (decOut (L : Int) (B : Int) (I : Int) dp df es) L (wordsE m N) = ps := ⟨_, rfl⟩
  have hsq := HSq.out w (Below.refl _ _) (w1.heap.size + 2) g0 (g0 + 1) (g0 + 1) (g0 + 3) (g0 + 2) hgw (Nat.le_refl _) (by omega) (by omega)
  rw [hps] at hsq Hv
  clear HSq hps
  go_wp2_with fail
  refine rangeW3 (gf := 69) (lb := #[.pointer (some ⟨g0 + 1, 0, none⟩), .pointer (some ⟨g0 + 1 + 1 + 1, 0, none⟩), .pointer (some ⟨g0 + 1 + 1, 0, none⟩)]) rfl (enters_of Try.func69 (by kernel_rfl) rfl)
    hsq (fun _ _ h => h) (fun r W h => ⟨by have := h.1; omega, by have := h.1; omega⟩) (fun h k => h.trans k) (fun W o o' ho hc => KpO.put o' (by omega) ho hc)
    (fun X hX hz => ⟨hz, by omega, (Low.of_below (Hw3.out.trans (hX.mono (by omega)))), hE1.kept (lo := g0) (hi := g0 + 1) (KpH.of_below hX) (.inr (Nat.le_refl _)), (KpH.of_below (lo := g0) (hi := g0 + 1) hX).cell hn1 (.inr (by show g0 + 1 ≤ g0 + 1 + 2; omega)), hD1.kept (lo := g0) (hi := g0 + 1) (KpH.of_below hX) (.inr (by omega))⟩) (fun _ => rfl)
    (fun pre X => Boxed X g0 3 (.int .i64 (mostF pre : Int)) ∧ Below w.heap.size w X ∧ w1.heap.size ≤ X.heap.size) (fun _ _ _ => False)
    (fun s A B row h hg hr => ⟨tb_boxed h.1 hg hr, tb_below h.2.1 h.2.1.size hg hr (by omega) (by omega), Nat.le_trans h.2.2 hg.size⟩) (fun c s A B row h hg hr => h.elim)
    ⟨Hbx1.out, Hw3.out, Nat.le_refl _⟩
    (fun q W => (Boxed W g0 3 (.int .i64 (mostF q.1 : Int)) ∧ Below w.heap.size w W ∧ w1.heap.size ≤ W.heap.size) ∧ ∃ u, w1.heap.size ≤ u ∧ W.heap[u]? = some (rpObj q.2.1) ∧ q.2.2 = { tmps := #[.agg #[.int .i64 (L : Int), .int .i64 (B : Int), .int .i64 (I : Int), .slice p m.r c], .agg #[.int .i64 (L : Int), .int .i64 (B : Int), .int .i64 (I : Int), .int .i64 dp, .int .i64 df, .slice a es.length ca], .int .i64 (N : Int), .pointer (some ⟨g, 0, none⟩), .pointer (some ⟨g + 1, 0, none⟩), undef, .int .i64 0, .int .i64 0, .int .i64 (fitErr (L : Int) (B : Int) (I : Int) m (L : Int) (B : Int) (I : Int) dp df es (N : Int)), .pointer (some ⟨g0, 0, none⟩), .pointer (some ⟨u, 0, none⟩), .agg #[.int .i64 (L : Int), .int .i64 (B : Int), .int .i64 (I : Int), .slice p m.r c], .agg #[.int .i64 (L : Int), .int .i64 (B : Int), .int .i64 (I : Int), .int .i64 dp, .int .i64 df, .slice a es.length ca], .int .i64 (N : Int), .int .i64 (fitErr (L : Int) (B : Int) (I : Int) m (L : Int) (B : Int) (I : Int) dp df es (N : Int)), .int .i64 (fitErr (L : Int) (B : Int) (I : Int) m (L : Int) (B : Int) (I : Int) dp df es (N : Int)), .bool false, undef, .agg #[.int .i64 (L : Int), .int .i64 (B : Int), .int .i64 (I : Int), .slice p m.r c], .agg #[.int .i64 (L : Int), .int .i64 (B : Int), .int .i64 (I : Int), .int .i64 dp, .int .i64 df, .slice a es.length ca], .int .i64 (N : Int), .func (.func 69) #[] #[.pointer (some ⟨g0 + 1, 0, none⟩), .pointer (some ⟨g0 + 1 + 1 + 1, 0, none⟩), .pointer (some ⟨g0 + 1 + 1, 0, none⟩)], .agg #[.string q.2.1.w, .int .i64 (q.2.1.a : Int), .int .i64 (q.2.1.c : Int), .int .i64 (q.2.1.n : Int)], undef, undef, undef, undef, undef], defers := [] })
    ?hM ?assign ?body ?done ?stop
  case hM =>
    rintro ⟨pre, z, a⟩ W W' row ⟨⟨h1, h2, h3⟩, u, h4, h5, h6⟩ hg hr
    exact ⟨⟨tb_boxed h1 hg hr, tb_below h2 h2.size hg hr (by omega) (by omega), Nat.le_trans h3 hg.size⟩, u, h4, tb_cells h5 rfl hg hr, h6⟩
  case assign =>
    intro l pre z X K hI hz hK
    dsimp only [encR]
    gi_wp2
    have hX : w1.heap.size ≤ X.heap.size := hI.2.2
    refine hK _ _ ⟨⟨hI.1.alloc _, hI.2.1.alloc hI.2.1.size _, by simp; omega⟩, X.heap.size, hX, World.alloc_heap_new X _, rfl⟩ ((KeepsOthers.alloc _ _).from _) (KpO.of_below ((Below.refl _ _).alloc (Nat.le_refl _) _))
  case body =>
    rintro l pre z a X ⟨⟨hbx, hbw, hsz⟩, u, hu, hub, hae⟩
    dsimp only at hbx hbw hub hae
    subst hae
    have hmx := @maxI Try.prog
    have hc0 := hbx.cell
    have hf0 := hbx.frozen
    have hc3 := cell_of_obj hub 3
    simp only [List.getElem?_toArray, List.getElem?_cons_succ, List.getElem?_cons_zero] at hc3
    have Hbx := Lib.hid hbx
    have Hbw := Lib.hid hbw
    obtain ⟨M, hM⟩ : ∃ M, mostF pre = M := ⟨_, rfl⟩
    have Hn := Lib.hid (show mostF (pre ++ [z]) = max M z.n by rw [mostF_snoc, hM])
    rw [hM] at hc0 Hbx
    obtain ⟨zn, hzn⟩ : ∃ k, z.n = k := ⟨_, rfl⟩
    rw [hzn] at hc3 Hn ⊢
    clear hbx hbw hub hM hzn hsq
    gi_wp2
    refine ⟨(KeepsOthers.setCell _ _ _).from _, KpO.setCell X 0 _ (Nat.le_refl _) (by omega), ?_, Hbw.out.setCell (p := ⟨g0, 0, none⟩) hgw _, by simpa using hsz⟩
    rw [Hn.out, ← mxI_nat]
    exact Hbx.out.set _
  case done =>
    rintro D xs X hD rfl ⟨hbx, hbw, hsz⟩ hK
    have hc0 := hbx.cell
    have HK := Lib.hid hK
    have Hbw := Lib.hid hbw
    clear hK hbx hbw
    go_wp2
    refine ⟨by simp, .inl ⟨_, _, rfl, run_takeDeferred HK.out, ?_⟩⟩
    refine ⟨_, results_tmp2 rfl _ _ _, by rw [Hv.out, E1.out]; rfl, ?_⟩
    exact ⟨Hbw.out.os, Hbw.out.tape, Hbw.out.output, by simpa using Hbw.out.size, fun b hb => by rw [World.putObj_heap_other (by omega)]; exact Hbw.out.block b hb⟩
  case stop =>
    intro D c pre X _ h
    exact h.elim
end Go.Proofs.Ytcafeffgaokiaaa
