/- grooveref28.Greatest, Average, Worst. -/
import Derived.Test.YtcafeffgaokiaaaZ13
import Derived.Test.YtcafeffgaokiaaaZ14
import Derived.Test.YtcafeffgaokiaaaZ42
import Derived.Test.YtcafeffgaokiaaaZ43
namespace Go.Proofs.Ytcafeffgaokiaaa
open Go.RowKit
set_option maxRecDepth 100000 in
set_option maxHeartbeats 8000000 in
theorem rGreatest_any (l b i : Int) (m : EM) (p : Option Addr) (c : Nat) (dl db di dp df : Int) (es : List Ent) (a : Option Addr) (ca : Nat) (n : Int) (w : World) (hA : m.At w p) (hf : m.Fit) (hE : EntsAt w a es) (hwins : WinsFit es) (hsm : fitErr l b i m dl db di dp df es n = 0 → sumF (rps l b i m dp df es n) ≤ 1000000000 ∧ (rps l b i m dp df es n).length ≤ 1000000000) :
    Calls Try.prog 20 #[.agg #[.int .i64 l, .int .i64 b, .int .i64 i, .slice p m.r c], .agg #[.int .i64 dl, .int .i64 db, .int .i64 di, .int .i64 dp, .int .i64 df, .slice a es.length ca], .int .i64 n] w fun e w' => e = .returned (.tuple #[.int .i64 (grtV l b i m dl db di dp df es n), .int .i64 (fitErr l b i m dl db di dp df es n)]) ∧ Below w.heap.size w w' := by
  obtain ⟨V, hV⟩ : ∃ V, ((w.alloc (.cells #[.int .i64 l, .int .i64 b, .int .i64 i, .slice p m.r c] 24)).alloc (.cells #[.int .i64 dl, .int .i64 db, .int .i64 di, .int .i64 dp, .int .i64 df, .slice a es.length ca] 30)) = V := ⟨_, rfl⟩
  have hbV : Below w.heap.size w V := by rw [← hV]; exact ((Below.refl w.heap.size w).alloc (Nat.le_refl _) _).alloc (by simp) _
  obtain ⟨g, hg⟩ : ∃ g, w.heap.size = g := ⟨_, rfl⟩
  have hsV : V.heap.size = g + 2 := by rw [← hV]; simp [hg]
  have x0 : V.cell? ⟨g, 0, none⟩ = some (.int .i64 l) ∧ V.cell? ⟨g, 1, none⟩ = some (.int .i64 b) ∧ V.cell? ⟨g, 2, none⟩ = some (.int .i64 i) ∧ V.cell? ⟨g, 3, none⟩ = some (.slice p m.r c) := by
    rw [← hV, ← hg]; refine ⟨?_, ?_, ?_, ?_⟩ <;> simp
  have y0 : V.cell? ⟨g + 1, 0, none⟩ = some (.int .i64 dl) ∧ V.cell? ⟨g + 1, 1, none⟩ = some (.int .i64 db) ∧ V.cell? ⟨g + 1, 2, none⟩ = some (.int .i64 di) ∧ V.cell? ⟨g + 1, 3, none⟩ = some (.int .i64 dp) ∧ V.cell? ⟨g + 1, 4, none⟩ = some (.int .i64 df) ∧ V.cell? ⟨g + 1, 5, none⟩ = some (.slice a es.length ca) := by
    rw [← hV, ← hg]; refine ⟨?_, ?_, ?_, ?_, ?_, ?_⟩ <;> simp
  have HX := Lib.hid (fun (W : World) (h : Below V.heap.size V W) => show (W.cell? ⟨g, 0, none⟩ = some (.int .i64 l) ∧ W.cell? ⟨g, 1, none⟩ = some (.int .i64 b) ∧ W.cell? ⟨g, 2, none⟩ = some (.int .i64 i) ∧ W.cell? ⟨g, 3, none⟩ = some (.slice p m.r c)) ∧ W.cell? ⟨g + 1, 0, none⟩ = some (.int .i64 dl) ∧ W.cell? ⟨g + 1, 1, none⟩ = some (.int .i64 db) ∧ W.cell? ⟨g + 1, 2, none⟩ = some (.int .i64 di) ∧ W.cell? ⟨g + 1, 3, none⟩ = some (.int .i64 dp) ∧ W.cell? ⟨g + 1, 4, none⟩ = some (.int .i64 df) ∧ W.cell? ⟨g + 1, 5, none⟩ = some (.slice a es.length ca) from
    ⟨⟨(h.cell (by simp; omega)).trans x0.1, (h.cell (by simp; omega)).trans x0.2.1, (h.cell (by simp; omega)).trans x0.2.2.1, (h.cell (by simp; omega)).trans x0.2.2.2⟩,
      (h.cell (by simp; omega)).trans y0.1, (h.cell (by simp; omega)).trans y0.2.1, (h.cell (by simp; omega)).trans y0.2.2.1, (h.cell (by simp; omega)).trans y0.2.2.2.1, (h.cell (by simp; omega)).trans y0.2.2.2.2.1, (h.cell (by simp; omega)).trans y0.2.2.2.2.2⟩)
  have HCk := Lib.hid (fun (W : World) (h : Below w.heap.size w W) => fits_any l b i m p c dl db di dp df es a ca n W (hA.below (Nat.le_refl _) h) hf (SlAt.mono hE (Nat.le_refl _) h) hwins)
  have HbV := Lib.hid hbV
  obtain ⟨⟨x0, x1, x2, x3⟩, y0, y1, y2, y3, y4, y5⟩ := HX.out V (Below.refl _ _)
  clear hbV
  go_enter Try.func20, Try.ntmps20
  by_cases e1 : fitErr l b i m dl db di dp df es n = 0
  case neg =>
    have Hv := Lib.hid (show grtV l b i m dl db di dp df es n = 0 by unfold grtV; rw [if_neg e1])
    have e1' : (fitErr l b i m dl db di dp df es n != 0) = true := by simpa using e1
    clear e1
    go_wp2_with (go_at_call 46; refine (HCk.out _ HbV.out).mono ?_; rintro e W1 ⟨rfl, hb⟩; have Hb := Lib.hid (HbV.out.trans (hb.mono HbV.out.size)); clear hb)
    go_ret2
    exact ⟨by rw [Hv.out]; rfl, Hb.out⟩
  obtain ⟨he, hd, rfl, rfl, rfl, hn, hcnt⟩ := fit_ok e1
  obtain ⟨⟨l1, l2⟩, ⟨b1, b2⟩, ⟨i1, i2⟩, ⟨r1, r2⟩, hok, _⟩ := encCheck_ok he
  obtain ⟨N, rfl⟩ : ∃ N : Nat, n = N := ⟨n.toNat, by omega⟩
  obtain ⟨L, rfl⟩ : ∃ L : Nat, dl = L := ⟨dl.toNat, by omega⟩
  obtain ⟨B, rfl⟩ : ∃ B : Nat, db = B := ⟨db.toNat, by omega⟩
  obtain ⟨I, rfl⟩ : ∃ I : Nat, di = I := ⟨di.toNat, by omega⟩
  rw [Int.toNat_natCast, Int.toNat_natCast] at hok
  rw [Int.toNat_natCast] at hcnt
  have hcm := cntV_ok (I := I) (r := m.r) (n := N) (by omega) r2 hcnt
  have hdec : ∀ x ∈ wordsE m N, decErr (L : Int) (B : Int) (I : Int) dp df es x = 0 := fun x hx => (words_dec he hd (by omega) x hx).2
  obtain ⟨sm1, sm2⟩ := hsm e1
  obtain ⟨ps, hps⟩ : ∃ ps, rps (L : Int) (B : Int) (I : Int) m dp df es (N : Int) = ps := ⟨_, rfl⟩
  have hps2 : rpE (decOut (L : Int) (B : Int) (I : Int) dp df es) L (wordsE m N) = ps := by rw [← hps]; unfold rps; rw [Int.toNat_natCast, Int.toNat_natCast]
  rw [hps] at sm1 sm2
  have HAl := Lib.hid (fun (W : World) (h : Below w.heap.size w W) => all_any L B I m p c dp df es a ca N W (hA.below (Nat.le_refl _) h) hf (SlAt.mono hE (Nat.le_refl _) h) hwins he hd (by omega) hcm.1 ps hps2 sm1 sm2)
  have e1' : (fitErr (L : Int) (B : Int) (I : Int) m (L : Int) (B : Int) (I : Int) dp df es (N : Int) != 0) = false := by rw [e1]; rfl
  have Hv := Lib.hid (show grtV (L : Int) (B : Int) (I : Int) m (L : Int) (B : Int) (I : Int) dp df es (N : Int) = (mostF ps : Int) by unfold grtV; rw [if_pos e1, hps])
  have E1 := Lib.hid e1
  clear hA hE hwins hdec he hd hok e1 hcnt hcm hps hps2 hsm hf
  go_wp2_with fail
  refine (HCk.out _ HbV.out).mono ?_; rintro e W1 ⟨rfl, hb⟩
  have HB1 := Lib.hid hb
  have Hw1 := Lib.hid (HbV.out.trans (hb.mono HbV.out.size))
  clear hb x0 x1 x2 x3 y0 y1 y2 y3 y4 y5 HCk
  obtain ⟨⟨x0, x1, x2, x3⟩, y0, y1, y2, y3, y4, y5⟩ := HX.out _ HB1.out
  go_wp2_with fail
  refine (HAl.out _ Hw1.out).mono ?_; rintro e W2 ⟨rfl, hb⟩
  have Hw2 := Lib.hid (Hw1.out.trans (hb.mono Hw1.out.size))
  have hcs := wsF_cases ps
  obtain ⟨sn, hsn⟩ : ∃ x, (wsF ps).n = x := ⟨_, rfl⟩
  have Hcs : Hid ((sn < 0 → (mostF ps : Int) = 0) ∧ (¬ sn < 0 → (mostF ps : Int) = sn)) := Lib.hid (by
    rw [← hsn]
    rcases hcs with ⟨h1, h2⟩ | ⟨h1, _⟩
    · rw [h1]
      exact ⟨fun _ => rfl, fun h => absurd (show (-1 : Int) < 0 by decide) h⟩
    · rw [h1]; exact ⟨fun h => by omega, fun _ => rfl⟩)
  rw [hsn]
  clear hsn hcs hb HAl
  by_cases hneg : sn < 0
  · have Hm := Lib.hid (Hcs.out.1 hneg)
    go_wp2
    go_ret2
    exact ⟨by rw [Hv.out, E1.out, Hm.out]; rfl, Hw2.out⟩
  · have Hm := Lib.hid (Hcs.out.2 hneg)
    go_wp2
    go_ret2
    exact ⟨by rw [Hv.out, E1.out, Hm.out]; rfl, Hw2.out⟩
set_option maxRecDepth 100000 in
set_option maxHeartbeats 8000000 in
theorem rWorst_any (l b i : Int) (m : EM) (p : Option Addr) (c : Nat) (dl db di dp df : Int) (es : List Ent) (a : Option Addr) (ca : Nat) (n : Int) (w : World) (hA : m.At w p) (hf : m.Fit) (hE : EntsAt w a es) (hwins : WinsFit es) (hsm : fitErr l b i m dl db di dp df es n = 0 → sumF (rps l b i m dp df es n) ≤ 1000000000 ∧ (rps l b i m dp df es n).length ≤ 1000000000) :
    Calls Try.prog 24 #[.agg #[.int .i64 l, .int .i64 b, .int .i64 i, .slice p m.r c], .agg #[.int .i64 dl, .int .i64 db, .int .i64 di, .int .i64 dp, .int .i64 df, .slice a es.length ca], .int .i64 n] w fun e w' => e = .returned (wstV l b i m dl db di dp df es n) ∧ Below w.heap.size w w' := by
  obtain ⟨V, hV⟩ : ∃ V, ((w.alloc (.cells #[.int .i64 l, .int .i64 b, .int .i64 i, .slice p m.r c] 24)).alloc (.cells #[.int .i64 dl, .int .i64 db, .int .i64 di, .int .i64 dp, .int .i64 df, .slice a es.length ca] 30)) = V := ⟨_, rfl⟩
  have hbV : Below w.heap.size w V := by rw [← hV]; exact ((Below.refl w.heap.size w).alloc (Nat.le_refl _) _).alloc (by simp) _
  obtain ⟨g, hg⟩ : ∃ g, w.heap.size = g := ⟨_, rfl⟩
  have hsV : V.heap.size = g + 2 := by rw [← hV]; simp [hg]
  have x0 : V.cell? ⟨g, 0, none⟩ = some (.int .i64 l) ∧ V.cell? ⟨g, 1, none⟩ = some (.int .i64 b) ∧ V.cell? ⟨g, 2, none⟩ = some (.int .i64 i) ∧ V.cell? ⟨g, 3, none⟩ = some (.slice p m.r c) := by
    rw [← hV, ← hg]; refine ⟨?_, ?_, ?_, ?_⟩ <;> simp
  have y0 : V.cell? ⟨g + 1, 0, none⟩ = some (.int .i64 dl) ∧ V.cell? ⟨g + 1, 1, none⟩ = some (.int .i64 db) ∧ V.cell? ⟨g + 1, 2, none⟩ = some (.int .i64 di) ∧ V.cell? ⟨g + 1, 3, none⟩ = some (.int .i64 dp) ∧ V.cell? ⟨g + 1, 4, none⟩ = some (.int .i64 df) ∧ V.cell? ⟨g + 1, 5, none⟩ = some (.slice a es.length ca) := by
    rw [← hV, ← hg]; refine ⟨?_, ?_, ?_, ?_, ?_, ?_⟩ <;> simp
  have HX := Lib.hid (fun (W : World) (h : Below V.heap.size V W) => show (W.cell? ⟨g, 0, none⟩ = some (.int .i64 l) ∧ W.cell? ⟨g, 1, none⟩ = some (.int .i64 b) ∧ W.cell? ⟨g, 2, none⟩ = some (.int .i64 i) ∧ W.cell? ⟨g, 3, none⟩ = some (.slice p m.r c)) ∧ W.cell? ⟨g + 1, 0, none⟩ = some (.int .i64 dl) ∧ W.cell? ⟨g + 1, 1, none⟩ = some (.int .i64 db) ∧ W.cell? ⟨g + 1, 2, none⟩ = some (.int .i64 di) ∧ W.cell? ⟨g + 1, 3, none⟩ = some (.int .i64 dp) ∧ W.cell? ⟨g + 1, 4, none⟩ = some (.int .i64 df) ∧ W.cell? ⟨g + 1, 5, none⟩ = some (.slice a es.length ca) from
    ⟨⟨(h.cell (by simp; omega)).trans x0.1, (h.cell (by simp; omega)).trans x0.2.1, (h.cell (by simp; omega)).trans x0.2.2.1, (h.cell (by simp; omega)).trans x0.2.2.2⟩,
      (h.cell (by simp; omega)).trans y0.1, (h.cell (by simp; omega)).trans y0.2.1, (h.cell (by simp; omega)).trans y0.2.2.1, (h.cell (by simp; omega)).trans y0.2.2.2.1, (h.cell (by simp; omega)).trans y0.2.2.2.2.1, (h.cell (by simp; omega)).trans y0.2.2.2.2.2⟩)
  have HCk := Lib.hid (fun (W : World) (h : Below w.heap.size w W) => fits_any l b i m p c dl db di dp df es a ca n W (hA.below (Nat.le_refl _) h) hf (SlAt.mono hE (Nat.le_refl _) h) hwins)
  have HbV := Lib.hid hbV
  obtain ⟨⟨x0, x1, x2, x3⟩, y0, y1, y2, y3, y4, y5⟩ := HX.out V (Below.refl _ _)
  clear hbV
  go_enter Try.func24, Try.ntmps24
  by_cases e1 : fitErr l b i m dl db di dp df es n = 0
  case neg =>
    have Hv := Lib.hid (show wstV l b i m dl db di dp df es n = .tuple #[.string ⟨#[]⟩, .int .i64 0, .int .i64 0, .int .i64 (fitErr l b i m dl db di dp df es n)] by unfold wstV; rw [if_neg e1])
    have e1' : (fitErr l b i m dl db di dp df es n != 0) = true := by simpa using e1
    clear e1
    go_wp2_with (go_at_call 46; refine (HCk.out _ HbV.out).mono ?_; rintro e W1 ⟨rfl, hb⟩; have Hb := Lib.hid (HbV.out.trans (hb.mono HbV.out.size)); clear hb)
    refine bodyPost_ret (v := .tuple #[.string ⟨#[]⟩, .int .i64 0, .int .i64 0, .int .i64 (fitErr l b i m dl db di dp df es n)]) ?_ rfl ⟨by rw [Hv.out], Hb.out⟩
    simp [results, Try.results24, go_sem]
  obtain ⟨he, hd, rfl, rfl, rfl, hn, hcnt⟩ := fit_ok e1
  obtain ⟨⟨l1, l2⟩, ⟨b1, b2⟩, ⟨i1, i2⟩, ⟨r1, r2⟩, hok, _⟩ := encCheck_ok he
  obtain ⟨N, rfl⟩ : ∃ N : Nat, n = N := ⟨n.toNat, by omega⟩
  obtain ⟨L, rfl⟩ : ∃ L : Nat, dl = L := ⟨dl.toNat, by omega⟩
  obtain ⟨B, rfl⟩ : ∃ B : Nat, db = B := ⟨db.toNat, by omega⟩
  obtain ⟨I, rfl⟩ : ∃ I : Nat, di = I := ⟨di.toNat, by omega⟩
  rw [Int.toNat_natCast, Int.toNat_natCast] at hok
  rw [Int.toNat_natCast] at hcnt
  have hcm := cntV_ok (I := I) (r := m.r) (n := N) (by omega) r2 hcnt
  have hdec : ∀ x ∈ wordsE m N, decErr (L : Int) (B : Int) (I : Int) dp df es x = 0 := fun x hx => (words_dec he hd (by omega) x hx).2
  obtain ⟨sm1, sm2⟩ := hsm e1
  obtain ⟨ps, hps⟩ : ∃ ps, rps (L : Int) (B : Int) (I : Int) m dp df es (N : Int) = ps := ⟨_, rfl⟩
  have hps2 : rpE (decOut (L : Int) (B : Int) (I : Int) dp df es) L (wordsE m N) = ps := by rw [← hps]; unfold rps; rw [Int.toNat_natCast, Int.toNat_natCast]
  rw [hps] at sm1 sm2
  have HAl := Lib.hid (fun (W : World) (h : Below w.heap.size w W) => all_any L B I m p c dp df es a ca N W (hA.below (Nat.le_refl _) h) hf (SlAt.mono hE (Nat.le_refl _) h) hwins he hd (by omega) hcm.1 ps hps2 sm1 sm2)
  have e1' : (fitErr (L : Int) (B : Int) (I : Int) m (L : Int) (B : Int) (I : Int) dp df es (N : Int) != 0) = false := by rw [e1]; rfl
  have Hv := Lib.hid (show wstV (L : Int) (B : Int) (I : Int) m (L : Int) (B : Int) (I : Int) dp df es (N : Int) = if (wsF ps).n < 0 then .tuple #[.string ⟨#[]⟩, .int .i64 0, .int .i64 0, .int .i64 5]
     else .tuple #[.string (wsF ps).w, .int .i64 (wsF ps).a, .int .i64 (wsF ps).c, .int .i64 0] by
    unfold wstV; rw [if_pos e1, hps])
  have E1 := Lib.hid e1
  clear hA hE hwins hdec he hd hok e1 hcnt hcm hps hps2 hsm hf
  go_wp2_with fail
  refine (HCk.out _ HbV.out).mono ?_; rintro e W1 ⟨rfl, hb⟩
  have HB1 := Lib.hid hb
  have Hw1 := Lib.hid (HbV.out.trans (hb.mono HbV.out.size))
  clear hb x0 x1 x2 x3 y0 y1 y2 y3 y4 y5 HCk
  obtain ⟨⟨x0, x1, x2, x3⟩, y0, y1, y2, y3, y4, y5⟩ := HX.out _ HB1.out
  go_wp2_with fail
  refine (HAl.out _ Hw1.out).mono ?_; rintro e W2 ⟨rfl, hb⟩
  have Hw2 := Lib.hid (Hw1.out.trans (hb.mono Hw1.out.size))
  obtain ⟨s, hs⟩ : ∃ s, wsF ps = s := ⟨_, rfl⟩
  rw [hs] at Hv ⊢
  clear hs hb HAl
  by_cases hneg : s.n < 0
  · have Hv2 := Lib.hid Hv.out
    rw [if_pos hneg] at Hv2
    go_wp2
    refine bodyPost_ret (v := .tuple #[.string ⟨#[]⟩, .int .i64 0, .int .i64 0, .int .i64 5]) ?_ rfl ⟨by rw [Hv2.out], Hw2.out⟩
    simp [results, Try.results24, go_sem]
  · have Hv2 := Lib.hid Hv.out
    rw [if_neg hneg] at Hv2
    go_wp2
    refine bodyPost_ret (v := .tuple #[.string s.w, .int .i64 s.a, .int .i64 s.c, .int .i64 0]) ?_ rfl ⟨by rw [Hv2.out], Hw2.out⟩
    simp [results, Try.results24, go_sem]
set_option maxRecDepth 100000 in
set_option maxHeartbeats 8000000 in
theorem rAverage_any (l b i : Int) (m : EM) (p : Option Addr) (c : Nat) (dl db di dp df : Int) (es : List Ent) (a : Option Addr) (ca : Nat) (n : Int) (w : World) (hA : m.At w p) (hf : m.Fit) (hE : EntsAt w a es) (hwins : WinsFit es) (hsm : fitErr l b i m dl db di dp df es n = 0 → sumF (rps l b i m dp df es n) ≤ 1000000000 ∧ (rps l b i m dp df es n).length ≤ 1000000000) :
    Calls Try.prog 22 #[.agg #[.int .i64 l, .int .i64 b, .int .i64 i, .slice p m.r c], .agg #[.int .i64 dl, .int .i64 db, .int .i64 di, .int .i64 dp, .int .i64 df, .slice a es.length ca], .int .i64 n] w fun e w' => e = .returned (.tuple #[avgV l b i m dl db di dp df es n, .int .i64 (fitErr l b i m dl db di dp df es n)]) ∧ Below w.heap.size w w' := by
  obtain ⟨V, hV⟩ : ∃ V, ((w.alloc (.cells #[.int .i64 l, .int .i64 b, .int .i64 i, .slice p m.r c] 24)).alloc (.cells #[.int .i64 dl, .int .i64 db, .int .i64 di, .int .i64 dp, .int .i64 df, .slice a es.length ca] 30)).alloc (.cells #[.bool false, .string ⟨#[]⟩, .bool false, .string ⟨#[]⟩] 50) = V := ⟨_, rfl⟩
  obtain ⟨g, hg⟩ : ∃ g, w.heap.size = g := ⟨_, rfl⟩
  obtain ⟨hsV, hbV, x0, y0, hrz⟩ := avg_boxes w g hg l b i m p c dl db di dp df a es.length ca 24 30 50 V hV.symm
  have HX := Lib.hid (fun (W : World) (h : Below V.heap.size V W) => show (W.cell? ⟨g, 0, none⟩ = some (.int .i64 l) ∧ W.cell? ⟨g, 1, none⟩ = some (.int .i64 b) ∧ W.cell? ⟨g, 2, none⟩ = some (.int .i64 i) ∧ W.cell? ⟨g, 3, none⟩ = some (.slice p m.r c)) ∧ W.cell? ⟨g + 1, 0, none⟩ = some (.int .i64 dl) ∧ W.cell? ⟨g + 1, 1, none⟩ = some (.int .i64 db) ∧ W.cell? ⟨g + 1, 2, none⟩ = some (.int .i64 di) ∧ W.cell? ⟨g + 1, 3, none⟩ = some (.int .i64 dp) ∧ W.cell? ⟨g + 1, 4, none⟩ = some (.int .i64 df) ∧ W.cell? ⟨g + 1, 5, none⟩ = some (.slice a es.length ca) from
    ⟨⟨(h.cell (by simp; omega)).trans x0.1, (h.cell (by simp; omega)).trans x0.2.1, (h.cell (by simp; omega)).trans x0.2.2.1, (h.cell (by simp; omega)).trans x0.2.2.2⟩,
      (h.cell (by simp; omega)).trans y0.1, (h.cell (by simp; omega)).trans y0.2.1, (h.cell (by simp; omega)).trans y0.2.2.1, (h.cell (by simp; omega)).trans y0.2.2.2.1, (h.cell (by simp; omega)).trans y0.2.2.2.2.1, (h.cell (by simp; omega)).trans y0.2.2.2.2.2⟩)
  have HCk := Lib.hid (fun (W : World) (h : Below w.heap.size w W) => fits_any l b i m p c dl db di dp df es a ca n W (hA.below (Nat.le_refl _) h) hf (SlAt.mono hE (Nat.le_refl _) h) hwins)
  have HbV := Lib.hid hbV
  obtain ⟨⟨x0, x1, x2, x3⟩, y0, y1, y2, y3, y4, y5⟩ := HX.out V (Below.refl _ _)
  clear hbV
  go_enter Try.func22, Try.ntmps22
  by_cases e1 : fitErr l b i m dl db di dp df es n = 0
  case neg =>
    have Hv := Lib.hid (show avgV l b i m dl db di dp df es n = .agg #[.bool false, .string ⟨#[]⟩, .bool false, .string ⟨#[]⟩] by unfold avgV; rw [if_neg e1])
    have e1' : (fitErr l b i m dl db di dp df es n != 0) = true := by simpa using e1
    clear e1
    go_wp2_with (go_at_call 46; refine (HCk.out _ HbV.out).mono ?_; rintro e W1 ⟨rfl, hb⟩; have hz := (hb.block (g + 2) (by omega)).trans hrz; have z0 := cell_of_obj hz 0; have z1 := cell_of_obj hz 1; have z2 := cell_of_obj hz 2; have z3 := cell_of_obj hz 3; have f0 := frozen_of_obj hz 0; have f1 := frozen_of_obj hz 1; have f2 := frozen_of_obj hz 2; have f3 := frozen_of_obj hz 3; simp only [List.getElem?_toArray, List.getElem?_cons_succ, List.getElem?_cons_zero] at z0 z1 z2 z3; have Hb := Lib.hid (HbV.out.trans (hb.mono HbV.out.size)); clear hb hz)
    refine bodyPost_ret (v := .tuple #[.agg #[.bool false, .string ⟨#[]⟩, .bool false, .string ⟨#[]⟩], .int .i64 (fitErr l b i m dl db di dp df es n)]) ?_ rfl ⟨by rw [Hv.out], (((Hb.out.setCell (by simp; omega) _).setCell (by simp; omega) _).setCell (by simp; omega) _).setCell (by simp; omega) _⟩
    simp [results, Try.results22, go_sem, z0, z1, z2, z3]
  obtain ⟨he, hd, rfl, rfl, rfl, hn, hcnt⟩ := fit_ok e1
  obtain ⟨⟨l1, l2⟩, ⟨b1, b2⟩, ⟨i1, i2⟩, ⟨r1, r2⟩, hok, _⟩ := encCheck_ok he
  obtain ⟨N, rfl⟩ : ∃ N : Nat, n = N := ⟨n.toNat, by omega⟩
  obtain ⟨L, rfl⟩ : ∃ L : Nat, dl = L := ⟨dl.toNat, by omega⟩
  obtain ⟨B, rfl⟩ : ∃ B : Nat, db = B := ⟨db.toNat, by omega⟩
  obtain ⟨I, rfl⟩ : ∃ I : Nat, di = I := ⟨di.toNat, by omega⟩
  rw [Int.toNat_natCast, Int.toNat_natCast] at hok
  rw [Int.toNat_natCast] at hcnt
  have hcm := cntV_ok (I := I) (r := m.r) (n := N) (by omega) r2 hcnt
  have hdec : ∀ x ∈ wordsE m N, decErr (L : Int) (B : Int) (I : Int) dp df es x = 0 := fun x hx => (words_dec he hd (by omega) x hx).2
  obtain ⟨sm1, sm2⟩ := hsm e1
  obtain ⟨ps, hps⟩ : ∃ ps, rps (L : Int) (B : Int) (I : Int) m dp df es (N : Int) = ps := ⟨_, rfl⟩
  have hps2 : rpE (decOut (L : Int) (B : Int) (I : Int) dp df es) L (wordsE m N) = ps := by rw [← hps]; unfold rps; rw [Int.toNat_natCast, Int.toNat_natCast]
  rw [hps] at sm1 sm2
  have HAl := Lib.hid (fun (W : World) (h : Below w.heap.size w W) => all_any L B I m p c dp df es a ca N W (hA.below (Nat.le_refl _) h) hf (SlAt.mono hE (Nat.le_refl _) h) hwins he hd (by omega) hcm.1 ps hps2 sm1 sm2)
  have e1' : (fitErr (L : Int) (B : Int) (I : Int) m (L : Int) (B : Int) (I : Int) dp df es (N : Int) != 0) = false := by rw [e1]; rfl
  have Hv := Lib.hid (show avgV (L : Int) (B : Int) (I : Int) m (L : Int) (B : Int) (I : Int) dp df es (N : Int) = ratV (rloN (sumF ps : Int) ((max ps.length 1 : Nat) : Int)) (rloD (sumF ps : Int) ((max ps.length 1 : Nat) : Int)) by unfold avgV; rw [if_pos e1, hps])
  have HVz := Lib.hid hrz
  have E1 := Lib.hid e1
  clear hA hE hwins hdec he hd hok e1 hcnt hcm hps hps2 hsm hf
  go_wp2_with fail
  refine (HCk.out _ HbV.out).mono ?_; rintro e W1 ⟨rfl, hb⟩
  have HB1 := Lib.hid hb
  have Hw1 := Lib.hid (HbV.out.trans (hb.mono HbV.out.size))
  have Hr1 := Lib.hid ((hb.block (g + 2) (by omega)).trans HVz.out)
  clear hb hrz x0 x1 x2 x3 y0 y1 y2 y3 y4 y5 HCk
  obtain ⟨⟨x0, x1, x2, x3⟩, y0, y1, y2, y3, y4, y5⟩ := HX.out _ HB1.out
  go_wp2_with fail
  refine (HAl.out _ Hw1.out).mono ?_; rintro e W2 ⟨rfl, hb⟩
  have Hw2 := Lib.hid (Hw1.out.trans (hb.mono Hw1.out.size))
  have hs9 : V.heap.size ≤ W1.heap.size := HB1.out.size
  have Hr2 := Lib.hid ((hb.block (g + 2) (by omega)).trans Hr1.out)
  obtain ⟨gc, hgc⟩ : ∃ k, g + 2 = k := ⟨_, rfl⟩
  rw [show g + 1 + 1 = gc from hgc]
  have lew : w.heap.size ≤ gc := by omega
  rw [hgc] at Hr2
  have hg2 : gc < W2.heap.size := (Array.getElem?_eq_some_iff.1 Hr2.out).1
  clear hb HAl hgc
  obtain ⟨S, hS⟩ : ∃ S, sumF ps = S := ⟨_, rfl⟩
  obtain ⟨T, hT⟩ : ∃ T, ps.length = T := ⟨_, rfl⟩
  obtain ⟨s, hs⟩ : ∃ s, wsF ps = s := ⟨_, rfl⟩
  rw [hs, hS, hT]
  by_cases h0 : ps.length = 0
  · have hS0 : S = 0 := by rw [← hS, List.length_eq_zero_iff.1 h0]; rfl
    have hT0 : ((T : Int) == 0) = true := by rw [← hT, h0]; rfl
    have Hv2 := Lib.hid (show avgV (L : Int) (B : Int) (I : Int) m (L : Int) (B : Int) (I : Int) dp df es (N : Int) = ratV (rloN ((0 : Nat) : Int) ((1 : Nat) : Int)) (rloD ((0 : Nat) : Int) ((1 : Nat) : Int)) by
      rw [Hv.out, h0, hS, hS0]; rfl)
    have HRt := Lib.hid (fun W => refRatioQ_any 0 1 (by omega) (by omega) (by omega) W)
    clear hs hS hT h0 hS0
    go_wp2_with fail
    refine (HRt.out _).mono ?_
    rintro e W9 ⟨rfl, hb9⟩
    have hr9 := (hb9.block gc (by omega)).trans Hr2.out
    have HB4 : Hid (Box4 W9 gc (.bool false) (.string ⟨#[]⟩) (.bool false) (.string ⟨#[]⟩)) := Lib.hid ⟨cell_of_obj hr9 0, cell_of_obj hr9 1, cell_of_obj hr9 2, cell_of_obj hr9 3, fun j => frozen_of_obj hr9 j, (Array.getElem?_eq_some_iff.1 hr9).1⟩
    have Hb9 := Lib.hid (Hw2.out.trans (hb9.mono Hw2.out.size))
    unfold ratV
    obtain ⟨CP, hCP⟩ : ∃ z, canon (rloN ((0 : Nat) : Int) ((1 : Nat) : Int)) = z := ⟨_, rfl⟩
    obtain ⟨CQ, hCQ⟩ : ∃ z, canon (rloD ((0 : Nat) : Int) ((1 : Nat) : Int)) = z := ⟨_, rfl⟩
    have Hv3 : Hid (avgV (L : Int) (B : Int) (I : Int) m (L : Int) (B : Int) (I : Int) dp df es (N : Int) = .agg #[.bool CP.neg, .string CP.mag, .bool CQ.neg, .string CQ.mag]) := Lib.hid (by rw [Hv2.out, ← hCP, ← hCQ]; rfl)
    rw [hCP, hCQ]
    clear hCP hCQ HRt hb9 hr9
    obtain ⟨c0, c1, c2, c3, c4, _⟩ := HB4.out
    have f0 := c4 0
    have f1 := c4 1
    have f2 := c4 2
    have f3 := c4 3
    clear c4
    go_wp2_with fail
    refine bodyPost_ret (v := .tuple #[.agg #[.bool CP.neg, .string CP.mag, .bool CQ.neg, .string CQ.mag], .int .i64 0]) ?_ rfl ⟨by rw [Hv3.out, E1.out], (((Hb9.out.setCell (p := ⟨gc, 0, none⟩) lew (.bool CP.neg)).setCell (p := ⟨gc, 1, none⟩) lew (.string CP.mag)).setCell (p := ⟨gc, 2, none⟩) lew (.bool CQ.neg)).setCell (p := ⟨gc, 3, none⟩) lew (.string CQ.mag)⟩
    simp [results, Try.results22, go_sem, c0, c1, c2, c3]
  · have hT0 : ((T : Int) == 0) = false := by rw [← hT, beq_eq_false_iff_ne]; omega
    have Hv2 := Lib.hid (show avgV (L : Int) (B : Int) (I : Int) m (L : Int) (B : Int) (I : Int) dp df es (N : Int) = ratV (rloN (S : Int) (T : Int)) (rloD (S : Int) (T : Int)) by
      rw [Hv.out, show max ps.length 1 = T from by rw [← hT]; omega, hS])
    have HRt := Lib.hid (fun W => refRatioQ_any S T (by omega) (by omega) (by omega) W)
    clear hs hS hT h0
    go_wp2_with fail
    refine (HRt.out _).mono ?_
    rintro e W9 ⟨rfl, hb9⟩
    have hr9 := (hb9.block gc (by omega)).trans Hr2.out
    have HB4 : Hid (Box4 W9 gc (.bool false) (.string ⟨#[]⟩) (.bool false) (.string ⟨#[]⟩)) := Lib.hid ⟨cell_of_obj hr9 0, cell_of_obj hr9 1, cell_of_obj hr9 2, cell_of_obj hr9 3, fun j => frozen_of_obj hr9 j, (Array.getElem?_eq_some_iff.1 hr9).1⟩
    have Hb9 := Lib.hid (Hw2.out.trans (hb9.mono Hw2.out.size))
    unfold ratV
    obtain ⟨CP, hCP⟩ : ∃ z, canon (rloN (S : Int) (T : Int)) = z := ⟨_, rfl⟩
    obtain ⟨CQ, hCQ⟩ : ∃ z, canon (rloD (S : Int) (T : Int)) = z := ⟨_, rfl⟩
    have Hv3 : Hid (avgV (L : Int) (B : Int) (I : Int) m (L : Int) (B : Int) (I : Int) dp df es (N : Int) = .agg #[.bool CP.neg, .string CP.mag, .bool CQ.neg, .string CQ.mag]) := Lib.hid (by rw [Hv2.out, ← hCP, ← hCQ]; rfl)
    rw [hCP, hCQ]
    clear hCP hCQ HRt hb9 hr9
    obtain ⟨c0, c1, c2, c3, c4, _⟩ := HB4.out
    have f0 := c4 0
    have f1 := c4 1
    have f2 := c4 2
    have f3 := c4 3
    clear c4
    go_wp2_with fail
    refine bodyPost_ret (v := .tuple #[.agg #[.bool CP.neg, .string CP.mag, .bool CQ.neg, .string CQ.mag], .int .i64 0]) ?_ rfl ⟨by rw [Hv3.out, E1.out], (((Hb9.out.setCell (p := ⟨gc, 0, none⟩) lew (.bool CP.neg)).setCell (p := ⟨gc, 1, none⟩) lew (.string CP.mag)).setCell (p := ⟨gc, 2, none⟩) lew (.bool CQ.neg)).setCell (p := ⟨gc, 3, none⟩) lew (.string CQ.mag)⟩
    simp [results, Try.results22, go_sem, c0, c1, c2, c3]
end Go.Proofs.Ytcafeffgaokiaaa
