/- Why there are no written words of n blocks: propagation.check, grooveref28.count, fits, Many. -/
import Derived.Test.YtcafeffgaokiaaaK17
import Derived.Test.YtcafeffgaokiaaaK2
import Derived.Test.YtcafeffgaokiaaaK7
namespace Go.Proofs.Ytcafeffgaokiaaa
open Go.RowKit
theorem cntV_hit {i : Int} {n k : Nat} {v u : Int} (hk : k < n) (hu : wrap64 (v * i) = u) (h : 4096 < u) : cntV i (n - k) v = 4097 := by
  rw [show n - k = (n - (k + 1)) + 1 from by omega, cntV, hu, if_pos h]
theorem cntV_miss {i : Int} {n k : Nat} {v u : Int} (hk : k < n) (hu : wrap64 (v * i) = u) (h : ¬ 4096 < u) : cntV i (n - k) v = cntV i (n - (k + 1)) u := by
  rw [show n - k = (n - (k + 1)) + 1 from by omega, cntV, hu, if_neg h]
set_option maxRecDepth 100000 in
set_option maxHeartbeats 8000000 in
theorem pcheck_any (l b i : Int) (m : EM) (p : Option Addr) (c : Nat) (dl db di dp df : Int) (es : List Ent) (a : Option Addr) (ca : Nat) (n : Int) (w : World) (hA : m.At w p) (hf : m.Fit) (hE : EntsAt w a es) (hwins : WinsFit es) :
    Calls Try.prog 44 #[.agg #[.int .i64 l, .int .i64 b, .int .i64 i, .slice p m.r c], .agg #[.int .i64 dl, .int .i64 db, .int .i64 di, .int .i64 dp, .int .i64 df, .slice a es.length ca], .int .i64 n] w fun e w' => e = .returned (.int .i64 (fitErr l b i m dl db di dp df es n)) ∧ Below w.heap.size w w' := by
  obtain ⟨V, hV⟩ : ∃ V, ((w.alloc (.cells #[.int .i64 l, .int .i64 b, .int .i64 i, .slice p m.r c] 24)).alloc (.cells #[.int .i64 dl, .int .i64 db, .int .i64 di, .int .i64 dp, .int .i64 df, .slice a es.length ca] 30)) = V := ⟨_, rfl⟩
  have hbV : Below w.heap.size w V := by rw [← hV]; exact ((Below.refl w.heap.size w).alloc (Nat.le_refl _) _).alloc (by simp) _
  obtain ⟨g, hg⟩ : ∃ g, w.heap.size = g := ⟨_, rfl⟩
  have hsV : V.heap.size = g + 2 := by rw [← hV]; simp [hg]
  have x0 : V.cell? ⟨g, 0, none⟩ = some (.int .i64 l) ∧ V.cell? ⟨g, 1, none⟩ = some (.int .i64 b) ∧ V.cell? ⟨g, 2, none⟩ = some (.int .i64 i) ∧ V.cell? ⟨g, 3, none⟩ = some (.slice p m.r c) := by
    rw [← hV, ← hg]; refine ⟨?_, ?_, ?_, ?_⟩ <;> simp
  have y0 : V.cell? ⟨g + 1, 0, none⟩ = some (.int .i64 dl) ∧ V.cell? ⟨g + 1, 1, none⟩ = some (.int .i64 db) ∧ V.cell? ⟨g + 1, 2, none⟩ = some (.int .i64 di) ∧ V.cell? ⟨g + 1, 3, none⟩ = some (.int .i64 dp) ∧ V.cell? ⟨g + 1, 4, none⟩ = some (.int .i64 df) ∧ V.cell? ⟨g + 1, 5, none⟩ = some (.slice a es.length ca) := by
    rw [← hV, ← hg]; refine ⟨?_, ?_, ?_, ?_, ?_, ?_⟩ <;> simp
  have HX := Lib.hid (fun (W : World) (h : Below V.heap.size V W) => show (W.cell? ⟨g, 0, none⟩ = some (.int .i64 l) ∧ W.cell? ⟨g, 1, none⟩ = some (.int .i64 b) ∧ W.cell? ⟨g, 2, none⟩ = some (.int .i64 i) ∧ W.cell? ⟨g, 3, none⟩ = some (.slice p m.r c)) ∧ W.cell? ⟨g + 1, 0, none⟩ = some (.int .i64 dl) ∧ W.cell? ⟨g + 1, 1, none⟩ = some (.int .i64 db) ∧ W.cell? ⟨g + 1, 2, none⟩ = some (.int .i64 di) ∧ W.cell? ⟨g + 1, 3, none⟩ = some (.int .i64 dp) ∧ W.cell? ⟨g + 1, 4, none⟩ = some (.int .i64 df) ∧ W.cell? ⟨g + 1, 5, none⟩ = some (.slice a es.length ca) from
    ⟨⟨(h.cell (by simp; omega)).trans x0.1, (h.cell (by simp; omega)).trans x0.2.1, (h.cell (by simp; omega)).trans x0.2.2.1, (h.cell (by simp; omega)).trans x0.2.2.2⟩,
      (h.cell (by simp; omega)).trans y0.1, (h.cell (by simp; omega)).trans y0.2.1, (h.cell (by simp; omega)).trans y0.2.2.1, (h.cell (by simp; omega)).trans y0.2.2.2.1, (h.cell (by simp; omega)).trans y0.2.2.2.2.1, (h.cell (by simp; omega)).trans y0.2.2.2.2.2⟩)
  have HC1 := Lib.hid (fun (W : World) (h : Below w.heap.size w W) => encCheck_any l b i m p c W (hA.below (Nat.le_refl _) h) hf)
  have HC2 := Lib.hid (fun (W : World) (h : Below w.heap.size w W) => winCheck_any dl db di dp df es a ca W (SlAt.mono hE (Nat.le_refl _) h) hwins)
  have HbV := Lib.hid hbV
  obtain ⟨⟨x0, x1, x2, x3⟩, y0, y1, y2, y3, y4, y5⟩ := HX.out V (Below.refl _ _)
  clear hA hE hf hwins hbV
  go_enter Try.func44, Try.ntmps44
  go_upto_region 1 with (fail)
  have HV := Lib.hid hV
  clear hV
  by_cases e1 : encCheck l b i m = 0
  case neg =>
    have Hv := Lib.hid (show fitErr l b i m dl db di dp df es n = 1 by unfold fitErr; rw [if_pos (.inl e1)])
    have e1' : (encCheck l b i m != 0) = true := by simpa using e1
    clear e1
    go_wp2_with (go_at_call 29; refine (HC1.out _ HbV.out).mono ?_; rintro e W1 ⟨rfl, hb⟩; have Hb := Lib.hid (HbV.out.trans (hb.mono HbV.out.size)); clear hb)
    go_ret
    exact ⟨ret_int Hv.out.symm, Hb.out⟩
  have e1' : (encCheck l b i m != 0) = false := by simpa using e1
  have E1 := Lib.hid e1
  clear e1
  by_cases e2 : decCheck dl db di dp df es = 0
  case neg =>
    have Hv := Lib.hid (show fitErr l b i m dl db di dp df es n = 1 by unfold fitErr; rw [if_pos (.inr e2)])
    have e2' : (decCheck dl db di dp df es != 0) = true := by simpa using e2
    clear e2
    go_wp2_with fail
    refine (HC1.out _ HbV.out).mono ?_; rintro e W1 ⟨rfl, hb⟩
    obtain ⟨⟨z0, z1, z2, z3⟩, u0, u1, u2, u3, u4, u5⟩ := HX.out _ hb
    have Hb := Lib.hid (HbV.out.trans (hb.mono HbV.out.size))
    have HbX := Lib.hid hb
    clear hb
    go_wp2_with fail
    refine (HC2.out _ Hb.out).mono ?_; rintro e W2 ⟨rfl, hb⟩
    have Hb2 := Lib.hid (Hb.out.trans (hb.mono Hb.out.size))
    clear hb
    go_wp2
    go_ret
    exact ⟨ret_int Hv.out.symm, Hb2.out⟩
  have e2' : (decCheck dl db di dp df es != 0) = false := by simpa using e2
  have hv : fitErr l b i m dl db di dp df es n = if l ≠ dl ∨ b ≠ db ∨ i ≠ di then 11 else if n < 1 ∨ 16 < n then 2 else if 4096 < cntV i n.toNat (m.r : Int) then 4 else 0 := by
    unfold fitErr; rw [if_neg (fun h => h.elim (fun h => h E1.out) (fun h => h e2))]
  have Hv := Lib.hid hv
  clear hv e2
  go_wp2_with fail
  refine (HC1.out _ HbV.out).mono ?_; rintro e W1 ⟨rfl, hb⟩
  obtain ⟨⟨z0, z1, z2, z3⟩, u0, u1, u2, u3, u4, u5⟩ := HX.out _ hb
  have Hb := Lib.hid (HbV.out.trans (hb.mono HbV.out.size))
  have HbX := Lib.hid hb
  clear hb
  go_wp2_with fail
  refine (HC2.out _ Hb.out).mono ?_; rintro e W2 ⟨rfl, hb⟩
  have HbX2 := Lib.hid (HbX.out.trans (hb.mono HbX.out.size))
  clear x0 x1 x2 x3 y0 y1 y2 y3 y4 y5 z0 z1 z2 z3 u0 u1 u2 u3 u4 u5
  obtain ⟨⟨x0, x1, x2, x3⟩, y0, y1, y2, y3, y4, y5⟩ := HX.out _ HbX2.out
  have Hb2 := Lib.hid (Hb.out.trans (hb.mono Hb.out.size))
  clear hb HbX Hb HC1 HC2
  by_cases e3 : l ≠ dl ∨ b ≠ db ∨ i ≠ di
  · have Hv2 := Lib.hid (show fitErr l b i m dl db di dp df es n = 11 by rw [Hv.out, if_pos e3])
    by_cases m1 : l = dl
    · have m1' : (l != dl) = false := by simpa using m1
      by_cases m2 : b = db
      · have m2' : (b != db) = false := by simpa using m2
        have m3' : (i != di) = true := by
          rcases e3 with h | h | h
          · exact absurd m1 h
          · exact absurd m2 h
          · simpa using h
        clear e3 m1 m2
        go_wp2
        go_ret
        exact ⟨ret_int Hv2.out.symm, Hb2.out⟩
      · have m2' : (b != db) = true := by simpa using m2
        clear e3 m1 m2
        go_wp2
        go_ret
        exact ⟨ret_int Hv2.out.symm, Hb2.out⟩
    · have m1' : (l != dl) = true := by simpa using m1
      clear e3 m1
      go_wp2
      go_ret
      exact ⟨ret_int Hv2.out.symm, Hb2.out⟩
  have m1' : (l != dl) = false := by simp only [ne_eq, not_or, Classical.not_not] at e3; simpa using e3.1
  have m2' : (b != db) = false := by simp only [ne_eq, not_or, Classical.not_not] at e3; simpa using e3.2.1
  have m3' : (i != di) = false := by simp only [ne_eq, not_or, Classical.not_not] at e3; simpa using e3.2.2
  by_cases e4 : n < 1 ∨ 16 < n
  · have Hv2 := Lib.hid (show fitErr l b i m dl db di dp df es n = 2 by rw [Hv.out, if_neg e3, if_pos e4])
    clear e3
    by_cases q1 : n < 1
    · clear e4
      go_wp2
      go_ret
      exact ⟨ret_int Hv2.out.symm, Hb2.out⟩
    · have q2 : 16 < n := by omega
      clear e4
      go_wp2
      go_ret
      exact ⟨ret_int Hv2.out.symm, Hb2.out⟩
  have q1 : ¬ n < 1 := by omega
  have q2 : ¬ 16 < n := by omega
  have Hv2 := Lib.hid (show fitErr l b i m dl db di dp df es n = if 4096 < cntV i n.toNat (m.r : Int) then 4 else 0 by rw [Hv.out, if_neg e3, if_neg e4])
  obtain ⟨N, hN⟩ : ∃ N : Nat, n = N := ⟨n.toNat, by omega⟩
  subst hN
  rw [Int.toNat_natCast] at Hv2
  have hN : N ≤ 16 := by omega
  clear e3 e4 Hv
  go_wp2
  go_loopw [7, 48] (fun ov kv wr => ∃ (k : Nat) (v : Int), k ≤ N ∧ ov = .int .i64 v ∧ kv = .int .i64 (k : Nat) ∧ Below V.heap.size V wr ∧ Hid (cntV i (N - k) v = cntV i N (m.r : Int)) ∧ v ≤ 4096) (fun _ kv _ => N - (intOf kv).toNat)
  case atStart => exact ⟨0, _, by omega, rfl, rfl, HbX2.out, Lib.hid rfl, by have := (encCheck_ok E1.out).2.2.2.1; omega⟩
  case round =>
    obtain ⟨k, v, hk, rfl, rfl, hb, hr, hv4⟩ := hrel
    clear x0 x1 x2 x3 y0 y1 y2 y3 y4 y5
    obtain ⟨⟨x0, x1, x2, x3⟩, y0, y1, y2, y3, y4, y5⟩ := HX.out _ hb
    have Hb := Lib.hid hb
    have Hbw := Lib.hid (HbV.out.trans (hb.mono HbV.out.size))
    clear hb
    by_cases hlt : k < N
    · have k1 : (k : Int) < (N : Int) := by omega
      obtain ⟨u, hu⟩ : ∃ u, wrap64 (v * i) = u := ⟨_, rfl⟩
      have hu2 : IntKind.i64.wrap (v * i) = u := (IntWalk.i64_left _).trans hu
      by_cases h4 : 4096 < u
      · have Hv3 := Lib.hid (show fitErr l b i m dl db di dp df es (N : Int) = 4 by rw [Hv2.out, ← hr.out, cntV_hit hlt hu h4]; rfl)
        go_wp2
        go_ret
        exact ⟨ret_int Hv3.out.symm, by first | exact Hbw.out | (rw [← hg]; exact Hbw.out)⟩
      · have Hv3 := Lib.hid (cntV_miss hlt hu h4)
        have h5 : u ≤ 4096 := by omega
        go_wp2
        go_roundw
        case rel => exact ⟨k + 1, u, by omega, rfl, by go_num, Hb.out, Lib.hid (by rw [← Hv3.out]; exact hr.out), h5⟩
        case measure => simp [intOf]; omega
    · have k1 : ¬ (k : Int) < (N : Int) := by omega
      have hke : k = N := by omega
      have Hv3 := Lib.hid (show fitErr l b i m dl db di dp df es (N : Int) = 0 by rw [Hv2.out, ← hr.out, hke, Nat.sub_self]; exact if_neg (by show ¬ 4096 < v; omega))
      clear hke
      go_wp2
      go_ret
      exact ⟨ret_int Hv3.out.symm, by first | exact Hbw.out | (rw [← hg]; exact Hbw.out)⟩
end Go.Proofs.Ytcafeffgaokiaaa
