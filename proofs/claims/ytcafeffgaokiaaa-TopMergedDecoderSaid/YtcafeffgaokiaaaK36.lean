/- window.Covers, where all windows are found. -/
import Derived.Test.YtcafeffgaokiaaaK32
namespace Go.Proofs.Ytcafeffgaokiaaa
open Go.RowKit Go.Maps Go.Lib Go.Sort
attribute [local go_sem] Oper.semAt_some wideF
def boolO (v : Bool) : Obj := .cells #[.bool v] 4 (0, 0)
theorem cell_boolO {W : World} {g : Nat} {v : Bool} (h : W.heap[g]? = some (boolO v)) : W.cell? ⟨g, 0, none⟩ = some (.bool v) ∧ W.frozen? ⟨g, 0, none⟩ = false := by
  unfold boolO at h
  refine ⟨?_, ?_⟩ <;> simp [World.cell?, World.frozen?, h]
theorem load_boolO {W : World} {g : Nat} {v : Bool} (h : W.heap[g]? = some (boolO v)) : (loadVar 4 ⟨g, 0, none⟩).run Try.prog W = .ok (.bool v) W := by
  have hc := (cell_boolO h).1
  have hagg : (isAgg 4).run Try.prog W = .ok false W := by
    unfold isAgg
    rw [Sem.run_bind, run_underlying Try.underlying4 W]
    rfl
  simp [loadVar, Sem.run_bind, hagg, hc, go_sem]
/-- Both results of window.Covers are stored. -/
theorem put_cov {W : World} {g : Nat} {b0 : Bool} {e0 : Int} (h1 : W.heap[g]? = some (boolO b0)) (h2 : W.heap[g + 1]? = some (errO e0)) (b : Bool) (e : Int) (X : World)
    (hX : X = (W.setCell ⟨g, 0, none⟩ (.bool b)).setCell ⟨g + 1, 0, none⟩ (.int .i64 e)) :
    X.heap[g]? = some (boolO b) ∧ X.heap[g + 1]? = some (errO e) ∧ (∀ k, k ≠ g → k ≠ g + 1 → X.heap[k]? = W.heap[k]?) ∧ ∀ (B : Nat) (w : World), B ≤ g → Below B w W → Below B w X := by
  unfold boolO at h1
  unfold errO at h2
  have hs : ∀ (Y : World) (q j k : Nat) (u : Value), k ≠ q → (Y.setCell ⟨q, j, none⟩ u).heap[k]? = Y.heap[k]? := fun Y q j k u hk => Below.heap_setCell Y ⟨q, j, none⟩ u k hk
  subst hX
  refine ⟨?_, ?_, fun k k1 k2 => ?_, fun B w hB hb => ?_⟩
  · rw [hs _ _ _ _ _ (by omega), set_cells h1 0 (.bool b)]
    simp [boolO]
  · refine (set_cells (cs := #[.int .i64 e0]) (t := 31) ?_ 0 (.int .i64 e)).trans ?_
    · rw [hs _ _ _ _ _ (by omega)]
      exact h2
    · simp [errO]
  · rw [hs _ _ _ _ _ k2, hs _ _ _ _ _ k1]
  · exact (hb.setCell (p := ⟨g, 0, none⟩) hB _).setCell (p := ⟨g + 1, 0, none⟩) (Nat.le_succ_of_le hB) _
theorem covers_results {W : World} {g1 g2 : Nat} {v : Bool} {e : Int} (h1 : W.heap[g1]? = some (boolO v)) (h2 : W.heap[g2]? = some (errO e)) (tmps : Array Value) (hp : tmps.getD 4 undef = .pointer (some ⟨g1, 0, none⟩)) (hq : tmps.getD 5 undef = .pointer (some ⟨g2, 0, none⟩)) :
    (results Try.f28 tmps).run Try.prog W = .ok (.tuple #[.bool v, .int .i64 e]) W :=
  results2_run rfl tmps _ W _ _ _ _ hp hq (load_boolO h1) (load_errno h2)
theorem alloc4 (w : World) (A B C D : Obj) : ((((w.alloc A).alloc B).alloc C).alloc D).heap[w.heap.size]? = some A ∧ ((((w.alloc A).alloc B).alloc C).alloc D).heap[w.heap.size + 1]? = some B ∧ ((((w.alloc A).alloc B).alloc C).alloc D).heap[w.heap.size + 1 + 1]? = some C ∧ ((((w.alloc A).alloc B).alloc C).alloc D).heap[w.heap.size + 1 + 1 + 1]? = some D ∧ ((((w.alloc A).alloc B).alloc C).alloc D).heap.size = w.heap.size + 1 + 1 + 1 + 1 := by
  obtain ⟨a1, a2, a3, a4⟩ := alloc3 (w.alloc A) B C D
  rw [World.size_alloc w] at a1 a2 a3 a4
  refine ⟨?_, a1, a2, a3, a4⟩
  have hb : Below (w.alloc A).heap.size (w.alloc A) ((((w.alloc A).alloc B).alloc C).alloc D) := (((Below.refl _ _).alloc (Nat.le_refl _) _).alloc (by simp) _).alloc (by first | (simp; done) | (simp; omega)) _
  exact (hb.block _ (by simp)).trans (World.alloc_heap_new w A)
/-- What the loop leaves as it is. -/
def CvB (w : World) (g S : Nat) (E : Obj) (W : World) : Prop :=
  W.heap[g]? = some E ∧ W.heap[g + 1 + 1]? = some (boolO false) ∧ W.heap[g + 1 + 1 + 1]? = some (errO 0) ∧ Below w.heap.size w W ∧ S ≤ W.heap.size
theorem CvB.turn {w : World} {g S C : Nat} {E : Obj} {A B : World} {row : Option Nat} (hR : CvB w g S E A) (hg : A.grownBy B row) (hr : ∀ r, row = some r → TurnT C (fun _ _ => False) r A) (h1 : g + 1 + 1 + 1 < C) (h2 : w.heap.size ≤ C) : CvB w g S E B :=
  ⟨turn_block hg hr (by omega) hR.1, turn_block hg hr (by omega) hR.2.1, turn_block hg hr h1 hR.2.2.1, turn_below hR.2.2.2.1 hR.2.2.2.1.size hg hr h2, Nat.le_trans hR.2.2.2.2 hg.size⟩
theorem CvB.below {w : World} {g S : Nat} {E : Obj} {A B : World} (hR : CvB w g S E A) (hb : Below A.heap.size A B) : CvB w g S E B :=
  have hk : ∀ k o, A.heap[k]? = some o → B.heap[k]? = some o := fun k o ho => (hb.block k (Array.getElem?_eq_some_iff.1 ho).1).trans ho
  ⟨hk _ _ hR.1, hk _ _ hR.2.1, hk _ _ hR.2.2.1, hR.2.2.2.1.trans (hb.mono hR.2.2.2.1.size), Nat.le_trans hR.2.2.2.2 hb.size⟩
set_option maxRecDepth 100000 in
set_option maxHeartbeats 8000000 in
theorem covers_aux (l : Int) (B I : Nat) (es : List Ent) (a : Option Addr) (ca : Nat) (m : EM) (p : Option Addr) (c P F P1 N : Nat) (w : World) (hA : m.At w p) (hf : m.Fit) (hE : EntsAt w a es) (hwins : WinsFit es) (he : encCheck l (B : Int) (I : Int) m = 0) (hd : decCheck l (B : Int) (I : Int) (P : Int) (F : Int) es = 0) (hB : B ≤ 16) (hI1 : 1 ≤ I) (hI : I ≤ 256) (r2 : m.r ≤ 64) (hok : m.Ok I B) (hes : es.length ≤ 65536) (hPN : P < N) (hNle : N ≤ 16)
    (r3 : wrap64 ((P : Int) + 1) = (P1 : Int)) (r4 : IntKind.i64.wrap ((P : Int) + 1) = (P1 : Int)) (r5 : wrap64 ((P1 : Int) + (F : Int)) = (N : Int)) (r6 : IntKind.i64.wrap ((P1 : Int) + (F : Int)) = (N : Int)) (EN : Hid (P + 1 + F = N))
    (hmany : manyP m.r I N = false) (hall : ∀ x ∈ pathE m P N, findE es x.1 = ((x.2 : Int), true)) :
    Calls Try.prog 28 #[.agg #[.int .i64 l, .int .i64 (B : Int), .int .i64 (I : Int), .int .i64 (P : Int), .int .i64 (F : Int), .slice a es.length ca], .agg #[.int .i64 l, .int .i64 (B : Int), .int .i64 (I : Int), .slice p m.r c]] w fun e w' => e = .returned (.tuple #[.bool true, .int .i64 0]) ∧ Below w.heap.size w w' := by
  have R3 := Lib.hid r3
  have R4 := Lib.hid r4
  have R5 := Lib.hid r5
  have R6 := Lib.hid r6
  clear r3 r4 r5 r6
  obtain ⟨V, hV⟩ : ∃ V, (((w.alloc (decO l (B : Int) (I : Int) (P : Int) (F : Int) (.slice a es.length ca))).alloc (encO l (B : Int) (I : Int) p m.r c)).alloc (boolO false)).alloc (errO 0) = V := ⟨_, rfl⟩
  have hbV : Below w.heap.size w V := by rw [← hV]; exact ((((Below.refl w.heap.size w).alloc (Nat.le_refl _) _).alloc (by simp) _).alloc (by simp; omega) _).alloc (by simp; omega) _
  obtain ⟨g, hg⟩ : ∃ g, w.heap.size = g := ⟨_, rfl⟩
  obtain ⟨o0, o1, o2, o3, hsV⟩ := alloc4 w (decO l (B : Int) (I : Int) (P : Int) (F : Int) (.slice a es.length ca)) (encO l (B : Int) (I : Int) p m.r c) (boolO false) (errO 0)
  rw [hV, hg] at o0 o1 o2 o3 hsV
  have HO := Lib.hid (fun (W : World) (h : Below V.heap.size V W) => show W.heap[g]? = some (decO l (B : Int) (I : Int) (P : Int) (F : Int) (.slice a es.length ca)) ∧ W.heap[g + 1]? = some (encO l (B : Int) (I : Int) p m.r c) ∧ W.heap[g + 1 + 1]? = some (boolO false) ∧ W.heap[g + 1 + 1 + 1]? = some (errO 0) from
    ⟨(h.block _ (by omega)).trans o0, (h.block _ (by omega)).trans o1, (h.block _ (by omega)).trans o2, (h.block _ (by omega)).trans o3⟩)
  obtain ⟨⟨z0, z1, z2, z3, z4, z5⟩, _, _, _, _, _, _⟩ := cells_decO o0
  obtain ⟨x0, x1, x2, x3⟩ := cells_encO o1
  clear o0 o1 o2 o3
  unfold encO decO errO boolO at hV
  have HC := Lib.hid (fun (W : World) (h : Below w.heap.size w W) => encCheck_any l (B : Int) (I : Int) m p c W (hA.below (Nat.le_refl _) h) hf)
  have HD := Lib.hid (fun (W : World) (h : Below w.heap.size w W) => winCheck_any l (B : Int) (I : Int) (P : Int) (F : Int) es a ca W (SlAt.mono hE (Nat.le_refl _) h) hwins)
  have HFd := Lib.hid (fun (W : World) (h : Below w.heap.size w W) (s : ByteArray) => find_any l (B : Int) (I : Int) (P : Int) (F : Int) es a ca s W (SlAt.mono hE (Nat.le_refl _) h) hes)
  rw [he] at HC
  rw [hd] at HD
  have HCM := Lib.hid (fun (W : World) => manyW_any l (B : Int) I m p c N W (Nat.le_trans hNle (by decide)) hI1 hI r2)
  rw [hmany] at HCM
  refine calls_marks Try.func28 rfl ?_
  simp only [Try.ntmps28, List.size_toArray, List.length_cons, List.length_nil, Nat.reduceAdd, Nat.reduceSub, Array.replicate_succ, Array.replicate_zero, List.push_toArray, List.append_toArray, List.nil_append, List.cons_append]
  have HbV := Lib.hid hbV
  clear hbV he hd hmany hE hwins hes
  go_upto_region 1 with (fail)
  clear hV
  go_wp2_with fail
  refine (HD.out _ HbV.out).mono ?_; rintro e W1 ⟨rfl, hb⟩
  have HB1 := Lib.hid hb
  have HW1 := Lib.hid (HbV.out.trans (hb.mono HbV.out.size))
  clear hb x0 x1 x2 x3 z0 z1 z2 z3 z4 z5 HD
  obtain ⟨o0, o1, o2, o3⟩ := HO.out _ HB1.out
  obtain ⟨⟨z0, z1, z2, z3, z4, z5⟩, _, _, _, _, _, _⟩ := cells_decO o0
  obtain ⟨x0, x1, x2, x3⟩ := cells_encO o1
  clear o0 o1 o2 o3
  go_wp2_with fail
  refine (HC.out _ HW1.out).mono ?_; rintro e W2 ⟨rfl, hb⟩
  have HB2 := Lib.hid (HB1.out.trans (hb.mono HB1.out.size))
  have HW2 := Lib.hid (HW1.out.trans (hb.mono HW1.out.size))
  clear hb x0 x1 x2 x3 z0 z1 z2 z3 z4 z5 HC HB1 HW1
  obtain ⟨o0, o1, o2, o3⟩ := HO.out _ HB2.out
  obtain ⟨⟨z0, z1, z2, z3, z4, z5⟩, _, _, _, _, _, _⟩ := cells_decO o0
  obtain ⟨x0, x1, x2, x3⟩ := cells_encO o1
  have s1 : (l != l) = false := by simp
  have s2 : ((B : Int) != (B : Int)) = false := by simp
  have s3 : ((I : Int) != (I : Int)) = false := by simp
  clear o0 o1 o2 o3
  have r3 := R3.out
  have r4 := R4.out
  have r5 := R5.out
  have r6 := R6.out
  go_upto_region 5 with (fail)
  clear s1 s2 s3
  go_wp2_with fail
  clear r3 r4 r5 r6 R3 R4 R5 R6
  refine (HCM.out W2).mono ?_; rintro e W3 ⟨rfl, hb⟩
  have HB3 := Lib.hid (HB2.out.trans (hb.mono HB2.out.size))
  have HW3 := Lib.hid (HW2.out.trans (hb.mono HW2.out.size))
  clear hb x0 x1 x2 x3 z0 z1 z2 z3 z4 z5 HCM HB2 HW2
  obtain ⟨o0, o1, o2, o3⟩ := HO.out _ HB3.out
  obtain ⟨⟨z0, z1, z2, z3, z4, z5⟩, _, _, _, _, _, _⟩ := cells_decO o0
  obtain ⟨x0, x1, x2, x3⟩ := cells_encO o1
  have N0 := Lib.hid o0
  have N2 := Lib.hid o2
  have N3 := Lib.hid o3
  clear o0 o1 o2 o3
  go_upto_region 7 with (fail)
  go_wp2_with fail
  refine (paths_any l (B : Int) (I : Int) p m.r c (P : Int) (F : Int) W3).mono ?_
  rintro e W4 ⟨rfl, hw4⟩
  obtain ⟨h, hh⟩ : ∃ x, W3.heap.size = x := ⟨_, rfl⟩
  have hgh : g + 1 + 1 + 1 < h := by have := HB3.out.size; omega
  obtain ⟨hs4, hb4, hE4, hP4, hF4⟩ := paths_boxes W3 h hh l (B : Int) (I : Int) m p c (P : Int) (F : Int) _ _ _ W4 hw4
  rw [hh]
  dsimp only
  have HW4 := Lib.hid (HW3.out.trans (hb4.mono HW3.out.size))
  have hR4 : CvB w g W4.heap.size (decO l (B : Int) (I : Int) (P : Int) (F : Int) (.slice a es.length ca)) W4 := ⟨(hb4.block _ (by omega)).trans N0.out, (hb4.block _ (by omega)).trans N2.out, (hb4.block _ (by omega)).trans N3.out, HW4.out, Nat.le_refl _⟩
  have hgw : w.heap.size ≤ h := by omega
  have hsq := paths_seq w h h h (h + 1) (h + 1 + 1) hgw (.inr (by omega)) (.inr (by omega)) (.inr (by omega)) l (B : Int) (I : Int) m p c I B P F hA hok hI r2 (by rw [EN.out]; exact hNle) hB
  rw [EN.out] at hsq
  have HAll := Lib.hid hall
  clear hw4 hb4 N0 N2 N3 HB3 HW3 x0 x1 x2 x3 z0 z1 z2 z3 z4 z5 hh HbV HO hA hf hok hB hI1 hI r2 hsV hall
  go_wp2_with fail
  refine rangeW0 (gf := 84) (lb := #[.pointer (some ⟨h + 1, 0, none⟩), .pointer (some ⟨h + 1 + 1, 0, none⟩), .pointer (some ⟨h, 0, none⟩)]) rfl (enters_of Try.func84 (by kernel_rfl) rfl)
    (hsq.toX (Kx := fun _ _ => True)) (fun _ _ _ => trivial) (by rintro r X h; exact h.elim) (fun h k => h.trans k) (fun X o o' ho hc => KpH.put o' ho hc)
    (fun X hX _ => ⟨by have := hX.size; omega, Low.of_below (HW4.out.trans (hX.mono HW4.out.size)), hE4.kept (lo := h) (hi := h) (KpH.of_below hX) (.inr (by omega)), (KpH.of_below (lo := h) (hi := h) hX).cell hP4 (.inr (by show h ≤ h + 1; omega)), (KpH.of_below (lo := h) (hi := h) hX).cell hF4 (.inr (by show h ≤ h + 1 + 1; omega))⟩) (fun _ => rfl)
    (fun x s A B row h _ _ => h)
    (fun pre X => CvB w g W4.heap.size (decO l (B : Int) (I : Int) (P : Int) (F : Int) (.slice a es.length ca)) X)
    (fun _ _ _ => False)
    (fun s A B row hh hg hr => hh.turn hg hr (by omega) (by omega))
    (fun _ _ _ _ _ hh _ _ => hh)
    hR4 ?a1 ?assign ?body ?done ?stop
  case assign =>
    intro lp x X K hK
    dsimp only [encP]
    gi_wp2
    exact hK
  case stop =>
    intro D cd pre X _ hh _
    exact hh.elim
  case body =>
    rintro lp pre z X hR ⟨post, hpost⟩
    have hz := HAll.out z (by rw [← hpost]; simp)
    obtain ⟨⟨z0, z1, z2, z3, z4, z5⟩, _, _, _, _, _, _⟩ := cells_decO hR.1
    have HR := Lib.hid hR
    have HFx := Lib.hid (HFd.out X hR.2.2.2.1 z.1)
    rw [hz] at HFx
    clear hR hpost hz hsq
    have t1 : ((z.2 : Int) != (z.2 : Int)) = false := by simp
    gi_wp2
    refine ⟨rfl, CallsIn.mono (CallsIn.inRound lp (callsIn_wide.2 HFx.out)) ?_⟩
    rintro e X2 ⟨rfl, hb⟩
    have Hb := Lib.hid hb
    clear hb z0 z1 z2 z3 z4 z5
    gi_wp2
    exact ⟨keepsB Hb.out, KpH.of_below Hb.out, HR.out.below Hb.out⟩
  case done =>
    rintro D1 xs X hD1 rfl hR hK1
    have HK1 := Lib.hid hK1
    have HR := Lib.hid hR
    clear hK1 hR hsq
    obtain ⟨b0, bf⟩ := cell_boolO HR.out.2.1
    obtain ⟨u0, fu⟩ := cell_errO HR.out.2.2.1
    have HPf := Lib.hid (put_cov HR.out.2.1 HR.out.2.2.1 true 0 _ rfl)
    go_wp2
    refine ⟨by simp, .inl ⟨_, _, rfl, run_takeDeferred ((HPf.out.2.2.1 D1 (by omega) (by omega)).trans HK1.out), ?_⟩⟩
    refine ⟨_, covers_results (g1 := g + 1 + 1) (g2 := g + 1 + 1 + 1) ((World.putObj_heap_other (by omega)).trans HPf.out.1) ((World.putObj_heap_other (by omega)).trans HPf.out.2.1) _ rfl rfl, rfl, ?_⟩
    have h4 := HPf.out.2.2.2 w.heap.size w (by omega) HR.out.2.2.2.1
    exact ⟨h4.os, h4.tape, h4.output, by simpa using h4.size, fun b hb => by rw [World.putObj_heap_other (by omega)]; exact h4.block b hb⟩
/-- window.Covers, where all windows are found. -/
theorem covers_any (l b i : Int) (es : List Ent) (a : Option Addr) (ca : Nat) (m : EM) (p : Option Addr) (c P F N : Nat) (w : World) (hA : m.At w p) (hf : m.Fit) (hE : EntsAt w a es) (hwins : WinsFit es) (he : encCheck l b i m = 0) (hd : decCheck l b i (P : Int) (F : Int) es = 0) (hN : P + 1 + F = N) (hNle : N ≤ 16) (hmany : manyP m.r i.toNat N = false) (hall : ∀ x ∈ pathE m P N, findE es x.1 = ((x.2 : Int), true)) :
    Calls Try.prog 28 #[.agg #[.int .i64 l, .int .i64 b, .int .i64 i, .int .i64 (P : Int), .int .i64 (F : Int), .slice a es.length ca], .agg #[.int .i64 l, .int .i64 b, .int .i64 i, .slice p m.r c]] w fun e w' => e = .returned (.tuple #[.bool true, .int .i64 0]) ∧ Below w.heap.size w w' := by
  obtain ⟨⟨l1, l2⟩, ⟨b1, b2⟩, ⟨i1, i2⟩, ⟨r1, r2⟩, hok, hwd⟩ := encCheck_ok he
  obtain ⟨B, rfl⟩ : ∃ B : Nat, b = B := ⟨b.toNat, by omega⟩
  obtain ⟨I, rfl⟩ : ∃ I : Nat, i = I := ⟨i.toNat, by omega⟩
  rw [Int.toNat_natCast] at hmany
  rw [Int.toNat_natCast, Int.toNat_natCast] at hok
  have e1 : P + 1 ≤ 1000 := Nat.le_trans (show P + 1 ≤ 16 by omega) (by decide)
  have e2 : B ≤ 16 := by omega
  have e3 : 1 ≤ I := by omega
  have e4 : I ≤ 256 := by omega
  have e5 : P < N := by omega
  have e7 := (decCheck_ok hd).2.2
  exact covers_aux l B I es a ca m p c P F (P + 1) N w hA hf hE hwins he hd e2 e3 e4 r2 hok e7 e5 hNle (wrapN (P + 1) e1) ((IntWalk.i64_left _).trans (wrapN (P + 1) e1)) (sumN hN (Nat.le_trans hNle (by decide))) ((IntWalk.i64_left _).trans (sumN hN (Nat.le_trans hNle (by decide)))) (Lib.hid hN) hmany hall
end Go.Proofs.Ytcafeffgaokiaaa
