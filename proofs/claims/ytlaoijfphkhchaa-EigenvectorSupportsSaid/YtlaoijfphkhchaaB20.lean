/- Small functions of graphs: Great, Deterministic, top23Fine. -/
import Derived.Test.YtlaoijfphkhchaaB19
namespace Go.Proofs.Ytlaoijfphkhchaa
open Go.RowKit Go.Shelf

/-- A graph beyond the statements' sizes. -/
def gGreatB (S : Int) (n : Nat) : Bool := decide ((6 < S ∧ S ≤ 64) ∨ (30 < n ∧ n ≤ 1024) ∨ 1027 < n)
set_option maxRecDepth 100000 in
set_option maxHeartbeats 4000000 in
theorem gGreat_any (L S : Int) (n : Nat) (p : Option Addr) (c : Nat) (w : World) :
    Calls Try.prog 37 #[.agg #[.int .i64 L, .int .i64 S, .slice p n c]] w fun e w' => e = .returned (.bool (gGreatB S n)) ∧ Below w.heap.size w w' := by
  go_enter Try.func37, Try.ntmps37
  go_wp2
  all_goals (go_ret; refine ⟨?_, (Below.refl _ _).alloc (Nat.le_refl _) _⟩)
  all_goals (refine congrArg Ending.returned (congrArg Value.bool ?_); unfold gGreatB; rw [Bool.eq_iff_iff]; simp only [decide_eq_true_eq, Bool.or_eq_true]; first | omega | (simp only [Bool.false_eq_true, iff_false]; omega) | (simp; omega))
/-- No two edges of a state have the same label: what Deterministic finds. -/
def dStep (E : Nat → Nat → Int) (i : Nat) : Option Int := if E (i - 1) 0 = E i 0 ∧ E (i - 1) 1 = E i 1 then some 0 else none
def gDet (n : Nat) (E : Nat → Nat → Int) : Int := firstFrom (dStep E) 1 (n - 1) 1
set_option maxRecDepth 100000 in
set_option maxHeartbeats 4000000 in
theorem gdet_any (L S : Int) (n : Nat) (E : Nat → Nat → Int) (p : Option Addr) (c : Nat) (w : World) (hE : EdgAt w p n E) (hn : n < 1000000000000) :
    Calls Try.prog 101 #[.agg #[.int .i64 L, .int .i64 S, .slice p n c]] w fun e w' => e = .returned (.tuple #[.bool (decide (gChk L S n E = 0 ∧ gDet n E = 1)), .int .i64 (if gChk L S n E = 0 then 0 else 1)]) ∧ Below w.heap.size w w' := by
  have hE1 : EdgAt (w.alloc (.cells #[.int .i64 L, .int .i64 S, .slice p n c] 24)) p n E := hE.mono (Nat.le_refl _) ((Below.refl _ _).alloc (Nat.le_refl _) _)
  have HC := Lib.hid (gcheck_any L S n E p c _ hE1)
  have HB : Hid (∀ W, Below (w.alloc (.cells #[.int .i64 L, .int .i64 S, .slice p n c] 24)).heap.size (w.alloc (.cells #[.int .i64 L, .int .i64 S, .slice p n c] 24)) W → BoxAt3 W w.heap.size (.int .i64 L) (.int .i64 S) (.slice p n c) ∧ Below w.heap.size w W ∧ EdgAt W p n E) := Lib.hid (fun W hW => ⟨(BoxAt3.new w _ _ _ _).below hW, ((Below.refl _ _).alloc (Nat.le_refl _) _).trans (hW.mono (by simp)), hE1.mono (Nat.le_refl _) hW⟩)
  clear hE hE1
  by_cases h0 : gChk L S n E = 0
  rotate_left 1
  · rw [if_neg h0]
    have hd : decide (gChk L S n E = 0 ∧ gDet n E = 1) = false := decide_eq_false fun h => h0 h.1
    rw [hd]
    generalize gChk L S n E = v at *
    have e1 : (v != 0) = true := by rw [bne_iff_ne]; exact h0
    clear h0 hd
    go_enter Try.func101, Try.ntmps101
    go_wp2_with fail
    refine HC.out.mono ?_
    rintro e w2 ⟨rfl, hb⟩
    dsimp only
    have Hb := Lib.hid (HB.out _ hb).2.1
    clear hb HC HB
    go_wp2
    go_ret2
    exact ⟨rfl, Hb.out⟩
  rw [if_pos h0]
  rw [h0] at HC
  have hd : decide (gChk L S n E = 0 ∧ gDet n E = 1) = decide (gDet n E = 1) := by simp [h0]
  rw [hd]
  clear hd h0
  have HD : Hid (gDet n E = firstFrom (dStep E) 1 (n - 1) 1) := Lib.hid rfl
  generalize gDet n E = D at *
  go_enter Try.func101, Try.ntmps101
  go_wp2_with fail
  refine HC.out.mono ?_
  rintro e W1 ⟨rfl, hb⟩
  dsimp only
  obtain ⟨b1, b2, b3⟩ := HB.out _ hb
  have Hb1 := Lib.hid b1
  have Hb2 := Lib.hid b2
  have Hb3 := Lib.hid b3
  clear hb b1 b2 b3 HC HB
  obtain ⟨g0, hg0⟩ : ∃ g, w.heap.size = g := ⟨_, rfl⟩
  rw [hg0] at Hb1 ⊢
  have Hg0 := Lib.hid hg0
  clear hg0
  go_wp2_with fail
  go_loopw [4] (fun iv wr => ∃ k : Nat, 1 ≤ k ∧ (k ≤ n ∨ k = 1) ∧ iv = .int .i64 (k : Nat) ∧ Hid (D = firstFrom (dStep E) 1 (n - k) k) ∧ Hid (Below W1.heap.size W1 wr)) (fun iv _ => n + 1 - (intOf iv).toNat)
  case atStart => exact ⟨1, by omega, .inr rfl, by go_num, HD, Lib.hid (Below.refl _ _)⟩
  case round =>
    clear HD
    obtain ⟨k, hk1, hk, rfl, HD, Hb⟩ := hrel
    have q2 := cell_below Hb.out Hb1.out.2.2.2
    have q4 : g0 < wr.heap.size := Nat.lt_of_lt_of_le Hb1.out.1 Hb.out.size
    by_cases hlt : k < n
    · have i1 : (k : Int) < (n : Int) := by omega
      have i0 : (0 : Int) ≤ (k : Int) := by omega
      obtain ⟨b, off, rfl, hbl, hcE⟩ : ∃ b off, p = some ⟨b, off, none⟩ ∧ b < wr.heap.size ∧ ∀ i, i < n → ∀ j, j < 3 → wr.cell? ⟨b, off + i * 3 + j, none⟩ = some (edC E i j) := by
        rcases (show EdgAt wr p n E from Hb3.out.mono (Nat.le_refl _) Hb.out) with h | h
        · omega
        · exact h
      have x0 := hcE k hlt 0 (by omega)
      have x1 := hcE k hlt 1 (by omega)
      have x2 := hcE k hlt 2 (by omega)
      have km : ((k : Int) - 1).toNat = k - 1 := by omega
      have wk : IntKind.i64.wrap ((k : Int) - 1) = (k : Int) - 1 := IntWalk.i64_in _ (by omega)
      have k1 : (0 : Int) ≤ (k : Int) - 1 := by omega
      have k2 : (k : Int) - 1 < (n : Int) := by omega
      have k3 : (1 : Int) ≤ (k : Int) := by omega
      have y0 := hcE (k - 1) (by omega) 0 (by omega)
      have y1 := hcE (k - 1) (by omega) 1 (by omega)
      have y2 := hcE (k - 1) (by omega) 2 (by omega)
      simp only [edC, Nat.add_zero] at x0 x1 x2 y0 y1 y2
      have HS : Hid (dStep E k = if E (k - 1) 0 = E k 0 ∧ E (k - 1) 1 = E k 1 then some 0 else none) := Lib.hid rfl
      obtain ⟨e0, he0⟩ : ∃ e, E k 0 = e := ⟨_, rfl⟩
      obtain ⟨e1, he1⟩ : ∃ e, E k 1 = e := ⟨_, rfl⟩
      obtain ⟨e2, he2⟩ : ∃ e, E k 2 = e := ⟨_, rfl⟩
      obtain ⟨f0, hf0⟩ : ∃ e, E (k - 1) 0 = e := ⟨_, rfl⟩
      obtain ⟨f1, hf1⟩ : ∃ e, E (k - 1) 1 = e := ⟨_, rfl⟩
      obtain ⟨f2, hf2⟩ : ∃ e, E (k - 1) 2 = e := ⟨_, rfl⟩
      rw [he0, he1, hf0, hf1] at HS
      rw [he0] at x0
      rw [he1] at x1
      rw [he2] at x2
      rw [hf0] at y0
      rw [hf1] at y1
      rw [hf2] at y2
      obtain ⟨m, hm⟩ : ∃ m, k - 1 = m := ⟨_, rfl⟩
      rw [hm] at km y0 y1 y2
      clear he0 he1 he2 hf0 hf1 hf2 hm hcE
      have Hba : Hid (∀ vs us : Array Value, Below W1.heap.size W1 (((wr.alloc (.cells vs 97)).alloc (.cells us 97)).drew)) := Lib.hid (fun vs us => ((Hb.out.alloc Hb.out.size _).alloc (by have := Hb.out.size; simp; omega) _).drew)
      by_cases hc : f0 = e0 ∧ f1 = e1
      · have hR : decide (D = 1) = false := by rw [decide_eq_false_iff_not, HD.out, firstFrom_some hlt (by rw [HS.out, if_pos hc])]; decide
        obtain ⟨c0, c1⟩ := hc
        have c0 := (beq_iff_eq (a := f0) (b := e0)).2 c0
        have c1 := (beq_iff_eq (a := f1) (b := e1)).2 c1
        have HR9 := Lib.hid hR
        clear HD HS hR
        go_upto_region 6 with (fail)
        go_region
        all_goals (go_wp2; go_ret2; exact ⟨by rw [HR9.out]; rfl, by first | exact Hb2.out.trans ((Hba.out _ _).mono Hb2.out.size) | (rw [← Hg0.out]; exact Hb2.out.trans ((Hba.out _ _).mono Hb2.out.size))⟩)
      · have HR : Hid (D = firstFrom (dStep E) 1 (n - (k + 1)) (k + 1)) := Lib.hid (by rw [HD.out]; exact firstFrom_none hlt (by rw [HS.out, if_neg hc]))
        clear HD HS
        have hc2 : (f0 == e0) = false ∨ ((f0 == e0) = true ∧ (f1 == e1) = false) := by
          by_cases a0 : f0 = e0
          · exact .inr ⟨beq_iff_eq.2 a0, beq_eq_false_iff_ne.2 fun a1 => hc ⟨a0, a1⟩⟩
          · exact .inl (beq_eq_false_iff_ne.2 a0)
        clear hc
        rcases hc2 with c0 | ⟨c0, c1⟩
        · go_upto_region 6 with (fail)
          go_region
          all_goals (go_wp2; go_roundw)
          all_goals try (case rel => exact ⟨k + 1, by omega, by omega, by go_num, HR, Lib.hid (Hba.out _ _)⟩)
          all_goals try (case measure => simp [intOf]; omega)
        · go_upto_region 6 with (fail)
          go_region
          all_goals (go_wp2; go_roundw)
          all_goals try (case rel => exact ⟨k + 1, by omega, by omega, by go_num, HR, Lib.hid (Hba.out _ _)⟩)
          all_goals try (case measure => simp [intOf]; omega)
    · have i1 : ¬ (k : Int) < (n : Int) := by omega
      have hR : decide (D = 1) = true := by rw [decide_eq_true_eq, HD.out]; exact firstFrom_end (by omega)
      have Hb9 := Lib.hid (Hb2.out.trans (Hb.out.mono Hb2.out.size))
      clear HD
      have HR9 := Lib.hid hR
      clear hR
      go_wp2
      go_ret2
      exact ⟨by rw [HR9.out]; rfl, by first | exact Hb9.out | (rw [← Hg0.out]; exact Hb9.out)⟩
end Go.Proofs.Ytlaoijfphkhchaa
