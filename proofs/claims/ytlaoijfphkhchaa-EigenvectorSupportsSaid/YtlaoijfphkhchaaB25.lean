/- capacity.check, Adjacency; top23Fine. -/
import Derived.Test.YtlaoijfphkhchaaB22
import Derived.Test.YtlaoijfphkhchaaB24
namespace Go.Proofs.Ytlaoijfphkhchaa
open Go.RowKit Go.Shelf
/-- What capacity.check answers. -/
def capChk (L S : Int) (n : Nat) (E : Nat → Nat → Int) (det : Bool) : Int :=
  if gChk L S n E ≠ 0 then 1 else if det = true ∧ gDet n E ≠ 1 then 8 else if S = 0 then 5 else if 32 < S then 4 else 0
set_option maxRecDepth 100000 in
set_option maxHeartbeats 4000000 in
theorem capChk_any (L S : Int) (n : Nat) (E : Nat → Nat → Int) (det : Bool) (p : Option Addr) (c : Nat) (w : World) (hE : EdgAt w p n E) (hn : n < 1000000000000) :
    Calls Try.prog 77 #[.agg #[.int .i64 L, .int .i64 S, .slice p n c], .bool det] w fun e w' => e = .returned (.int .i64 (capChk L S n E det)) ∧ Below w.heap.size w w' := by
  have hE1 : EdgAt (w.alloc (.cells #[.int .i64 L, .int .i64 S, .slice p n c] 24)) p n E := hE.mono (Nat.le_refl _) ((Below.refl _ _).alloc (Nat.le_refl _) _)
  have HD := Lib.hid (gdet_any L S n E p c _ hE1 hn)
  have HB : Hid (∀ W, Below (w.alloc (.cells #[.int .i64 L, .int .i64 S, .slice p n c] 24)).heap.size (w.alloc (.cells #[.int .i64 L, .int .i64 S, .slice p n c] 24)) W → BoxAt3 W w.heap.size (.int .i64 L) (.int .i64 S) (.slice p n c) ∧ Below w.heap.size w W) := Lib.hid (fun W hW => ⟨(BoxAt3.new w _ _ _ _).below hW, ((Below.refl _ _).alloc (Nat.le_refl _) _).trans (hW.mono (by simp))⟩)
  clear hE hE1
  have HR : Hid (capChk L S n E det = if gChk L S n E ≠ 0 then 1 else if det = true ∧ gDet n E ≠ 1 then 8 else if S = 0 then 5 else if 32 < S then 4 else 0) := Lib.hid rfl
  generalize capChk L S n E det = R at *
  by_cases h0 : gChk L S n E = 0
  · obtain ⟨D, hD⟩ : ∃ D, decide (gDet n E = 1) = D := ⟨_, rfl⟩
    have hdd : decide (gChk L S n E = 0 ∧ gDet n E = 1) = D := by rw [← hD]; simp [h0]
    rw [hdd, if_pos h0] at HD
    have HR1 : Hid (R = if det = true ∧ D = false then 8 else if S = 0 then 5 else if 32 < S then 4 else 0) := Lib.hid (by
      rw [HR.out, if_neg (by simp [h0])]
      have : gDet n E ≠ 1 ↔ D = false := by rw [← hD, decide_eq_false_iff_not]
      by_cases h : det = true ∧ D = false
      · rw [if_pos h, if_pos ⟨h.1, this.2 h.2⟩]
      · rw [if_neg h, if_neg (fun k => h ⟨k.1, this.1 k.2⟩)])
    clear h0 hD hdd HR
    by_cases hq : det = true ∧ D = false
    · obtain ⟨h1, h2⟩ := hq
      have HR2 : Hid (R = 8) := Lib.hid (by rw [HR1.out, if_pos ⟨h1, h2⟩])
      rw [h2] at HD
      subst h1
      clear HR1 h2
      go_enter Try.func77, Try.ntmps77
      go_wp2_with fail
      refine HD.out.mono ?_
      rintro e W1 ⟨rfl, hb⟩
      dsimp only
      have Hb := Lib.hid (HB.out _ hb).2
      clear hb HD HB
      go_wp2
      go_ret
      exact ⟨by rw [HR2.out]; rfl, Hb.out⟩
    have HR3 : Hid (R = if S = 0 then 5 else if 32 < S then 4 else 0) := Lib.hid (by rw [HR1.out, if_neg hq])
    clear HR1
    have hq2 : det = false ∨ (det = true ∧ D = true) := by
      cases det
      · exact .inl rfl
      · cases D
        · exact absurd ⟨rfl, rfl⟩ hq
        · exact .inr ⟨rfl, rfl⟩
    clear hq
    have fin : ∀ d D', Calls Try.prog 101 #[.agg #[.int .i64 L, .int .i64 S, .slice p n c]] (w.alloc (.cells #[.int .i64 L, .int .i64 S, .slice p n c] 24)) (fun e w' => e = .returned (.tuple #[.bool D', .int .i64 0]) ∧ Below (w.alloc (.cells #[.int .i64 L, .int .i64 S, .slice p n c] 24)).heap.size (w.alloc (.cells #[.int .i64 L, .int .i64 S, .slice p n c] 24)) w') → (d = false ∨ D' = true) →
        Calls Try.prog 77 #[.agg #[.int .i64 L, .int .i64 S, .slice p n c], .bool d] w fun e w' => e = .returned (.int .i64 R) ∧ Below w.heap.size w w' := by
      intro d D' hDt hor
      have HDt := Lib.hid hDt
      clear hDt
      go_enter Try.func77, Try.ntmps77
      go_wp2_with fail
      refine HDt.out.mono ?_
      rintro e W1 ⟨rfl, hb⟩
      dsimp only
      obtain ⟨⟨_, _, z1, _⟩, hbw⟩ := HB.out _ hb
      have Hb := Lib.hid hbw
      clear hb HDt HB hbw
      have key : ∀ (v : Int), R = v → Hid (R = v) := fun _ h => Lib.hid h
      by_cases s0 : S = 0
      · have HR4 := key 5 (by rw [HR3.out, if_pos s0])
        subst s0
        clear HR3 key
        rcases hor with rfl | rfl
        · go_wp2
          go_ret
          exact ⟨by rw [HR4.out]; rfl, Hb.out⟩
        · go_wp2
          all_goals (go_ret; exact ⟨by rw [HR4.out]; rfl, Hb.out⟩)
      · have b0 : (S == 0) = false := beq_eq_false_iff_ne.2 s0
        by_cases s1 : 32 < S
        · have HR4 := key 4 (by rw [HR3.out, if_neg s0, if_pos s1])
          have s2 : S > 32 := s1
          clear HR3 key s0
          rcases hor with rfl | rfl
          · go_wp2
            go_ret
            exact ⟨by rw [HR4.out]; rfl, Hb.out⟩
          · go_wp2
            all_goals (go_ret; exact ⟨by rw [HR4.out]; rfl, Hb.out⟩)
        · have HR4 := key 0 (by rw [HR3.out, if_neg s0, if_neg s1])
          have s2 : ¬ S > 32 := s1
          clear HR3 key s0
          rcases hor with rfl | rfl
          · go_wp2
            go_ret
            exact ⟨by rw [HR4.out]; rfl, Hb.out⟩
          · go_wp2
            all_goals (go_ret; exact ⟨by rw [HR4.out]; rfl, Hb.out⟩)
    exact fin det D HD.out (by rcases hq2 with h | h; exact .inl h; exact .inr h.2)
  · rw [if_neg h0] at HD
    have hdd : decide (gChk L S n E = 0 ∧ gDet n E = 1) = false := by simp [h0]
    have HR2 : Hid (R = 1) := Lib.hid (by rw [HR.out, if_pos h0])
    rw [hdd] at HD
    clear HR h0 hdd
    go_enter Try.func77, Try.ntmps77
    go_wp2_with fail
    refine HD.out.mono ?_
    rintro e W1 ⟨rfl, hb⟩
    dsimp only
    have Hb := Lib.hid (HB.out _ hb).2
    clear hb HD HB
    go_wp2
    go_ret
    exact ⟨by rw [HR2.out]; rfl, Hb.out⟩
theorem firstFrom_zero' {body : Nat → Option Int} {d : Int} : ∀ (m k : Nat), firstFrom body d m k = d → (∀ i, body i ≠ some d) → ∀ i, k ≤ i → i < k + m → body i = none
  | 0, k, _, _, i, h1, h2 => by omega
  | m + 1, k, h, hd, i, h1, h2 => by
    unfold firstFrom at h
    cases hb : body k with
    | none =>
      rw [hb] at h
      by_cases e : i = k
      · rw [e]; exact hb
      · exact firstFrom_zero' m (k + 1) h hd i (by omega) (by omega)
    | some r =>
      rw [hb] at h
      exact absurd (by rw [hb, show r = d from h]) (hd k)
/-- What a graph says that Check takes. -/
theorem gChk_zero {L S : Int} {n : Nat} {E : Nat → Nat → Int} (h : gChk L S n E = 0) : 1 ≤ L ∧ L ≤ 256 ∧ 0 ≤ S ∧ S ≤ 64 ∧ n ≤ 1024 ∧ ∀ i, i < n → ¬ edBad L S E i ∧ (0 < i → cmp3 (E (i - 1)) (E i) < 0) := by
  unfold gChk at h
  split at h
  · cases h
  split at h
  · cases h
  split at h
  · cases h
  rename_i h1 h2 h3
  refine ⟨by omega, by omega, by omega, by omega, by omega, fun i hi => ?_⟩
  have h4 := firstFrom_zero' n 0 h (fun i => by
    unfold gStep
    split
    · intro h; cases h
    · split
      · intro h; cases h
      · intro h; cases h) i (by omega) (by omega)
  unfold gStep at h4
  split at h4
  · cases h4
  · rename_i h5
    split at h4
    · cases h4
    · rename_i h6
      exact ⟨h5, fun h0 => by
        by_cases e : cmp3 (E (i - 1)) (E i) < 0
        · exact e
        · exact absurd ⟨h0, by omega⟩ h6⟩
theorem gChk_ok {L S : Int} {n : Nat} {E : Nat → Nat → Int} (h : gChk L S n E = 0) : EdOk S.toNat n E := by
  obtain ⟨_, _, _, _, _, h6⟩ := gChk_zero h
  intro i hi
  have h7 := (h6 i hi).1
  unfold edBad at h7
  exact ⟨(E i 0).toNat, (E i 2).toNat, by omega, by omega, by omega, by omega⟩
set_option maxRecDepth 100000 in
set_option maxHeartbeats 4000000 in
theorem capAdjacency_any (L : Int) (N n : Nat) (E : Nat → Nat → Int) (p : Option Addr) (c : Nat) (hc : capChk L N n E false = 0) (hok : EdOk N n E) (hN : N ≤ 32) (hn : n ≤ 1000000) (w : World) (hE : EdgAt w p n E) :
    Calls Try.prog 40 #[.agg #[.int .i64 L, .int .i64 (N : Int), .slice p n c]] w (RetMatE 0 N N (adjE E n) w) := by
  have hE1 : EdgAt (w.alloc (.cells #[.int .i64 L, .int .i64 (N : Int), .slice p n c] 24)) p n E := hE.mono (Nat.le_refl _) ((Below.refl _ _).alloc (Nat.le_refl _) _)
  have h1 := capChk_any L N n E false p c _ hE1 (by omega)
  rw [hc] at h1
  have HD := Lib.hid h1
  have HB : Hid (∀ W, Below (w.alloc (.cells #[.int .i64 L, .int .i64 (N : Int), .slice p n c] 24)).heap.size (w.alloc (.cells #[.int .i64 L, .int .i64 (N : Int), .slice p n c] 24)) W → BoxAt3 W w.heap.size (.int .i64 L) (.int .i64 (N : Int)) (.slice p n c) ∧ Below w.heap.size w W ∧ Calls Try.prog 78 #[.agg #[.int .i64 L, .int .i64 (N : Int), .slice p n c]] W (RetMat N N (adjE E n) W)) := Lib.hid (fun W hW => ⟨(BoxAt3.new w _ _ _ _).below hW, ((Below.refl _ _).alloc (Nat.le_refl _) _).trans (hW.mono (by simp)), capAdj_any L N n E p c hN hn hok W (hE1.mono (Nat.le_refl _) hW)⟩)
  clear hE hE1 h1 hc hok
  go_enter Try.func40, Try.ntmps40
  go_wp2_with fail
  refine HD.out.mono ?_
  rintro e W1 ⟨rfl, hb⟩
  dsimp only
  obtain ⟨⟨_, z0, z1, z2⟩, hbw, hca⟩ := HB.out _ hb
  have Hb := Lib.hid hbw
  have HCa := Lib.hid hca
  clear hb HD HB hbw hca
  go_wp2_with fail
  refine HCa.out.mono ?_
  rintro e W2 ⟨q, k, rfl, hM, hb2⟩
  dsimp only
  have HM := Lib.hid hM
  have Hb2 := Lib.hid (Hb.out.trans (hb2.mono Hb.out.size))
  clear hM hb2 HCa Hb z0 z1 z2
  go_wp2
  go_ret2
  exact ⟨Hb2.out, .inl ⟨rfl, q, k, rfl, HM.out⟩⟩
/-- A valid graph with states, of the statements' sizes. -/
def fineG (L S : Int) (n : Nat) (E : Nat → Nat → Int) : Bool := !gGreatB S n && decide (gChk L S n E = 0) && decide (0 < S)
set_option maxRecDepth 100000 in
set_option maxHeartbeats 4000000 in
theorem topFine_any (L S : Int) (n : Nat) (E : Nat → Nat → Int) (p : Option Addr) (c : Nat) (w : World) (hE : EdgAt w p n E) :
    Calls Try.prog 10 #[.agg #[.int .i64 L, .int .i64 S, .slice p n c]] w fun e w' => e = .returned (.bool (fineG L S n E)) ∧ Below w.heap.size w w' := by
  have hE1 : EdgAt (w.alloc (.cells #[.int .i64 L, .int .i64 S, .slice p n c] 24)) p n E := hE.mono (Nat.le_refl _) ((Below.refl _ _).alloc (Nat.le_refl _) _)
  have HG := Lib.hid (fun W => gGreat_any L S n p c W)
  have HB : Hid (∀ W, Below (w.alloc (.cells #[.int .i64 L, .int .i64 S, .slice p n c] 24)).heap.size (w.alloc (.cells #[.int .i64 L, .int .i64 S, .slice p n c] 24)) W → BoxAt3 W w.heap.size (.int .i64 L) (.int .i64 S) (.slice p n c) ∧ Below w.heap.size w W ∧ Calls Try.prog 38 #[.agg #[.int .i64 L, .int .i64 S, .slice p n c]] W (fun e w' => e = .returned (.int .i64 (gChk L S n E)) ∧ Below W.heap.size W w')) := Lib.hid (fun W hW => ⟨(BoxAt3.new w _ _ _ _).below hW, ((Below.refl _ _).alloc (Nat.le_refl _) _).trans (hW.mono (by simp)), gcheck_any L S n E p c W (hE1.mono (Nat.le_refl _) hW)⟩)
  have HR : Hid (fineG L S n E = (!gGreatB S n && decide (gChk L S n E = 0) && decide (0 < S))) := Lib.hid rfl
  clear hE hE1
  generalize fineG L S n E = R at *
  generalize gGreatB S n = G at *
  generalize gChk L S n E = v at *
  cases hg : G
  rotate_left 1
  · have HR2 : Hid (R = false) := Lib.hid (by rw [HR.out, hg]; rfl)
    rw [hg] at HG
    clear HR hg
    go_enter Try.func10, Try.ntmps10
    go_wp2_with fail
    refine (HG.out _).mono ?_
    rintro e W1 ⟨rfl, hb⟩
    dsimp only
    have Hb := Lib.hid (HB.out _ hb).2.1
    clear hb HG HB
    go_wp2
    go_ret
    exact ⟨by rw [HR2.out]; rfl, Hb.out⟩
  rw [hg] at HG
  have HR2 : Hid (R = (decide (v = 0) && decide (0 < S))) := Lib.hid (by rw [HR.out, hg]; rfl)
  clear HR hg
  go_enter Try.func10, Try.ntmps10
  go_wp2_with fail
  refine (HG.out _).mono ?_
  rintro e W1 ⟨rfl, hb⟩
  dsimp only
  obtain ⟨⟨_, z0, z1, z2⟩, hbw, hca⟩ := HB.out _ hb
  have Hb := Lib.hid hb
  have HCa := Lib.hid hca
  clear hb HG hbw hca
  go_wp2_with fail
  refine HCa.out.mono ?_
  rintro e W2 ⟨rfl, hb2⟩
  dsimp only
  obtain ⟨⟨_, y0, y1, y2⟩, hbw, _⟩ := HB.out _ (Hb.out.trans (hb2.mono Hb.out.size))
  have Hb2 := Lib.hid hbw
  clear hb2 HB HCa Hb hbw z0 z1 z2
  by_cases h0 : v = 0
  · have HR3 : Hid (R = decide (0 < S)) := Lib.hid (by rw [HR2.out, h0]; rfl)
    subst h0
    clear HR2
    go_wp2
    go_ret
    exact ⟨by rw [HR3.out]; rfl, Hb2.out⟩
  · have HR3 : Hid (R = false) := Lib.hid (by rw [HR2.out, decide_eq_false h0]; rfl)
    have b0 : (v == 0) = false := beq_eq_false_iff_ne.2 h0
    clear HR2 h0
    go_wp2
    go_ret
    exact ⟨by rw [HR3.out]; rfl, Hb2.out⟩
end Go.Proofs.Ytlaoijfphkhchaa
