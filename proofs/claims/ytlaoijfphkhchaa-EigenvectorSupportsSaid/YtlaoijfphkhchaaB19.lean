/- The walk of graph.Check. -/
import Derived.Test.YtlaoijfphkhchaaB18
namespace Go.Proofs.Ytlaoijfphkhchaa
open Go.RowKit Go.Shelf

/-- Edge i leaves the graph. -/
def edBad (L S : Int) (E : Nat → Nat → Int) (i : Nat) : Prop := E i 0 < 0 ∨ E i 1 < 0 ∨ E i 2 < 0 ∨ S ≤ E i 0 ∨ S ≤ E i 2 ∨ L ≤ E i 1
instance (L S : Int) (E : Nat → Nat → Int) (i : Nat) : Decidable (edBad L S E i) := by unfold edBad; infer_instance
def gStep (L S : Int) (E : Nat → Nat → Int) (i : Nat) : Option Int := if edBad L S E i then some 2 else if 0 < i ∧ 0 ≤ cmp3 (E (i - 1)) (E i) then some 10 else none
/-- What Check answers. -/
def gChk (L S : Int) (n : Nat) (E : Nat → Nat → Int) : Int :=
  if L < 1 ∨ 256 < L then 12 else if S < 0 then 2 else if 64 < S ∨ 1024 < n then 4 else firstFrom (gStep L S E) 0 n 0
set_option maxRecDepth 100000 in
set_option maxHeartbeats 4000000 in
theorem gcheck_any (L S : Int) (n : Nat) (E : Nat → Nat → Int) (p : Option Addr) (c : Nat) (w : World) (hE : EdgAt w p n E) :
    Calls Try.prog 38 #[.agg #[.int .i64 L, .int .i64 S, .slice p n c]] w fun e w' => e = .returned (.int .i64 (gChk L S n E)) ∧ Below w.heap.size w w' := by
  by_cases h1 : L < 1
  · have hR : gChk L S n E = 12 := by unfold gChk; rw [if_pos (.inl h1)]
    have HR := Lib.hid hR
    clear hR
    go_enter Try.func38, Try.ntmps38
    go_wp2
    go_ret
    exact ⟨by rw [HR.out]; rfl, (Below.refl _ _).alloc (Nat.le_refl _) _⟩
  have l1 : ¬ L < 1 := h1
  by_cases h2 : 256 < L
  · have hR : gChk L S n E = 12 := by unfold gChk; rw [if_pos (.inr h2)]
    have HR := Lib.hid hR
    have l2 : L > 256 := h2
    clear hR
    go_enter Try.func38, Try.ntmps38
    go_wp2
    go_ret
    exact ⟨by rw [HR.out]; rfl, (Below.refl _ _).alloc (Nat.le_refl _) _⟩
  have l2 : ¬ L > 256 := h2
  by_cases h3 : S < 0
  · have hR : gChk L S n E = 2 := by unfold gChk; rw [if_neg (by omega), if_pos h3]
    have HR := Lib.hid hR
    clear hR
    go_enter Try.func38, Try.ntmps38
    go_wp2
    go_ret
    exact ⟨by rw [HR.out]; rfl, (Below.refl _ _).alloc (Nat.le_refl _) _⟩
  by_cases h4 : 64 < S
  · have hR : gChk L S n E = 4 := by unfold gChk; rw [if_neg (by omega), if_neg h3, if_pos (.inl h4)]
    have HR := Lib.hid hR
    have l4 : S > 64 := h4
    clear hR
    go_enter Try.func38, Try.ntmps38
    go_wp2
    go_ret
    exact ⟨by rw [HR.out]; rfl, (Below.refl _ _).alloc (Nat.le_refl _) _⟩
  have l4 : ¬ S > 64 := h4
  by_cases h5 : 1024 < n
  · have hR : gChk L S n E = 4 := by unfold gChk; rw [if_neg (by omega), if_neg h3, if_pos (.inr h5)]
    have HR := Lib.hid hR
    have l5 : (n : Int) > 1024 := by omega
    clear hR
    go_enter Try.func38, Try.ntmps38
    go_wp2
    go_ret
    exact ⟨by rw [HR.out]; rfl, (Below.refl _ _).alloc (Nat.le_refl _) _⟩
  have l5 : ¬ (n : Int) > 1024 := by omega
  have hR : gChk L S n E = firstFrom (gStep L S E) 0 n 0 := by unfold gChk; rw [if_neg (by omega), if_neg h3, if_neg (by omega)]
  have HR := Lib.hid hR
  clear hR h1 h2 h4 h5
  have HE := Lib.hid hE
  clear hE
  go_enter Try.func38, Try.ntmps38
  go_wp2
  have hb0 : Below w.heap.size w ((w.alloc (.cells #[.int .i64 L, .int .i64 S, .slice p n c] 24)).alloc (.cells #[.func (.func 76) #[] #[]] 107)) := ((Below.refl _ _).alloc (Nat.le_refl _) _).alloc (by simp) _
  obtain ⟨W1, hW1⟩ : ∃ W, (w.alloc (.cells #[.int .i64 L, .int .i64 S, .slice p n c] 24)).alloc (.cells #[.func (.func 76) #[] #[]] 107) = W := ⟨_, rfl⟩
  have c0 := (box3 (w := w) (wr := W1) (v0 := .int .i64 L) (v1 := .int .i64 S) (v2 := .slice p n c) (t := 24) (by rw [← hW1]; exact (Below.refl _ _).alloc (by simp) _)).1
  have c1 : W1.cell? ⟨w.heap.size + 1, 0, none⟩ = some (.func (.func 76) #[] #[]) ∧ w.heap.size + 1 < W1.heap.size := by
    rw [← hW1]
    refine ⟨?_, by simp⟩
    rw [show w.heap.size + 1 = (w.alloc (.cells #[.int .i64 L, .int .i64 S, .slice p n c] 24)).heap.size from by simp, World.cell?_alloc_new]
    simp
  rw [hW1] at hb0 ⊢
  clear hW1
  have HE1 := Lib.hid (show EdgAt W1 p n E from HE.out.mono (Nat.le_refl _) hb0)
  have Hb0 := Lib.hid hb0
  have Hc0 := Lib.hid c0
  have Hc1 := Lib.hid c1
  clear hb0 c0 c1 HE
  obtain ⟨g0, hg0⟩ : ∃ g, w.heap.size = g := ⟨_, rfl⟩
  rw [hg0] at Hc0 Hc1 ⊢
  go_loopw [33] (fun iv wr => ∃ k : Nat, k ≤ n ∧ iv = .int .i64 (k : Nat) ∧ Hid (gChk L S n E = firstFrom (gStep L S E) 0 (n - k) k) ∧ Hid (Below W1.heap.size W1 wr)) (fun iv _ => n - (intOf iv).toNat)
  case atStart => exact ⟨0, by omega, by go_num, HR, Lib.hid (Below.refl _ _)⟩
  case round =>
    clear HR
    obtain ⟨k, hk, rfl, HR, Hb⟩ := hrel
    by_cases hlt : k < n
    · have i1 : (k : Int) < (n : Int) := by omega
      have i0 : (0 : Int) ≤ (k : Int) := by omega
      obtain ⟨b, off, rfl, hbl, hcE⟩ : ∃ b off, p = some ⟨b, off, none⟩ ∧ b < wr.heap.size ∧ ∀ i, i < n → ∀ j, j < 3 → wr.cell? ⟨b, off + i * 3 + j, none⟩ = some (edC E i j) := by
        rcases (show EdgAt wr p n E from HE1.out.mono (Nat.le_refl _) Hb.out) with h | h
        · omega
        · exact h
      have x0 := hcE k hlt 0 (by omega)
      have x1 := hcE k hlt 1 (by omega)
      have x2 := hcE k hlt 2 (by omega)
      simp only [edC, Nat.add_zero] at x0 x1 x2
      obtain ⟨p0, p1, p2⟩ := Hc0.out
      obtain ⟨p3, p4⟩ := Hc1.out
      have q0 := cell_below Hb.out p0
      have q1 := cell_below Hb.out p1
      have q2 := cell_below Hb.out p2
      have q3 := cell_below Hb.out p3
      have HcE := Lib.hid hcE
      have hba : Below W1.heap.size W1 (wr.alloc (.cells #[.int .i64 (E k 0), .int .i64 (E k 1), .int .i64 (E k 2)] 97)) := Hb.out.alloc Hb.out.size _
      have Hba := Lib.hid hba
      have Hbx := Lib.hid (BoxAt3.new wr (.int .i64 (E k 0)) (.int .i64 (E k 1)) (.int .i64 (E k 2)) 97)
      have q4 : g0 + 1 < wr.heap.size := Nat.lt_of_lt_of_le p4 Hb.out.size
      have q5 : g0 < wr.heap.size := by omega
      clear p0 p1 p2 p3 p4 hcE hba
      have HK : Hid (k = 0 ∨ (0 < k ∧ cpL (edL (E (k - 1) 0) (E (k - 1) 1) (E (k - 1) 2)) (edL (E k 0) (E k 1) (E k 2)) = cmp3 (E (k - 1)) (E k))) := Lib.hid (by
        by_cases h : k = 0
        · exact .inl h
        · exact .inr ⟨by omega, rfl⟩)
      have Hcm : Hid (cmp3 (E (k - 1)) (E k) = cpL (edL (E (k - 1) 0) (E (k - 1) 1) (E (k - 1) 2)) (edL (E k 0) (E k 1) (E k 2))) := Lib.hid rfl
      have HG : Hid (gStep L S E k = if E k 0 < 0 ∨ E k 1 < 0 ∨ E k 2 < 0 ∨ S ≤ E k 0 ∨ S ≤ E k 2 ∨ L ≤ E k 1 then some 2 else if 0 < k ∧ 0 ≤ cmp3 (E (k - 1)) (E k) then some 10 else none) := Lib.hid rfl
      obtain ⟨e0, he0⟩ : ∃ e, E k 0 = e := ⟨_, rfl⟩
      obtain ⟨e1, he1⟩ : ∃ e, E k 1 = e := ⟨_, rfl⟩
      obtain ⟨e2, he2⟩ : ∃ e, E k 2 = e := ⟨_, rfl⟩
      rw [he0, he1, he2] at Hba Hbx HG Hcm
      rw [he0] at x0
      rw [he1] at x1
      rw [he2] at x2
      clear he0 he1 he2 HK
      have hmin := @min3 Try.prog
      have hmax := @max2 Try.prog
      by_cases mA : mi3 e0 e1 e2 < 0
      · have hR : gChk L S n E = 2 := by rw [HR.out]; exact firstFrom_some hlt (by rw [HG.out, if_pos (by have := mi3_lt.1 mA; omega)])
        have HR2 := Lib.hid hR
        clear hR HR HcE HG Hcm
        go_wp2
        go_ret
        exact ⟨by rw [HR2.out]; rfl, by first | exact Hb0.out.trans (Hba.out.mono Hb0.out.size) | (rw [← hg0]; exact Hb0.out.trans (Hba.out.mono Hb0.out.size))⟩
      by_cases mB : mx2 e0 e2 ≥ S
      · have hR : gChk L S n E = 2 := by rw [HR.out]; exact firstFrom_some hlt (by rw [HG.out, if_pos (by have := mx2_ge.1 mB; omega)])
        have HR2 := Lib.hid hR
        clear hR HR HcE HG Hcm
        go_wp2
        go_ret
        exact ⟨by rw [HR2.out]; rfl, by first | exact Hb0.out.trans (Hba.out.mono Hb0.out.size) | (rw [← hg0]; exact Hb0.out.trans (Hba.out.mono Hb0.out.size))⟩
      by_cases mC : e1 ≥ L
      · have hR : gChk L S n E = 2 := by rw [HR.out]; exact firstFrom_some hlt (by rw [HG.out, if_pos (by omega)])
        have HR2 := Lib.hid hR
        clear hR HR HcE HG Hcm
        go_wp2
        go_ret
        exact ⟨by rw [HR2.out]; rfl, by first | exact Hb0.out.trans (Hba.out.mono Hb0.out.size) | (rw [← hg0]; exact Hb0.out.trans (Hba.out.mono Hb0.out.size))⟩
      have HG2 : Hid (gStep L S E k = if 0 < k ∧ 0 ≤ cmp3 (E (k - 1)) (E k) then some 10 else none) := Lib.hid (by
        rw [HG.out, if_neg]
        intro h
        have h1 : ¬ (e0 < 0 ∨ e1 < 0 ∨ e2 < 0) := fun h => mA (mi3_lt.2 h)
        have h2 : ¬ (S ≤ e0 ∨ S ≤ e2) := fun h => mB (mx2_ge.2 h)
        omega)
      clear HG
      by_cases hk0 : k = 0
      · have HG3 : Hid (gStep L S E k = none) := Lib.hid (by rw [HG2.out, if_neg (by omega)])
        have HR3 : Hid (gChk L S n E = firstFrom (gStep L S E) 0 (n - (k + 1)) (k + 1)) := Lib.hid (by rw [HR.out]; exact firstFrom_none hlt HG3.out)
        have k0 : decide ((k : Int) > 0) = false := by rw [decide_eq_false_iff_not]; omega
        have k0b : decide (0 < k) = false := by rw [decide_eq_false_iff_not]; omega
        clear HG2 HG3 HR HcE hk0 Hcm
        go_upto_region 13 with (fail)
        go_wp2_with fail
        go_quiet (fail)
        go_wp2
        go_roundw
        case rel => exact ⟨k + 1, by omega, by go_num, HR3, Lib.hid (below_dr Hba.out)⟩
        case measure => simp [intOf]; omega
      · have k0 : decide ((k : Int) > 0) = true := by rw [decide_eq_true_eq]; omega
        have k0b : decide (0 < k) = true := by rw [decide_eq_true_eq]; omega
        have km : ((k : Int) - 1).toNat = k - 1 := by omega
        have wk : IntKind.i64.wrap ((k : Int) - 1) = (k : Int) - 1 := IntWalk.i64_in _ (by omega)
        have k1 : (0 : Int) ≤ (k : Int) - 1 := by omega
        have k3 : (1 : Int) ≤ (k : Int) := by omega
        have k2 : (k : Int) - 1 < (n : Int) := by omega
        have y0 := HcE.out (k - 1) (by omega) 0 (by omega)
        have y1 := HcE.out (k - 1) (by omega) 1 (by omega)
        have y2 := HcE.out (k - 1) (by omega) 2 (by omega)
        simp only [edC, Nat.add_zero] at y0 y1 y2
        obtain ⟨f0, hf0⟩ : ∃ e, E (k - 1) 0 = e := ⟨_, rfl⟩
        obtain ⟨f1, hf1⟩ : ∃ e, E (k - 1) 1 = e := ⟨_, rfl⟩
        obtain ⟨f2, hf2⟩ : ∃ e, E (k - 1) 2 = e := ⟨_, rfl⟩
        rw [hf0, hf1, hf2] at Hcm
        rw [hf0] at y0
        rw [hf1] at y1
        rw [hf2] at y2
        obtain ⟨m, hm⟩ : ∃ m, k - 1 = m := ⟨_, rfl⟩
        rw [hm] at km y0 y1 y2
        obtain ⟨v, hv⟩ : ∃ v, cpL (edL f0 f1 f2) (edL e0 e1 e2) = v := ⟨_, rfl⟩
        have HBy : Hid (∀ W, Below W1.heap.size W1 W → Calls Try.prog 99 #[.agg #[.int .i64 f0, .int .i64 f1, .int .i64 f2], .agg #[.int .i64 e0, .int .i64 e1, .int .i64 e2], .pointer (some ⟨g0 + 1, 0, none⟩)] W fun e w' => e = .returned (.int .i64 v) ∧ Below W.heap.size W w') := Lib.hid (fun W hW => by
          have h := by_any f0 f1 f2 e0 e1 e2 (g0 + 1) W (cell_below hW Hc1.out.1) (Nat.lt_of_lt_of_le Hc1.out.2 hW.size)
          rw [hv] at h
          exact h)
        have HG3 : Hid (gStep L S E k = if v ≥ 0 then some 10 else none) := Lib.hid (by
          rw [HG2.out, Hcm.out, hv]
          by_cases h : v ≥ 0
          · rw [if_pos ⟨by omega, h⟩, if_pos h]
          · rw [if_neg (fun c => h c.2), if_neg h])
        clear HG2 HcE Hcm hf0 hf1 hf2 hm hv
        have Hx := Hbx.out
        have Hp : Hid (∀ W, Below wr.heap.size wr W → W.cell? ⟨b, off + m * 3, none⟩ = some (.int .i64 f0) ∧ W.cell? ⟨b, off + m * 3 + 1, none⟩ = some (.int .i64 f1) ∧ W.cell? ⟨b, off + m * 3 + 2, none⟩ = some (.int .i64 f2) ∧ W.cell? ⟨g0, 2, none⟩ = some (.slice (some ⟨b, off, none⟩) n c)) := Lib.hid (fun W hW => ⟨cell_below hW y0, cell_below hW y1, cell_below hW y2, cell_below hW q2⟩)
        clear y0 y1 y2
        go_upto_region 13 with (fail)
        obtain ⟨W2, hW2⟩ : ∃ W, wr.alloc (.cells #[.int .i64 e0, .int .i64 e1, .int .i64 e2] 97) = W := ⟨_, rfl⟩
        obtain ⟨hx, hhx⟩ : ∃ h, wr.heap.size = h := ⟨_, rfl⟩
        have Hp2 := Hp.out W2 (by rw [← hW2]; exact (Below.refl _ _).alloc (Nat.le_refl _) _)
        rw [hW2, hhx] at Hx
        rw [hW2] at Hba ⊢
        rw [hhx]
        clear hW2 Hp Hbx
        obtain ⟨SS, hSe⟩ : ∃ SS : World → Prop, SS = fun W => W.cell? ⟨b, off + m * 3, none⟩ = some (.int .i64 f0) ∧ W.cell? ⟨b, off + m * 3 + 1, none⟩ = some (.int .i64 f1) ∧ W.cell? ⟨b, off + m * 3 + 2, none⟩ = some (.int .i64 f2) ∧ W.cell? ⟨g0, 2, none⟩ = some (.slice (some ⟨b, off, none⟩) n c) ∧ W.cell? ⟨hx, 0, none⟩ = some (.int .i64 e0) ∧ W.cell? ⟨hx, 1, none⟩ = some (.int .i64 e1) ∧ W.cell? ⟨hx, 2, none⟩ = some (.int .i64 e2) := ⟨_, rfl⟩
        have HS : Hid (∀ W, Below W2.heap.size W2 W → SS W) := Lib.hid (fun W hW => by rw [hSe]; exact ⟨cell_below hW Hp2.1, cell_below hW Hp2.2.1, cell_below hW Hp2.2.2.1, cell_below hW Hp2.2.2.2, cell_below hW Hx.2.1, cell_below hW Hx.2.2.1, cell_below hW Hx.2.2.2⟩)
        clear Hp2 Hx q0 q1 q2 q3 q4 q5 x0 x1 x2 hbl
        have hd : Below W2.heap.size W2 W2.drew := (Below.refl W2.heap.size W2).drew
        refine wp_region_held_drew (S := SS) (by kernel_rfl) (HS.out _ hd) (fun hSS => ?_)
        refine wpAnyH_take (i := 0) (v := ?_) rfl (by kernel_rfl) (by kernel_rfl) (by kernel_rfl) (fun _ _ _ h => h) (Or.inl ⟨by rfl, ?_⟩) hSS ?_
        rotate_left 1
        next => intro w hSw; rw [hSe] at hSw; obtain ⟨s1, s2, s3, s4, s5, s6, s7⟩ := hSw; go_simp; try with_reducible rfl
        try simp only [Act.put, List.getElem_toArray, List.getElem_cons_zero, List.getElem_cons_succ, List.setIfInBounds_toArray, List.set_cons_zero, List.set_cons_succ]
        refine wpAnyH_take (i := 1) (v := ?_) rfl (by kernel_rfl) (by kernel_rfl) (by kernel_rfl) (fun _ _ _ h => h) (Or.inl ⟨by rfl, ?_⟩) hSS ?_
        rotate_left 1
        next => intro w hSw; rw [hSe] at hSw; obtain ⟨s1, s2, s3, s4, s5, s6, s7⟩ := hSw; go_simp; try with_reducible rfl
        try simp only [Act.put, List.getElem_toArray, List.getElem_cons_zero, List.getElem_cons_succ, List.setIfInBounds_toArray, List.set_cons_zero, List.set_cons_succ]
        refine wpAnyH_take (i := 2) (v := ?_) rfl (by kernel_rfl) (by kernel_rfl) (by kernel_rfl) (fun _ _ _ h => h) (Or.inl ⟨by rfl, ?_⟩) hSS ?_
        rotate_left 1
        next => intro w hSw; rw [hSe] at hSw; obtain ⟨s1, s2, s3, s4, s5, s6, s7⟩ := hSw; go_simp; try with_reducible rfl
        try simp only [Act.put, List.getElem_toArray, List.getElem_cons_zero, List.getElem_cons_succ, List.setIfInBounds_toArray, List.set_cons_zero, List.set_cons_succ]
        refine wpAnyH_take (i := 3) (v := ?_) rfl (by kernel_rfl) (by kernel_rfl) (by kernel_rfl) (fun _ _ _ h => h) (Or.inl ⟨by rfl, ?_⟩) hSS ?_
        rotate_left 1
        next => intro w hSw; rw [hSe] at hSw; obtain ⟨s1, s2, s3, s4, s5, s6, s7⟩ := hSw; go_simp; try with_reducible rfl
        try simp only [Act.put, List.getElem_toArray, List.getElem_cons_zero, List.getElem_cons_succ, List.setIfInBounds_toArray, List.set_cons_zero, List.set_cons_succ]
        refine wpAnyH_take (i := 4) (v := ?_) rfl (by kernel_rfl) (by kernel_rfl) (by kernel_rfl) (fun _ _ _ h => h) (Or.inl ⟨by rfl, ?_⟩) hSS ?_
        rotate_left 1
        next => intro w hSw; rw [hSe] at hSw; obtain ⟨s1, s2, s3, s4, s5, s6, s7⟩ := hSw; go_simp; try with_reducible rfl
        try simp only [Act.put, List.getElem_toArray, List.getElem_cons_zero, List.getElem_cons_succ, List.setIfInBounds_toArray, List.set_cons_zero, List.set_cons_succ]
        refine wpAnyH_take (i := 5) (v := ?_) rfl (by kernel_rfl) (by kernel_rfl) (by kernel_rfl) (fun _ _ _ h => h) (Or.inl ⟨by rfl, ?_⟩) hSS ?_
        rotate_left 1
        next => intro w hSw; rw [hSe] at hSw; obtain ⟨s1, s2, s3, s4, s5, s6, s7⟩ := hSw; go_simp; try with_reducible rfl
        try simp only [Act.put, List.getElem_toArray, List.getElem_cons_zero, List.getElem_cons_succ, List.setIfInBounds_toArray, List.set_cons_zero, List.set_cons_succ]
        refine wpAnyH_take (i := 6) (v := ?_) rfl (by kernel_rfl) (by kernel_rfl) (by kernel_rfl) (fun _ _ _ h => h) (Or.inl ⟨by rfl, ?_⟩) hSS ?_
        rotate_left 1
        next => intro w hSw; rw [hSe] at hSw; obtain ⟨s1, s2, s3, s4, s5, s6, s7⟩ := hSw; go_simp; try with_reducible rfl
        try simp only [Act.put, List.getElem_toArray, List.getElem_cons_zero, List.getElem_cons_succ, List.setIfInBounds_toArray, List.set_cons_zero, List.set_cons_succ]
        refine wpAnyH_take (i := 7) (v := ?_) rfl (by kernel_rfl) (by kernel_rfl) (by kernel_rfl) (fun _ _ _ h => h) (Or.inl ⟨by rfl, ?_⟩) hSS ?_
        rotate_left 1
        next => intro w hSw; rw [hSe] at hSw; obtain ⟨s1, s2, s3, s4, s5, s6, s7⟩ := hSw; go_simp; try with_reducible rfl
        try simp only [Act.put, List.getElem_toArray, List.getElem_cons_zero, List.getElem_cons_succ, List.setIfInBounds_toArray, List.set_cons_zero, List.set_cons_succ]
        refine wpAnyH_take (i := 8) (v := ?_) rfl (by kernel_rfl) (by kernel_rfl) (by kernel_rfl) (fun _ _ _ h => h) (Or.inl ⟨by rfl, ?_⟩) hSS ?_
        rotate_left 1
        next => intro w hSw; rw [hSe] at hSw; obtain ⟨s1, s2, s3, s4, s5, s6, s7⟩ := hSw; go_simp; try with_reducible rfl
        try simp only [Act.put, List.getElem_toArray, List.getElem_cons_zero, List.getElem_cons_succ, List.setIfInBounds_toArray, List.set_cons_zero, List.set_cons_succ]
        refine wpAnyH_take (i := 9) (v := ?_) rfl (by kernel_rfl) (by kernel_rfl) (by kernel_rfl) (fun _ _ _ h => h) (Or.inl ⟨by rfl, ?_⟩) hSS ?_
        rotate_left 1
        next => intro w hSw; rw [hSe] at hSw; obtain ⟨s1, s2, s3, s4, s5, s6, s7⟩ := hSw; go_simp; try with_reducible rfl
        try simp only [Act.put, List.getElem_toArray, List.getElem_cons_zero, List.getElem_cons_succ, List.setIfInBounds_toArray, List.set_cons_zero, List.set_cons_succ]
        refine wpAnyH_take (i := 10) (v := ?_) rfl (by kernel_rfl) (by kernel_rfl) (by kernel_rfl) (fun _ _ _ h => h) (Or.inl ⟨by rfl, ?_⟩) hSS ?_
        rotate_left 1
        next => intro w hSw; rw [hSe] at hSw; obtain ⟨s1, s2, s3, s4, s5, s6, s7⟩ := hSw; go_simp; try with_reducible rfl
        try simp only [Act.put, List.getElem_toArray, List.getElem_cons_zero, List.getElem_cons_succ, List.setIfInBounds_toArray, List.set_cons_zero, List.set_cons_succ]
        try simp only [Act.put, List.getElem_toArray, List.getElem_cons_zero, List.getElem_cons_succ, List.setIfInBounds_toArray, List.set_cons_zero, List.set_cons_succ]
        refine wpAnyH_ready (rs := [11]) (by kernel_rfl) (by simp) ?_
        refine AllReadyH.cons rfl (fun K hK => ?_) AllReadyH.nil
        go_simp
        refine (HBy.out _ (Hba.out.trans (hd.mono Hba.out.size))).mono ?_
        rintro e W3 ⟨rfl, hbc⟩
        have hW3 : Below W2.heap.size W2 W3 := hd.trans (hbc.mono hd.size)
        dsimp only
        refine hK.out _ _ (HS.out _ hW3) (fun _ => ?_)
        clear hK K hbc
        refine wpAnyH_take (i := 12) (v := ?_) rfl (by kernel_rfl) (by kernel_rfl) (by kernel_rfl) (fun _ _ _ h => h) (Or.inl ⟨by rfl, ?_⟩) (HS.out _ hW3) ?_
        rotate_left 1
        next => intro w hSw; rw [hSe] at hSw; obtain ⟨s1, s2, s3, s4, s5, s6, s7⟩ := hSw; go_simp; try with_reducible rfl
        try simp only [Act.put, List.getElem_toArray, List.getElem_cons_zero, List.getElem_cons_succ, List.setIfInBounds_toArray, List.set_cons_zero, List.set_cons_succ]
        refine wpAnyH_take (i := 13) (v := ?_) rfl (by kernel_rfl) (by kernel_rfl) (by kernel_rfl) (fun _ _ _ h => h) (Or.inl ⟨by rfl, ?_⟩) (HS.out _ hW3) ?_
        rotate_left 1
        next => intro w hSw; rw [hSe] at hSw; obtain ⟨s1, s2, s3, s4, s5, s6, s7⟩ := hSw; go_simp; try with_reducible rfl
        try simp only [Act.put, List.getElem_toArray, List.getElem_cons_zero, List.getElem_cons_succ, List.setIfInBounds_toArray, List.set_cons_zero, List.set_cons_succ]
        refine wpAnyH_done (by kernel_rfl) ?_ _
        have Hb3 := Lib.hid (Hba.out.trans (hW3.mono Hba.out.size))
        clear HS hSe hSS hd hW3 HBy
        by_cases hv : v ≥ 0
        · have hR : gChk L S n E = 10 := by rw [HR.out]; exact firstFrom_some hlt (by rw [HG3.out, if_pos hv])
          have HR2 := Lib.hid hR
          clear hR HR HG3
          go_wp2
          go_ret
          exact ⟨by rw [HR2.out]; rfl, by first | exact Hb0.out.trans (Hb3.out.mono Hb0.out.size) | (rw [← hg0]; exact Hb0.out.trans (Hb3.out.mono Hb0.out.size))⟩
        · have HR3 : Hid (gChk L S n E = firstFrom (gStep L S E) 0 (n - (k + 1)) (k + 1)) := Lib.hid (by rw [HR.out]; exact firstFrom_none hlt (by rw [HG3.out, if_neg hv]))
          clear HR HG3
          go_wp2
          go_roundw
          case rel => exact ⟨k + 1, by omega, by go_num, HR3, Hb3⟩
          case measure => simp [intOf]; omega
    · have i1 : ¬ (k : Int) < (n : Int) := by omega
      have hR : gChk L S n E = 0 := by rw [HR.out]; exact firstFrom_end (by omega)
      have HR2 := Lib.hid hR
      clear hR HR
      go_wp2
      go_ret
      exact ⟨by rw [HR2.out]; rfl, by first | exact Hb0.out.trans (Hb.out.mono Hb0.out.size) | (rw [← hg0]; exact Hb0.out.trans (Hb.out.mono Hb0.out.size))⟩
end Go.Proofs.Ytlaoijfphkhchaa
