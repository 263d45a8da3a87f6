/- Encoders in memory. -/
import Derived.Test.YtcafeffgaokiaaaK1
import Derived.Test.YtcafeffgaokiaaaK2
namespace Go.Proofs.Ytcafeffgaokiaaa
open Go.RowKit
/-- The rows of an encoder: how many, their lengths, each cell's state and word. -/
structure EM where
  r : Nat
  L : Nat → Nat
  T : Nat → Nat → Int
  D : Nat → Nat → ByteArray
def EM.cell (m : EM) (i k j : Nat) : Value := if j = 0 then .int .i64 (m.T i k) else .string (m.D i k)
def EM.At (m : EM) (w : World) (p : Option Addr) : Prop := ∃ H : Nat → Option Addr × Nat, SlAt 1 w p m.r (fun i _ => .slice (H i).1 (m.L i) (H i).2) ∧ ∀ i, i < m.r → SlAt 2 w (H i).1 (m.L i) (m.cell i)
theorem EM.At.below {m : EM} {w w' : World} {p : Option Addr} (h : m.At w p) {B : Nat} (hB : w.heap.size ≤ B) (hb : Below B w w') : m.At w' p := by
  obtain ⟨H, h1, h2⟩ := h
  exact ⟨H, h1.mono hB hb, fun i hi => (h2 i hi).mono hB hb⟩
/-- The sizes that a parameter has in the model. -/
def EM.Fit (m : EM) : Prop := m.r ≤ 9223372036854775807 ∧ ∀ i, i < m.r → m.L i ≤ 9223372036854775807 ∧ ∀ k, k < m.L i → (m.D i k).size ≤ 9223372036854775807
theorem EM.At.row {m : EM} {w : World} {p : Option Addr} (h : m.At w p) {i : Nat} (hi : i < m.r) :
    ∃ b off q c, p = some ⟨b, off, none⟩ ∧ b < w.heap.size ∧ w.cell? ⟨b, off + i, none⟩ = some (.slice q (m.L i) c) ∧ SlAt 2 w q (m.L i) (m.cell i) := by
  obtain ⟨H, h1, h2⟩ := h
  rcases h1 with h | ⟨b, off, rfl, hlt, hc⟩
  · omega
  · exact ⟨b, off, (H i).1, (H i).2, rfl, hlt, by simpa using hc i hi 0 (by omega), h2 i hi⟩
theorem EM.cells {m : EM} {w : World} {q : Option Addr} {i k : Nat} (h : SlAt 2 w q (m.L i) (m.cell i)) (hk : k < m.L i) :
    ∃ b off, q = some ⟨b, off, none⟩ ∧ b < w.heap.size ∧ w.cell? ⟨b, off + k * 2, none⟩ = some (.int .i64 (m.T i k)) ∧ w.cell? ⟨b, off + k * 2 + 1, none⟩ = some (.string (m.D i k)) := by
  rcases h with h | ⟨b, off, rfl, hlt, hc⟩
  · omega
  · exact ⟨b, off, rfl, hlt, by simpa [EM.cell] using hc k hk 0 (by omega), by simpa [EM.cell] using hc k hk 1 (by omega)⟩
/-- What Check finds at a cell, at a row, at all. -/
def encCellB (l b : Int) (m : EM) (i k : Nat) : Option Int :=
  if m.T i k < 0 ∨ (m.r : Int) ≤ m.T i k then some 25
  else if ((m.D i k).size : Int) ≠ b ∨ wordCheck l (m.D i k).data.toList ≠ 0 then some 13
  else none
def encRowV (l b : Int) (m : EM) (s : Nat) : Int := firstFrom (encCellB l b m s) 0 (m.L s) 0
def encRowB (l b i : Int) (m : EM) (s : Nat) : Option Int :=
  if (m.L s : Int) ≠ i then some 11 else if encRowV l b m s ≠ 0 then some (encRowV l b m s) else none
def encCheck (l b i : Int) (m : EM) : Int :=
  if l < 1 ∨ 16 < l then 12
  else if b < 1 ∨ 16 < b ∨ i < 1 ∨ 256 < i then 2
  else if m.r = 0 then 5
  else if 64 < m.r then 4
  else firstFrom (encRowB l b i m) 0 m.r 0
set_option maxRecDepth 100000 in
set_option maxHeartbeats 8000000 in
theorem encCheck_any (l b i : Int) (m : EM) (p : Option Addr) (c : Nat) (w : World) (hE : m.At w p) (hf : m.Fit) :
    Calls Try.prog 29 #[.agg #[.int .i64 l, .int .i64 b, .int .i64 i, .slice p m.r c]] w fun e w' => e = .returned (.int .i64 (encCheck l b i m)) ∧ Below w.heap.size w w' := by
  have HE := Lib.hid hE
  have HF := Lib.hid hf
  clear hE hf
  by_cases h1 : l < 1 ∨ 16 < l
  · have hv : encCheck l b i m = 12 := by unfold encCheck; rw [if_pos h1]
    have Hv := Lib.hid hv
    clear hv
    go_enter Try.func29, Try.ntmps29
    go_wp2
    all_goals
      go_ret
      exact ⟨ret_int Hv.out.symm, (Below.refl _ _).alloc (Nat.le_refl _) _⟩
  have h1a : 1 ≤ l := by omega
  have h1b : l ≤ 16 := by omega
  by_cases h2 : b < 1 ∨ 16 < b ∨ i < 1 ∨ 256 < i
  · have hv : encCheck l b i m = 2 := by unfold encCheck; rw [if_neg h1, if_pos h2]
    have Hv := Lib.hid hv
    clear hv h1
    go_enter Try.func29, Try.ntmps29
    go_wp2
    all_goals
      go_ret
      exact ⟨ret_int Hv.out.symm, (Below.refl _ _).alloc (Nat.le_refl _) _⟩
  have a1 : 1 ≤ b := by omega
  have a2 : b ≤ 16 := by omega
  have a3 : 1 ≤ i := by omega
  have a4 : i ≤ 256 := by omega
  have hv : encCheck l b i m = if m.r = 0 then 5 else if 64 < m.r then 4 else firstFrom (encRowB l b i m) 0 m.r 0 := by
    unfold encCheck; rw [if_neg h1, if_neg h2]
  have Hv := Lib.hid hv
  clear hv h1 h2
  by_cases h3 : m.r = 0
  · have h3' : ((m.r : Int) == 0) = true := by rw [beq_iff_eq]; omega
    have Hv2 := Lib.hid (show encCheck l b i m = 5 by rw [Hv.out, if_pos h3])
    clear h3
    go_enter Try.func29, Try.ntmps29
    go_wp2
    go_ret
    exact ⟨ret_int Hv2.out.symm, (Below.refl _ _).alloc (Nat.le_refl _) _⟩
  have h3' : ((m.r : Int) == 0) = false := by rw [beq_eq_false_iff_ne]; omega
  by_cases h4 : 64 < m.r
  · have h4' : (64 : Int) < (m.r : Int) := by omega
    have Hv2 := Lib.hid (show encCheck l b i m = 4 by rw [Hv.out, if_neg h3, if_pos h4])
    clear h3
    go_enter Try.func29, Try.ntmps29
    go_wp2
    go_ret
    exact ⟨ret_int Hv2.out.symm, (Below.refl _ _).alloc (Nat.le_refl _) _⟩
  have h4' : ¬ (64 : Int) < (m.r : Int) := by omega
  have Hv2 := Lib.hid (show encCheck l b i m = firstFrom (encRowB l b i m) 0 (m.r - 0) 0 by rw [Hv.out, if_neg h3, if_neg h4]; rfl)
  clear Hv h3
  go_enter Try.func29, Try.ntmps29
  go_wp2
  go_loopw [48] (fun s wr => ∃ k : Nat, k ≤ m.r ∧ s = .int .i64 k ∧ Below (w.heap.size + 1) (w.alloc (.cells #[.int .i64 l, .int .i64 b, .int .i64 i, .slice p m.r c] 24)) wr ∧ Hid (encCheck l b i m = firstFrom (encRowB l b i m) 0 (m.r - k) k)) (fun s _ => m.r - (intOf s).toNat)
  case atStart => exact ⟨0, by omega, rfl, Below.refl _ _, Hv2⟩
  case round =>
    obtain ⟨k, hk, rfl, hb, hr⟩ := hrel
    obtain ⟨⟨c0, c1, c2, c3⟩, hsz, hbw⟩ := box4 hb
    by_cases hlt : k < m.r
    · obtain ⟨eb, eo, q, cq, rfl, heb, hrow, hcells⟩ := (HE.out.below (Nat.le_refl _) hbw).row hlt
      have hLk := (HF.out.2 k hlt).1
      have hsz1 : w.heap.size + 1 ≤ wr.heap.size := by have := hb.size; simp at this; omega
      have Hb := Lib.hid hb
      have Hbw := Lib.hid hbw
      have Hcs := Lib.hid hcells
      have hk0 : (0 : Int) ≤ (k : Int) := by omega
      have hk1 : (k : Int) < (m.r : Int) := by omega
      clear hb hbw hcells
      by_cases e1 : (m.L k : Int) = i
      case neg =>
        have Hv3 := Lib.hid (show encCheck l b i m = 11 by
          rw [hr.out, firstFrom_some hlt (r := 11)]
          unfold encRowB; rw [if_pos e1])
        have e1' : ((m.L k : Int) != i) = true := by simpa using e1
        clear e1
        go_wp2
        go_ret
        exact ⟨ret_int Hv3.out.symm, (by repeat (first | exact Hbw.out | refine below_dr ?_))⟩
      have e1' : ((m.L k : Int) != i) = false := by simpa using e1
      have E1 := Lib.hid e1
      have hL6 : m.L k ≤ 256 := by omega
      clear e1
      go_wp2
      go_loopw [59] (fun s wr2 => ∃ j : Nat, j ≤ m.L k ∧ s = .int .i64 j ∧ Below wr.heap.size wr wr2 ∧ Hid (encRowV l b m k = firstFrom (encCellB l b m k) 0 (m.L k - j) j)) (fun s _ => m.L k - (intOf s).toNat)
      case atStart => exact ⟨0, by omega, rfl, (by first | exact Below.refl _ _ | exact Drawn.below ⟨_, rfl⟩ _), Lib.hid rfl⟩
      case round =>
        obtain ⟨j, hj, rfl, hb2, hr2⟩ := hrel
        have hbb := Hb.out.trans (hb2.mono hsz1)
        obtain ⟨⟨c0, c1, c2, c3⟩, hsz2, hbw2⟩ := box4 hbb
        have hrow2 := (hb2.cell (p := ⟨eb, eo + k, none⟩) heb).trans hrow
        have Hb2 := Lib.hid hb2
        have Hbw2 := Lib.hid hbw2
        by_cases hltj : j < m.L k
        · obtain ⟨fb, fo, rfl, hfb, d0, d1⟩ := EM.cells (Hcs.out.mono (Nat.le_refl _) hb2) hltj
          have hdz := (HF.out.2 k hlt).2 j hltj
          have hj0 : (0 : Int) ≤ (j : Int) := by omega
          have hj1 : (j : Int) < (m.L k : Int) := by omega
          clear hb2 hbb hbw2
          obtain ⟨t, ht⟩ : ∃ t, m.T k j = t := ⟨_, rfl⟩
          obtain ⟨x, hx⟩ : ∃ t, m.D k j = t := ⟨_, rfl⟩
          rw [ht] at d0
          rw [hx] at d1 hdz
          have Hcb := Lib.hid (show encCellB l b m k j = if t < 0 ∨ (m.r : Int) ≤ t then some 25 else if (x.size : Int) ≠ b ∨ wordCheck l x.data.toList ≠ 0 then some 13 else none by unfold encCellB; rw [ht, hx])
          have Hret := Lib.hid (fun (v : Int) (hv0 : v ≠ 0) (h : encCellB l b m k j = some v) => show encCheck l b i m = v by
            have h5 : encRowV l b m k = v := by rw [hr2.out, firstFrom_some hltj h]
            rw [hr.out, firstFrom_some hlt (r := v)]
            unfold encRowB
            rw [if_neg (by simpa using E1.out), h5, if_pos hv0])
          have Hnext := Lib.hid (fun (h : encCellB l b m k j = none) => show encRowV l b m k = firstFrom (encCellB l b m k) 0 (m.L k - (j + 1)) (j + 1) by rw [hr2.out, firstFrom_none hltj h])
          clear ht hx hr hr2
          by_cases f1 : t < 0 ∨ (m.r : Int) ≤ t
          · have Hv3 := Lib.hid (Hret.out 25 (by decide) (by rw [Hcb.out, if_pos f1]))
            clear Hret Hnext Hcb
            go_wp2
            all_goals
              go_ret
              exact ⟨ret_int Hv3.out.symm, (by repeat (first | exact Hbw2.out.alloc Hbw2.out.size _ | refine below_dr ?_))⟩
          have f1a : ¬ t < 0 := by omega
          have f1b : ¬ (m.r : Int) ≤ t := by omega
          by_cases f2 : (x.size : Int) = b
          case neg =>
            have Hv3 := Lib.hid (Hret.out 13 (by decide) (by rw [Hcb.out, if_neg f1, if_pos (.inl f2)]))
            have f2' : ((x.size : Int) != b) = true := by simpa using f2
            clear Hret Hnext Hcb f1 f2
            go_wp2
            go_ret
            exact ⟨ret_int Hv3.out.symm, (by repeat (first | exact Hbw2.out.alloc Hbw2.out.size _ | refine below_dr ?_))⟩
          have f2' : ((x.size : Int) != b) = false := by simpa using f2
          by_cases f3 : wordCheck l x.data.toList = 0
          case neg =>
            have Hv3 := Lib.hid (Hret.out 13 (by decide) (by rw [Hcb.out, if_neg f1, if_pos (.inr f3)]))
            have f3' : (wordCheck l x.data.toList != 0) = true := by simpa using f3
            clear Hret Hnext Hcb f1 f3 f2
            go_wp2_with (go_at_call 37; refine (wordCheck_any _ _ (by unfold maxLen; omega) _).mono ?_; rintro e w' ⟨rfl, n, rfl⟩)
            go_ret
            exact ⟨ret_int Hv3.out.symm, (by repeat (first | exact Hbw2.out.alloc Hbw2.out.size _ | refine below_dr ?_))⟩
          have f3' : (wordCheck l x.data.toList != 0) = false := by simpa using f3
          have Hn2 := Lib.hid (Hnext.out (by rw [Hcb.out, if_neg f1, if_neg (fun h => h.elim (fun h => h f2) (fun h => h f3))]))
          clear Hret Hnext Hcb f1 f2 f3
          go_wp2_with (go_at_call 37; refine (wordCheck_any _ _ (by unfold maxLen; omega) _).mono ?_; rintro e w' ⟨rfl, n, rfl⟩)
          go_roundw
          case rel => exact ⟨j + 1, by omega, by go_num, (by repeat (first | exact Hb2.out.alloc Hb2.out.size _ | refine below_dr ?_)), Hn2⟩
          case measure => simp [intOf]; omega
        · have hj2 : ¬ (j : Int) < (m.L k : Int) := by omega
          have hje : j = m.L k := by omega
          have Hn2 := Lib.hid (show encCheck l b i m = firstFrom (encRowB l b i m) 0 (m.r - (k + 1)) (k + 1) by
            have h5 : encRowV l b m k = 0 := by rw [hr2.out, firstFrom_end (by omega)]
            rw [hr.out, firstFrom_none hlt]
            unfold encRowB
            rw [if_neg (by simpa using E1.out), h5, if_neg (by decide)])
          have hbb2 := Hb.out.trans (Hb2.out.mono hsz1)
          have HB9 := Lib.hid hbb2
          clear hr hr2 hje hb2 hbb hbw2 hbb2
          go_wp2
          go_roundw
          case rel => exact ⟨k + 1, by omega, by go_num, HB9.out, Hn2⟩
          case measure => simp [intOf]; omega
    · have hk2 : ¬ (k : Int) < (m.r : Int) := by omega
      have Hv3 := Lib.hid (show encCheck l b i m = 0 by rw [hr.out, firstFrom_end (by omega)])
      have Hbw := Lib.hid hbw
      clear hr hb hbw
      go_wp2
      go_ret
      exact ⟨ret_int Hv3.out.symm, (by repeat (first | exact Hbw.out | refine below_dr ?_))⟩
end Go.Proofs.Ytcafeffgaokiaaa
