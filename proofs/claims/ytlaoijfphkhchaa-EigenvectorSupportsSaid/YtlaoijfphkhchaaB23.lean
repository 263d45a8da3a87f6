/- The walk of integer.Check. The walks of matrix.Check and of what it asks, at any lists of lists. The walks of matrix.Check, bad and square. -/
import Derived.Test.YtlaoijfphkhchaaB3
import Derived.Laws.StructEq
import Derived.Test.YtlaoijfphkhchaaB16
import Derived.Test.YtlaoijfphkhchaaB12
namespace Go.Proofs.Ytlaoijfphkhchaa
open Go.RowKit

/-- What integer.Check returns. -/
def chkZ (z : ZI) : Int := if z = canon (valZ z) then 0 else 1
set_option maxRecDepth 100000 in
set_option maxHeartbeats 8000000 in
theorem check_any (z : ZI) (hz : z.mag.size ≤ 100000000) (w : World) :
    Calls Try.prog 72 #[.agg #[.bool z.neg, .string z.mag]] w fun e w' => e = .returned (.int .i64 (chkZ z)) ∧ Below w.heap.size w w' := by
  obtain ⟨m, hm⟩ : ∃ m, canon (valZ z) = m := ⟨_, rfl⟩
  have Hsm : Hid (mkZ z.neg (absZ z) = m) := Lib.hid (by rw [sameZ_val, hm])
  have hres : chkZ z = if ((m.neg == z.neg) && (m.mag.toList == z.mag.toList)) = true then 0 else 1 := by
    unfold chkZ
    rw [hm]
    have : (z = m) ↔ ((m.neg == z.neg) && (m.mag.toList == z.mag.toList)) = true := by
      rcases z with ⟨a, ⟨⟨s⟩⟩⟩
      rcases m with ⟨b, ⟨⟨t⟩⟩⟩
      rw [ByteArray.toList_eq, ByteArray.toList_eq]
      simp only [Bool.and_eq_true, beq_iff_eq, ZI.mk.injEq, ByteArray.mk.injEq, Array.mk.injEq]
      exact ⟨fun h => ⟨h.1.symm, h.2.symm⟩, fun h => ⟨h.1.symm, h.2.symm⟩⟩
    by_cases h : z = m
    · rw [if_pos h, if_pos (this.1 h)]
    · rw [if_neg h, if_neg (fun k => h (this.2 k))]
  clear hm
  cases hb1 : (m.neg == z.neg) <;> cases hb2 : (m.mag.toList == z.mag.toList)
  all_goals
   rw [hb1, hb2] at hres
   simp only [Bool.and_true, Bool.and_false, Bool.and_self, if_true, Bool.false_eq_true, if_false] at hres
   have Hres := Lib.hid hres
   clear hres
   go_enter Try.func72, Try.ntmps72
   go_wp2_with fail
   obtain ⟨W, hW⟩ : ∃ W, (w.alloc (.cells #[.bool z.neg, .string z.mag] 28)) = W := ⟨_, rfl⟩
   have hA : BoxAt W w.heap.size (.bool z.neg) (.string z.mag) := by rw [← hW]; exact BoxAt.new w (.bool z.neg) (.string z.mag) 28
   have hb0 : Below w.heap.size w W := by rw [← hW]; exact (Below.refl _ _).alloc (Nat.le_refl _) _
   have hs0 : W.heap.size = w.heap.size + 1 := by rw [← hW]; simp
   rw [hW]
   have HA := Lib.hid hA
   have Hb0 := Lib.hid hb0
   have Hs0 := Lib.hid hs0
   obtain ⟨a0, a1, _, _, _⟩ := hA
   clear hb0 hs0 hW
   go_region_held3 (fun w' => w'.cell? ⟨w.heap.size, 0, none⟩ = some (.bool z.neg) ∧ w'.cell? ⟨w.heap.size, 1, none⟩ = some (.string z.mag)) (go_keep)
     (first
       | (go_at_call 48; go_fit (digits_any z hz _); rintro e w2 ⟨p, c, rfl, hN, hc1, hc2, hb⟩; have HN := Lib.hid hN; have Hb2 := Lib.hid (show Below W.heap.size W w2 from Below.trans (by repeat (first | exact Below.refl _ _ | refine Below.drew ?_ | refine below_dr ?_)) (hb.mono (Nat.le_refl _))); have HA2 := Lib.hid (HA.out.below Hb2.out (by have := Hs0.out; omega)); obtain ⟨b0, b1, _, _, _⟩ := HA2.out; clear hb hN)
       | (go_at_call 49; go_fit (number_digs _ _ p c _ (HN.out.below (Nat.le_refl _) (by repeat (first | exact Below.refl _ _ | refine Below.drew ?_ | refine below_dr ?_))) hc1 hc2); rintro e w3 ⟨rfl, hb⟩; rw [Hsm.out]; have Hb3 := Lib.hid (show Below W.heap.size W w3 from Below.trans Hb2.out (Below.trans (by repeat (first | exact Below.refl _ _ | refine Below.drew ?_ | refine below_dr ?_)) (hb.mono (by simpa using Hb2.out.size)))); have HA3 := Lib.hid (HA.out.below Hb3.out (by have := Hs0.out; omega)); obtain ⟨b0, b1, _, _, _⟩ := HA3.out; clear hb))
   go_wp2
   go_ret
   exact ⟨by rw [Hres.out]; rfl, Hb0.out.trans (by repeat (first | exact Hb3.out.mono (by have := Hs0.out; omega) | refine Below.drew ?_ | refine below_dr ?_))⟩
end Go.Proofs.Ytlaoijfphkhchaa
namespace Go.Proofs.Ytlaoijfphkhchaa
open Go.RowKit Go.Shelf

/-- A list of lists of numbers, whatever they are. -/
structure GM where
  r : Nat
  L : Nat → Nat
  Z : Nat → Nat → ZI
def GRow (w : World) (p : Option Addr) (c : Nat) (Z : Nat → ZI) : Prop := SlAt 2 w p c (fun k j => zg (Z k) j)
def GM.At (m : GM) (w : World) (p : Option Addr) : Prop := ∃ H : Nat → Option Addr × Nat, SlAt 1 w p m.r (fun i _ => .slice (H i).1 (m.L i) (H i).2) ∧ ∀ i, i < m.r → GRow w (H i).1 (m.L i) (m.Z i)
theorem GM.At.below {m : GM} {w w' : World} {p : Option Addr} (h : m.At w p) {B : Nat} (hB : w.heap.size ≤ B) (hb : Below B w w') : m.At w' p := by
  obtain ⟨H, h1, h2⟩ := h
  exact ⟨H, h1.mono hB hb, fun i hi => (h2 i hi).mono hB hb⟩
/-- The sizes that the walks need. -/
def GM.Fit (m : GM) : Prop := m.r ≤ 1000000 ∧ ∀ i, i < m.r → m.L i ≤ 1000000 ∧ ∀ k, k < m.L i → (m.Z i k).mag.size ≤ 100000000
def okZ (z : ZI) : Bool := decide (z = canon (valZ z))
def GM.chk (m : GM) : Int :=
  if m.r = 0 ∨ m.L 0 = 0 then 5 else if 32 < m.r ∨ 32 < m.L 0 then 4 else if anyN (fun i => m.L i != m.L 0) m.r then 11 else if anyN (fun i => anyN (fun k => !okZ (m.Z i k)) (m.L i)) m.r then 1 else 0
def RetInt (v : Int) (w : World) (e : Ending) (w' : World) : Prop := e = .returned (.int .i64 v) ∧ Below w.heap.size w w'

set_option maxRecDepth 100000 in
set_option maxHeartbeats 4000000 in
theorem odd1_any (z : ZI) (hz : z.mag.size ≤ 100000000) (w : World) :
    Calls Try.prog 133 #[.agg #[.bool z.neg, .string z.mag]] w (RetB (!okZ z) w) := by
  go_enter Try.func133, Try.ntmps133
  go_wp2_with fail
  refine (check_any z hz _).mono ?_
  rintro e w2 ⟨rfl, hb⟩
  dsimp only
  have Hb : Hid (Below w.heap.size w w2) := Lib.hid (((Below.refl w.heap.size w).alloc (Nat.le_refl _) _).trans (hb.mono (by simp)))
  clear hb
  by_cases h : z = canon (valZ z)
  · have hc : chkZ z = 0 := if_pos h
    have ho : okZ z = true := decide_eq_true h
    have Ho := Lib.hid ho
    rw [hc]
    clear h hc ho
    go_wp2
    go_ret
    exact ⟨by rw [Ho.out]; rfl, Hb.out⟩
  · have hc : chkZ z = 1 := if_neg h
    have ho : okZ z = false := decide_eq_false h
    have Ho := Lib.hid ho
    rw [hc]
    clear h hc ho
    go_wp2
    go_ret
    exact ⟨by rw [Ho.out]; rfl, Hb.out⟩

set_option maxRecDepth 100000 in
set_option maxHeartbeats 4000000 in
theorem odd_any (n : Nat) (p : Option Addr) (c : Nat) (Z : Nat → ZI) (hn : n ≤ 1000000000000) (w : World) (hp : GRow w p n Z) (hz : ∀ k, k < n → (Z k).mag.size ≤ 100000000) :
    Calls Try.prog 130 #[.slice p n c] w (RetB (anyN (fun k => !okZ (Z k)) n) w) := by
  have HC := Lib.hid (containsFn_z n p c Z 133 #[] (fun k => !okZ (Z k)) w (enters_of Try.func133 (by kernel_rfl) rfl) hn hp (fun k W hk _ => odd1_any (Z k) (hz k hk) W))
  go_enter Try.func130, Try.ntmps130
  go_wp2_with fail
  refine HC.out.mono ?_
  rintro e w2 ⟨rfl, hb⟩
  dsimp only
  have Hb := Lib.hid hb
  clear hb
  go_wp2
  go_ret
  exact ⟨rfl, Hb.out⟩

set_option maxRecDepth 100000 in
set_option maxHeartbeats 4000000 in
theorem check1_any (m : GM) (p : Option Addr) (cp g l : Nat) (q : Option Addr) (cq : Nat) (h0 : 0 < m.r) (w : World) (hg : w.cell? ⟨g, 0, none⟩ = some (.slice p m.r cp)) (hm : m.At w p) :
    Calls Try.prog 129 #[.slice q l cq, .pointer (some ⟨g, 0, none⟩)] w (RetB (l != m.L 0) w) := by
  obtain ⟨H, h1, h2⟩ := hm
  rcases h1 with h | ⟨b, off, rfl, hlt, hc⟩
  · omega
  have a2 : w.cell? ⟨b, off, none⟩ = some (.slice (H 0).1 (m.L 0) (H 0).2) := by simpa using hc 0 h0 0 (by omega)
  have r0 : (0 : Int) < (m.r : Int) := by omega
  generalize m.r = r at *
  generalize m.L 0 = c at *
  generalize (H 0).1 = q1 at *
  generalize (H 0).2 = c1 at *
  clear hc h2
  by_cases h : l = c
  · have e1 : ((l : Int) != (c : Int)) = false := by rw [h, bne_self_eq_false]
    have e2 : (l != c) = false := by rw [h, bne_self_eq_false]
    rw [e2]
    clear h e2
    go_enter Try.func129, Try.ntmps129
    go_wp2
    go_ret
    exact ⟨rfl, by first | exact Below.refl _ _ | exact (Below.refl _ _).drew⟩
  · have e1 : ((l : Int) != (c : Int)) = true := by rw [bne_iff_ne]; omega
    have e2 : (l != c) = true := by rw [bne_iff_ne]; exact h
    rw [e2]
    clear h e2
    go_enter Try.func129, Try.ntmps129
    go_wp2
    go_ret
    exact ⟨rfl, by first | exact Below.refl _ _ | exact (Below.refl _ _).drew⟩
end Go.Proofs.Ytlaoijfphkhchaa
namespace Go.Proofs.Ytlaoijfphkhchaa
open Go.RowKit Go.Shelf

theorem GM.head {m : GM} {w : World} {p : Option Addr} (h : m.At w p) (h0 : 0 < m.r) : ∃ b off q c, p = some ⟨b, off, none⟩ ∧ b < w.heap.size ∧ w.cell? ⟨b, off, none⟩ = some (.slice q (m.L 0) c) := by
  obtain ⟨H, h1, h2⟩ := h
  rcases h1 with h | ⟨b, off, rfl, hlt, hc⟩
  · omega
  · exact ⟨b, off, (H 0).1, (H 0).2, rfl, hlt, by simpa using hc 0 h0 0 (by omega)⟩
set_option maxRecDepth 100000 in
set_option maxHeartbeats 4000000 in
theorem check_m (m : GM) (p : Option Addr) (cp : Nat) (hf : m.Fit) (w : World) (hm : m.At w p) :
    Calls Try.prog 120 #[.slice p m.r cp] w (RetInt m.chk w) := by
  by_cases h0 : m.r = 0
  · have hc : m.chk = 5 := if_pos (.inl h0)
    rw [hc, h0]
    clear hc hf hm
    go_enter Try.func120, Try.ntmps120
    go_wp2
    go_ret
    exact ⟨rfl, (Below.refl _ _).alloc (Nat.le_refl _) _⟩
  obtain ⟨b, off, q, c, rfl, hb, hc0⟩ := GM.head hm (by omega)
  by_cases h1 : m.L 0 = 0
  · have hc : m.chk = 5 := if_pos (.inr h1)
    rw [hc]
    rw [h1] at hc0
    have e0 : ((m.r : Int) == 0) = false := by rw [beq_eq_false_iff_ne]; omega
    have r0 : (0 : Int) < (m.r : Int) := by omega
    generalize m.r = r at *
    clear hc hf hm
    go_enter Try.func120, Try.ntmps120
    go_wp2
    go_ret
    exact ⟨rfl, (Below.refl _ _).alloc (Nat.le_refl _) _⟩
  have hdis : ¬ (m.r = 0 ∨ m.L 0 = 0) := by omega
  by_cases h2 : 32 < m.r
  · have hc : m.chk = 4 := (if_neg hdis).trans (if_pos (.inl h2))
    rw [hc]
    have e0 : ((m.r : Int) == 0) = false := by rw [beq_eq_false_iff_ne]; omega
    have e1 : ((m.L 0 : Int) == 0) = false := by rw [beq_eq_false_iff_ne]; omega
    have r0 : (0 : Int) < (m.r : Int) := by omega
    have r1 : (m.r : Int) > 32 := by omega
    generalize m.r = r at *
    generalize m.L 0 = l at *
    clear hc hf hm hdis
    go_enter Try.func120, Try.ntmps120
    go_wp2
    go_ret
    exact ⟨rfl, (Below.refl _ _).alloc (Nat.le_refl _) _⟩
  by_cases h3 : 32 < m.L 0
  · have hc : m.chk = 4 := (if_neg hdis).trans (if_pos (.inr h3))
    rw [hc]
    have e0 : ((m.r : Int) == 0) = false := by rw [beq_eq_false_iff_ne]; omega
    have e1 : ((m.L 0 : Int) == 0) = false := by rw [beq_eq_false_iff_ne]; omega
    have r0 : (0 : Int) < (m.r : Int) := by omega
    have r1 : ¬ (m.r : Int) > 32 := by omega
    have r2 : (m.L 0 : Int) > 32 := by omega
    generalize m.r = r at *
    generalize m.L 0 = l at *
    clear hc hf hm hdis
    go_enter Try.func120, Try.ntmps120
    go_wp2
    go_ret
    exact ⟨rfl, (Below.refl _ _).alloc (Nat.le_refl _) _⟩
  have hdis2 : ¬ (32 < m.r ∨ 32 < m.L 0) := by omega
  have hc : m.chk = if anyN (fun i => m.L i != m.L 0) m.r then 11 else if anyN (fun i => anyN (fun k => !okZ (m.Z i k)) (m.L i)) m.r then 1 else 0 := (if_neg hdis).trans (if_neg hdis2)
  have Hc := Lib.hid hc
  have hm2 := hm
  obtain ⟨H, hH, hR⟩ := hm
  have hb0 : Below w.heap.size w (w.alloc (.cells #[.slice (some ⟨b, off, none⟩) m.r cp] 63)) := (Below.refl _ w).alloc (Nat.le_refl _) _
  have HT1 := Lib.hid (containsFn_r m.r (some ⟨b, off, none⟩) cp (fun i => .slice (H i).1 (m.L i) (H i).2) 129 #[.pointer (some ⟨w.heap.size, 0, none⟩)] (fun i => m.L i != m.L 0) (w.alloc (.cells #[.slice (some ⟨b, off, none⟩) m.r cp] 63)) (enters_of Try.func129 (by kernel_rfl) rfl) (by omega) (hH.mono (Nat.le_refl _) hb0) (fun k W hk hW => by
    refine check1_any m (some ⟨b, off, none⟩) cp w.heap.size (m.L k) (H k).1 (H k).2 (by omega) W ?_ (hm2.below (Nat.le_refl _) (hb0.trans (hW.mono (by simp))))
    rw [hW.cell (p := ⟨w.heap.size, 0, none⟩) (by simp)]; simp))
  have HT2 := Lib.hid (fun (W : World) (hW : Below w.heap.size w W) => containsFn_r m.r (some ⟨b, off, none⟩) cp (fun i => .slice (H i).1 (m.L i) (H i).2) 130 #[] (fun i => anyN (fun k => !okZ (m.Z i k)) (m.L i)) W (enters_of Try.func130 (by kernel_rfl) rfl) (by omega) (hH.mono (Nat.le_refl _) hW) (fun k V hk hV => by
    have hV2 := hW.trans (hV.mono hW.size)
    exact odd_any (m.L k) (H k).1 (H k).2 (m.Z k) (by have := (hf.2 k hk).1; omega) V ((hR k hk).mono (Nat.le_refl _) hV2) (hf.2 k hk).2))
  have e0 : ((m.r : Int) == 0) = false := by rw [beq_eq_false_iff_ne]; omega
  have e1 : ((m.L 0 : Int) == 0) = false := by rw [beq_eq_false_iff_ne]; omega
  have r0 : (0 : Int) < (m.r : Int) := by omega
  have r1 : ¬ (m.r : Int) > 32 := by omega
  have r2 : ¬ (m.L 0 : Int) > 32 := by omega
  clear hc hf hm2 hdis hdis2 hH hR
  generalize hP1 : anyN (fun i => m.L i != m.L 0) m.r = P1 at *
  generalize hP2 : anyN (fun i => anyN (fun k => !okZ (m.Z i k)) (m.L i)) m.r = P2 at *
  generalize m.chk = v at *
  clear hP1 hP2
  go_enter Try.func120, Try.ntmps120
  go_wp2_with fail
  refine HT1.out.mono ?_
  rintro e w2 ⟨rfl, hb2⟩
  dsimp only
  have Hb2 := Lib.hid (hb0.trans (hb2.mono (by simp)))
  have ha2 : w2.cell? ⟨w.heap.size, 0, none⟩ = some (.slice (some ⟨b, off, none⟩) m.r cp) := by
    rw [hb2.cell (p := ⟨w.heap.size, 0, none⟩) (by simp)]; simp
  clear hb2 hb0 HT1
  cases P1
  · go_wp2_with fail
    refine (HT2.out w2 Hb2.out).mono ?_
    rintro e w3 ⟨rfl, hb3⟩
    dsimp only
    have Hb3 := Lib.hid (Hb2.out.trans (hb3.mono Hb2.out.size))
    clear hb3
    cases P2
    · go_wp2
      go_ret
      exact ⟨by rw [Hc.out]; rfl, Hb3.out⟩
    · go_wp2
      go_ret
      exact ⟨by rw [Hc.out]; rfl, Hb3.out⟩
  · go_wp2
    go_ret
    exact ⟨by rw [Hc.out]; rfl, Hb2.out⟩

set_option maxRecDepth 100000 in
set_option maxHeartbeats 4000000 in
theorem bad1_any (m : GM) (p : Option Addr) (cp : Nat) (hf : m.Fit) (w : World) (hm : m.At w p) :
    Calls Try.prog 119 #[.slice p m.r cp] w (RetB (m.chk != 0) w) := by
  have HC := Lib.hid (check_m m p cp hf w hm)
  clear hf hm
  generalize m.chk = v at *
  generalize m.r = r at *
  go_enter Try.func119, Try.ntmps119
  go_wp2_with fail
  refine HC.out.mono ?_
  rintro e w2 ⟨rfl, hb⟩
  dsimp only
  have Hb := Lib.hid hb
  clear hb HC
  go_wp2
  go_ret
  exact ⟨rfl, Hb.out⟩

set_option maxRecDepth 100000 in
set_option maxHeartbeats 4000000 in
theorem bad_any (n : Nat) (p : Option Addr) (c : Nat) (M : Nat → GM) (Q : Nat → Option Addr) (C : Nat → Nat) (hn : n ≤ 1000000) (hf : ∀ k, k < n → (M k).Fit) (w : World) (hp : SlAt 1 w p n (fun k _ => .slice (Q k) (M k).r (C k))) (hm : ∀ k, k < n → (M k).At w (Q k)) :
    Calls Try.prog 102 #[.slice p n c] w (RetB (anyN (fun k => (M k).chk != 0) n) w) := by
  have HC := Lib.hid (containsFn_m n p c (fun k => .slice (Q k) (M k).r (C k)) 119 #[] (fun k => (M k).chk != 0) w (enters_of Try.func119 (by kernel_rfl) rfl) (by omega) hp (fun k W hk hW =>
    bad1_any (M k) (Q k) (C k) (hf k hk) W ((hm k hk).below (Nat.le_refl _) hW)))
  clear hp hm hf
  go_enter Try.func102, Try.ntmps102
  go_wp2_with fail
  refine HC.out.mono ?_
  rintro e w2 ⟨rfl, hb⟩
  dsimp only
  have Hb := Lib.hid hb
  clear hb HC
  go_wp2
  go_ret
  exact ⟨rfl, Hb.out⟩

def GM.sq (m : GM) : Int := if m.chk ≠ 0 then 1 else if m.r ≠ m.L 0 then 11 else 0
theorem GM.chk_zero {m : GM} (h : m.chk = 0) : 0 < m.r ∧ 0 < m.L 0 ∧ m.r ≤ 32 ∧ m.L 0 ≤ 32 ∧ (∀ i, i < m.r → m.L i = m.L 0) ∧ ∀ i, i < m.r → ∀ k, k < m.L i → m.Z i k = canon (valZ (m.Z i k)) := by
  unfold GM.chk at h
  split at h
  · cases h
  split at h
  · cases h
  split at h
  · cases h
  split at h
  · cases h
  rename_i h1 h2 h3 h4
  rw [Bool.not_eq_true, anyN_false] at h3 h4
  refine ⟨by omega, by omega, by omega, by omega, fun i hi => by simpa using h3 i hi, fun i hi k hk => ?_⟩
  have h5 := h4 i hi
  rw [anyN_false] at h5
  have h6 := h5 k hk
  simpa [okZ] using h6
/-- The numbers of a matrix. -/
def GM.F (m : GM) (i k : Nat) : Int := valZ (m.Z i k)
theorem GM.mat {m : GM} {w : World} {p : Option Addr} (h : m.At w p) (hc : m.chk = 0) : MatF w p m.r (m.L 0) m.F := by
  obtain ⟨H, h1, h2⟩ := h
  obtain ⟨_, _, _, _, hL, hZ⟩ := GM.chk_zero hc
  refine ⟨H, h1.congr fun i hi _ _ => by rw [hL i hi], fun i hi => ?_⟩
  have h3 := h2 i hi
  have hz := hZ i hi
  rw [hL i hi] at h3 hz
  refine h3.congr fun k hk j _ => ?_
  show zg (m.Z i k) j = zc (valZ (m.Z i k)) j
  unfold zg zc
  rw [← hz k hk]
/-- A matrix of numbers, as a list of lists. -/
def gmF (r c : Nat) (F : Nat → Nat → Int) : GM := ⟨r, fun _ => c, fun i k => canon (F i k)⟩
theorem gmF_at {w : World} {p : Option Addr} {r c : Nat} {F : Nat → Nat → Int} (h : MatF w p r c F) : (gmF r c F).At w p := h
theorem gmF_chk (r c : Nat) (F : Nat → Nat → Int) (h1 : 0 < r) (h2 : r ≤ 32) (h3 : 0 < c) (h4 : c ≤ 32) : (gmF r c F).chk = 0 := by
  unfold GM.chk gmF
  dsimp only
  rw [if_neg (by omega), if_neg (by omega), if_neg (by rw [anyN_true]; rintro ⟨k, _, h⟩; simp at h), if_neg ?_]
  rw [anyN_true]
  rintro ⟨i, _, h⟩
  rw [anyN_true] at h
  obtain ⟨k, _, h⟩ := h
  simp [okZ, valZ_canon] at h
theorem gmF_F (r c : Nat) (F : Nat → Nat → Int) (i k : Nat) : (gmF r c F).F i k = F i k := valZ_canon _
theorem gmF_fit (r c : Nat) (F : Nat → Nat → Int) (hr : r ≤ 1000000) (hc : c ≤ 1000000) (h : Small r c F) : (gmF r c F).Fit := ⟨hr, fun i hi => ⟨hc, fun k hk => h i k hi hk⟩⟩

set_option maxRecDepth 100000 in
set_option maxHeartbeats 4000000 in
theorem square_any (m : GM) (p : Option Addr) (cp : Nat) (hf : m.Fit) (w : World) (hm : m.At w p) :
    Calls Try.prog 79 #[.slice p m.r cp] w (RetInt m.sq w) := by
  have HC := Lib.hid (fun (W : World) (g : Nat) (hW : Below w.heap.size w W) (hg : W.cell? ⟨g, 0, none⟩ = some (.slice p m.r cp)) (hl : g < W.heap.size) => bad_any 1 (some ⟨g, 0, none⟩) 1 (fun _ => m) (fun _ => p) (fun _ => cp) (by omega) (fun _ _ => hf) W (.inr ⟨g, 0, rfl, hl, fun i hi j hj => by
    have e1 : i = 0 := by omega
    have e2 : j = 0 := by omega
    subst e1; subst e2; simpa using hg⟩) (fun _ _ => hm.below (Nat.le_refl _) hW))
  have hv : m.sq = if m.chk ≠ 0 then 1 else if m.r ≠ m.L 0 then 11 else 0 := rfl
  by_cases hc : m.chk = 0
  · have e1 : anyN (fun _ => m.chk != 0) 1 = false := by simp [anyN, hc]
    rw [if_neg (by omega)] at hv
    obtain ⟨hr0, hc0, _⟩ := GM.chk_zero hc
    obtain ⟨b, off, q, c, rfl, hb, a0⟩ := GM.head hm hr0
    have Hv := Lib.hid hv
    rw [e1] at HC
    clear hv hc e1 hf hm
    have r0 : (0 : Int) < (m.r : Int) := by omega
    generalize m.sq = v at *
    go_enter Try.func79, Try.ntmps79
    go_wp2_with fail
    refine (HC.out _ w.heap.size ((Below.refl _ w).alloc (Nat.le_refl _) _) (by simp) (by simp)).mono ?_
    rintro e w2 ⟨rfl, hb2⟩
    dsimp only
    have hb3 : Below w.heap.size w w2 := ((Below.refl _ w).alloc (Nat.le_refl _) _).trans (hb2.mono (by simp))
    have a2 : w2.cell? ⟨b, off, none⟩ = some (.slice q (m.L 0) c) := cell_below hb3 a0
    have Hb3 := Lib.hid hb3
    clear hb2 hb3 HC
    generalize m.L 0 = l at *
    generalize m.r = r at *
    by_cases hrl : r = l
    · have e1 : ((r : Int) != (l : Int)) = false := by rw [hrl, bne_self_eq_false]
      have Hv2 : Hid (v = 0) := Lib.hid (by rw [Hv.out, if_neg (by omega)])
      clear hrl Hv
      go_wp2
      go_ret
      exact ⟨by rw [Hv2.out]; rfl, Hb3.out⟩
    · have e1 : ((r : Int) != (l : Int)) = true := by rw [bne_iff_ne]; omega
      have Hv2 : Hid (v = 11) := Lib.hid (by rw [Hv.out, if_pos hrl])
      clear hrl Hv
      go_wp2
      go_ret
      exact ⟨by rw [Hv2.out]; rfl, Hb3.out⟩
  · have e1 : anyN (fun _ => m.chk != 0) 1 = true := by simp [anyN, hc]
    rw [if_pos hc] at hv
    rw [e1] at HC
    have Hv := Lib.hid hv
    clear hv hc e1 hf hm
    generalize m.sq = v at *
    generalize m.r = r at *
    go_enter Try.func79, Try.ntmps79
    go_wp2_with fail
    refine (HC.out _ w.heap.size ((Below.refl _ w).alloc (Nat.le_refl _) _) (by simp) (by simp)).mono ?_
    rintro e w2 ⟨rfl, hb2⟩
    dsimp only
    have Hb3 := Lib.hid (((Below.refl _ w).alloc (Nat.le_refl _) _).trans (hb2.mono (by simp)))
    clear hb2 HC
    go_wp2
    go_ret
    exact ⟨by rw [Hv.out]; rfl, Hb3.out⟩
end Go.Proofs.Ytlaoijfphkhchaa
