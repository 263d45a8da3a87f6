/- The walks of matrix.Check, bad and square. -/
import Derived.Test.YtlaoijfphkhchaaGreatB18
import Derived.Test.YtlaoijfphkhchaaGreatB10
namespace Go.Proofs.YtlaoijfphkhchaaGreat
open Go.RowKit Go.Shelf

theorem GM.head {m : GM} {w : World} {p : Option Addr} (h : m.At w p) (h0 : 0 < m.r) : ∃ b off q c, p = some ⟨b, off, none⟩ ∧ b < w.heap.size ∧ w.cell? ⟨b, off, none⟩ = some (.slice q (m.L 0) c) := by
  obtain ⟨H, h1, h2⟩ := h
  rcases h1 with h | ⟨b, off, rfl, hlt, hc⟩
  · omega
  · exact ⟨b, off, (H 0).1, (H 0).2, rfl, hlt, by simpa using hc 0 h0 0 (by omega)⟩
set_option maxRecDepth 100000 in
set_option maxHeartbeats 4000000 in
theorem check_m (m : GM) (p : Option Addr) (cp : Nat) (hf : m.Fit) (w : World) (hm : m.At w p) :
    Calls Tryz.prog 98 #[.slice p m.r cp] w (RetInt m.chk w) := by
  by_cases h0 : m.r = 0
  · have hc : m.chk = 5 := if_pos (.inl h0)
    rw [hc, h0]
    clear hc hf hm
    go_enter Tryz.func98, Tryz.ntmps98
    go_wp2
    go_ret
    exact ⟨rfl, (Below.refl _ _).alloc (Nat.le_refl _) _⟩
  obtain ⟨b, off, q, c, rfl, hb, hc0⟩ := GM.head hm (by omega)
  by_cases h1 : m.L 0 = 0
  · have hc : m.chk = 5 := if_pos (.inr h1)
    rw [hc]
    rw [h1] at hc0
    have e0 : ((m.r : Int) == 0) = false := by rw [beq_eq_false_iff_ne]; omega
    have r0 : (0 : Int) < (m.r : Int) := by omega
    generalize m.r = r at *
    clear hc hf hm
    go_enter Tryz.func98, Tryz.ntmps98
    go_wp2
    go_ret
    exact ⟨rfl, (Below.refl _ _).alloc (Nat.le_refl _) _⟩
  have hdis : ¬ (m.r = 0 ∨ m.L 0 = 0) := by omega
  by_cases h2 : 32 < m.r
  · have hc : m.chk = 4 := (if_neg hdis).trans (if_pos (.inl h2))
    rw [hc]
    have e0 : ((m.r : Int) == 0) = false := by rw [beq_eq_false_iff_ne]; omega
    have e1 : ((m.L 0 : Int) == 0) = false := by rw [beq_eq_false_iff_ne]; omega
    have r0 : (0 : Int) < (m.r : Int) := by omega
    have r1 : (m.r : Int) > 32 := by omega
    generalize m.r = r at *
    generalize m.L 0 = l at *
    clear hc hf hm hdis
    go_enter Tryz.func98, Tryz.ntmps98
    go_wp2
    go_ret
    exact ⟨rfl, (Below.refl _ _).alloc (Nat.le_refl _) _⟩
  by_cases h3 : 32 < m.L 0
  · have hc : m.chk = 4 := (if_neg hdis).trans (if_pos (.inr h3))
    rw [hc]
    have e0 : ((m.r : Int) == 0) = false := by rw [beq_eq_false_iff_ne]; omega
    have e1 : ((m.L 0 : Int) == 0) = false := by rw [beq_eq_false_iff_ne]; omega
    have r0 : (0 : Int) < (m.r : Int) := by omega
    have r1 : ¬ (m.r : Int) > 32 := by omega
    have r2 : (m.L 0 : Int) > 32 := by omega
    generalize m.r = r at *
    generalize m.L 0 = l at *
    clear hc hf hm hdis
    go_enter Tryz.func98, Tryz.ntmps98
    go_wp2
    go_ret
    exact ⟨rfl, (Below.refl _ _).alloc (Nat.le_refl _) _⟩
  have hdis2 : ¬ (32 < m.r ∨ 32 < m.L 0) := by omega
  have hc : m.chk = if anyN (fun i => m.L i != m.L 0) m.r then 11 else if anyN (fun i => anyN (fun k => !okZ (m.Z i k)) (m.L i)) m.r then 1 else 0 := (if_neg hdis).trans (if_neg hdis2)
  have Hc := Lib.hid hc
  have hm2 := hm
  obtain ⟨H, hH, hR⟩ := hm
  have hb0 : Below w.heap.size w (w.alloc (.cells #[.slice (some ⟨b, off, none⟩) m.r cp] 64)) := (Below.refl _ w).alloc (Nat.le_refl _) _
  have HT1 := Lib.hid (containsFn_r m.r (some ⟨b, off, none⟩) cp (fun i => .slice (H i).1 (m.L i) (H i).2) 107 #[.pointer (some ⟨w.heap.size, 0, none⟩)] (fun i => m.L i != m.L 0) (w.alloc (.cells #[.slice (some ⟨b, off, none⟩) m.r cp] 64)) (enters_of Tryz.func107 (by kernel_rfl) rfl) (by omega) (hH.mono (Nat.le_refl _) hb0) (fun k W hk hW => by
    refine check1_any m (some ⟨b, off, none⟩) cp w.heap.size (m.L k) (H k).1 (H k).2 (by omega) W ?_ (hm2.below (Nat.le_refl _) (hb0.trans (hW.mono (by simp))))
    rw [hW.cell (p := ⟨w.heap.size, 0, none⟩) (by simp)]; simp))
  have HT2 := Lib.hid (fun (W : World) (hW : Below w.heap.size w W) => containsFn_r m.r (some ⟨b, off, none⟩) cp (fun i => .slice (H i).1 (m.L i) (H i).2) 108 #[] (fun i => anyN (fun k => !okZ (m.Z i k)) (m.L i)) W (enters_of Tryz.func108 (by kernel_rfl) rfl) (by omega) (hH.mono (Nat.le_refl _) hW) (fun k V hk hV => by
    have hV2 := hW.trans (hV.mono hW.size)
    exact odd_any (m.L k) (H k).1 (H k).2 (m.Z k) (by have := (hf.2 k hk).1; omega) V ((hR k hk).mono (Nat.le_refl _) hV2) (hf.2 k hk).2))
  have e0 : ((m.r : Int) == 0) = false := by rw [beq_eq_false_iff_ne]; omega
  have e1 : ((m.L 0 : Int) == 0) = false := by rw [beq_eq_false_iff_ne]; omega
  have r0 : (0 : Int) < (m.r : Int) := by omega
  have r1 : ¬ (m.r : Int) > 32 := by omega
  have r2 : ¬ (m.L 0 : Int) > 32 := by omega
  clear hc hf hm2 hdis hdis2 hH hR
  generalize hP1 : anyN (fun i => m.L i != m.L 0) m.r = P1 at *
  generalize hP2 : anyN (fun i => anyN (fun k => !okZ (m.Z i k)) (m.L i)) m.r = P2 at *
  generalize m.chk = v at *
  clear hP1 hP2
  go_enter Tryz.func98, Tryz.ntmps98
  go_wp2_with fail
  refine HT1.out.mono ?_
  rintro e w2 ⟨rfl, hb2⟩
  dsimp only
  have Hb2 := Lib.hid (hb0.trans (hb2.mono (by simp)))
  have ha2 : w2.cell? ⟨w.heap.size, 0, none⟩ = some (.slice (some ⟨b, off, none⟩) m.r cp) := by
    rw [hb2.cell (p := ⟨w.heap.size, 0, none⟩) (by simp)]; simp
  clear hb2 hb0 HT1
  cases P1
  · go_wp2_with fail
    refine (HT2.out w2 Hb2.out).mono ?_
    rintro e w3 ⟨rfl, hb3⟩
    dsimp only
    have Hb3 := Lib.hid (Hb2.out.trans (hb3.mono Hb2.out.size))
    clear hb3
    cases P2
    · go_wp2
      go_ret
      exact ⟨by rw [Hc.out]; rfl, Hb3.out⟩
    · go_wp2
      go_ret
      exact ⟨by rw [Hc.out]; rfl, Hb3.out⟩
  · go_wp2
    go_ret
    exact ⟨by rw [Hc.out]; rfl, Hb2.out⟩

set_option maxRecDepth 100000 in
set_option maxHeartbeats 4000000 in
theorem bad1_any (m : GM) (p : Option Addr) (cp : Nat) (hf : m.Fit) (w : World) (hm : m.At w p) :
    Calls Tryz.prog 97 #[.slice p m.r cp] w (RetB (m.chk != 0) w) := by
  have HC := Lib.hid (check_m m p cp hf w hm)
  clear hf hm
  generalize m.chk = v at *
  generalize m.r = r at *
  go_enter Tryz.func97, Tryz.ntmps97
  go_wp2_with fail
  refine HC.out.mono ?_
  rintro e w2 ⟨rfl, hb⟩
  dsimp only
  have Hb := Lib.hid hb
  clear hb HC
  go_wp2
  go_ret
  exact ⟨rfl, Hb.out⟩

set_option maxRecDepth 100000 in
set_option maxHeartbeats 4000000 in
theorem bad_any (n : Nat) (p : Option Addr) (c : Nat) (M : Nat → GM) (Q : Nat → Option Addr) (C : Nat → Nat) (hn : n ≤ 1000000) (hf : ∀ k, k < n → (M k).Fit) (w : World) (hp : SlAt 1 w p n (fun k _ => .slice (Q k) (M k).r (C k))) (hm : ∀ k, k < n → (M k).At w (Q k)) :
    Calls Tryz.prog 88 #[.slice p n c] w (RetB (anyN (fun k => (M k).chk != 0) n) w) := by
  have HC := Lib.hid (containsFn_m n p c (fun k => .slice (Q k) (M k).r (C k)) 97 #[] (fun k => (M k).chk != 0) w (enters_of Tryz.func97 (by kernel_rfl) rfl) (by omega) hp (fun k W hk hW =>
    bad1_any (M k) (Q k) (C k) (hf k hk) W ((hm k hk).below (Nat.le_refl _) hW)))
  clear hp hm hf
  go_enter Tryz.func88, Tryz.ntmps88
  go_wp2_with fail
  refine HC.out.mono ?_
  rintro e w2 ⟨rfl, hb⟩
  dsimp only
  have Hb := Lib.hid hb
  clear hb HC
  go_wp2
  go_ret
  exact ⟨rfl, Hb.out⟩

def GM.sq (m : GM) : Int := if m.chk ≠ 0 then 1 else if m.r ≠ m.L 0 then 11 else 0
theorem GM.chk_zero {m : GM} (h : m.chk = 0) : 0 < m.r ∧ 0 < m.L 0 ∧ m.r ≤ 32 ∧ m.L 0 ≤ 32 ∧ (∀ i, i < m.r → m.L i = m.L 0) ∧ ∀ i, i < m.r → ∀ k, k < m.L i → m.Z i k = canon (valZ (m.Z i k)) := by
  unfold GM.chk at h
  split at h
  · cases h
  split at h
  · cases h
  split at h
  · cases h
  split at h
  · cases h
  rename_i h1 h2 h3 h4
  rw [Bool.not_eq_true, anyN_false] at h3 h4
  refine ⟨by omega, by omega, by omega, by omega, fun i hi => by simpa using h3 i hi, fun i hi k hk => ?_⟩
  have h5 := h4 i hi
  rw [anyN_false] at h5
  have h6 := h5 k hk
  simpa [okZ] using h6
/-- The numbers of a matrix. -/
def GM.F (m : GM) (i k : Nat) : Int := valZ (m.Z i k)
theorem GM.mat {m : GM} {w : World} {p : Option Addr} (h : m.At w p) (hc : m.chk = 0) : MatF w p m.r (m.L 0) m.F := by
  obtain ⟨H, h1, h2⟩ := h
  obtain ⟨_, _, _, _, hL, hZ⟩ := GM.chk_zero hc
  refine ⟨H, h1.congr fun i hi _ _ => by rw [hL i hi], fun i hi => ?_⟩
  have h3 := h2 i hi
  have hz := hZ i hi
  rw [hL i hi] at h3 hz
  refine h3.congr fun k hk j _ => ?_
  show zg (m.Z i k) j = zc (valZ (m.Z i k)) j
  unfold zg zc
  rw [← hz k hk]
/-- A matrix of numbers, as a list of lists. -/
def gmF (r c : Nat) (F : Nat → Nat → Int) : GM := ⟨r, fun _ => c, fun i k => canon (F i k)⟩
theorem gmF_at {w : World} {p : Option Addr} {r c : Nat} {F : Nat → Nat → Int} (h : MatF w p r c F) : (gmF r c F).At w p := h
theorem gmF_chk (r c : Nat) (F : Nat → Nat → Int) (h1 : 0 < r) (h2 : r ≤ 32) (h3 : 0 < c) (h4 : c ≤ 32) : (gmF r c F).chk = 0 := by
  unfold GM.chk gmF
  dsimp only
  rw [if_neg (by omega), if_neg (by omega), if_neg (by rw [anyN_true]; rintro ⟨k, _, h⟩; simp at h), if_neg ?_]
  rw [anyN_true]
  rintro ⟨i, _, h⟩
  rw [anyN_true] at h
  obtain ⟨k, _, h⟩ := h
  simp [okZ, valZ_canon] at h
theorem gmF_F (r c : Nat) (F : Nat → Nat → Int) (i k : Nat) : (gmF r c F).F i k = F i k := valZ_canon _
theorem gmF_fit (r c : Nat) (F : Nat → Nat → Int) (hr : r ≤ 1000000) (hc : c ≤ 1000000) (h : Small r c F) : (gmF r c F).Fit := ⟨hr, fun i hi => ⟨hc, fun k hk => h i k hi hk⟩⟩

set_option maxRecDepth 100000 in
set_option maxHeartbeats 4000000 in
theorem square_any (m : GM) (p : Option Addr) (cp : Nat) (hf : m.Fit) (w : World) (hm : m.At w p) :
    Calls Tryz.prog 67 #[.slice p m.r cp] w (RetInt m.sq w) := by
  have HC := Lib.hid (fun (W : World) (g : Nat) (hW : Below w.heap.size w W) (hg : W.cell? ⟨g, 0, none⟩ = some (.slice p m.r cp)) (hl : g < W.heap.size) => bad_any 1 (some ⟨g, 0, none⟩) 1 (fun _ => m) (fun _ => p) (fun _ => cp) (by omega) (fun _ _ => hf) W (.inr ⟨g, 0, rfl, hl, fun i hi j hj => by
    have e1 : i = 0 := by omega
    have e2 : j = 0 := by omega
    subst e1; subst e2; simpa using hg⟩) (fun _ _ => hm.below (Nat.le_refl _) hW))
  have hv : m.sq = if m.chk ≠ 0 then 1 else if m.r ≠ m.L 0 then 11 else 0 := rfl
  by_cases hc : m.chk = 0
  · have e1 : anyN (fun _ => m.chk != 0) 1 = false := by simp [anyN, hc]
    rw [if_neg (by omega)] at hv
    obtain ⟨hr0, hc0, _⟩ := GM.chk_zero hc
    obtain ⟨b, off, q, c, rfl, hb, a0⟩ := GM.head hm hr0
    have Hv := Lib.hid hv
    rw [e1] at HC
    clear hv hc e1 hf hm
    have r0 : (0 : Int) < (m.r : Int) := by omega
    generalize m.sq = v at *
    go_enter Tryz.func67, Tryz.ntmps67
    go_wp2_with fail
    refine (HC.out _ w.heap.size ((Below.refl _ w).alloc (Nat.le_refl _) _) (by simp) (by simp)).mono ?_
    rintro e w2 ⟨rfl, hb2⟩
    dsimp only
    have hb3 : Below w.heap.size w w2 := ((Below.refl _ w).alloc (Nat.le_refl _) _).trans (hb2.mono (by simp))
    have a2 : w2.cell? ⟨b, off, none⟩ = some (.slice q (m.L 0) c) := cell_below hb3 a0
    have Hb3 := Lib.hid hb3
    clear hb2 hb3 HC
    generalize m.L 0 = l at *
    generalize m.r = r at *
    by_cases hrl : r = l
    · have e1 : ((r : Int) != (l : Int)) = false := by rw [hrl, bne_self_eq_false]
      have Hv2 : Hid (v = 0) := Lib.hid (by rw [Hv.out, if_neg (by omega)])
      clear hrl Hv
      go_wp2
      go_ret
      exact ⟨by rw [Hv2.out]; rfl, Hb3.out⟩
    · have e1 : ((r : Int) != (l : Int)) = true := by rw [bne_iff_ne]; omega
      have Hv2 : Hid (v = 11) := Lib.hid (by rw [Hv.out, if_pos hrl])
      clear hrl Hv
      go_wp2
      go_ret
      exact ⟨by rw [Hv2.out]; rfl, Hb3.out⟩
  · have e1 : anyN (fun _ => m.chk != 0) 1 = true := by simp [anyN, hc]
    rw [if_pos hc] at hv
    rw [e1] at HC
    have Hv := Lib.hid hv
    clear hv hc e1 hf hm
    generalize m.sq = v at *
    generalize m.r = r at *
    go_enter Tryz.func67, Tryz.ntmps67
    go_wp2_with fail
    refine (HC.out _ w.heap.size ((Below.refl _ w).alloc (Nat.le_refl _) _) (by simp) (by simp)).mono ?_
    rintro e w2 ⟨rfl, hb2⟩
    dsimp only
    have Hb3 := Lib.hid (((Below.refl _ w).alloc (Nat.le_refl _) _).trans (hb2.mono (by simp)))
    clear hb2 HC
    go_wp2
    go_ret
    exact ⟨by rw [Hv.out]; rfl, Hb3.out⟩
end Go.Proofs.YtlaoijfphkhchaaGreat
