/- The walk of grooveref04.Check at any lists of lists. -/
import Derived.Test.YtlkoiekdafaapaaChkM
import Derived.Test.YtlkoiekdafaapaaR3
namespace Go.Proofs.Ytlkoiekdafaapaa
open Go.RowKit Go.Shelf

set_option maxRecDepth 100000 in
set_option maxHeartbeats 4000000 in
theorem refCheck_m (m : GM) (p : Option Addr) (cp : Nat) (hf : m.Fit) (w : World) (hm : m.At w p) :
    Calls Try.prog 27 #[.slice p m.r cp] w (RetInt m.chk w) := by
  by_cases h0 : m.r = 0
  · have hc : m.chk = 5 := if_pos (.inl h0)
    rw [hc, h0]
    clear hc hf hm
    go_enter Try.func27, Try.ntmps27
    go_wp2
    go_ret
    exact ⟨rfl, Below.refl _ _⟩
  obtain ⟨b, off, q, c, rfl, hb, hc0⟩ := GM.head hm (by omega)
  by_cases h1 : m.L 0 = 0
  · have hc : m.chk = 5 := if_pos (.inr h1)
    rw [hc]
    rw [h1] at hc0
    have e0 : ((m.r : Int) == 0) = false := by rw [beq_eq_false_iff_ne]; omega
    have r0 : (0 : Int) < (m.r : Int) := by omega
    generalize m.r = r at *
    clear hc hf hm
    go_enter Try.func27, Try.ntmps27
    go_wp2
    go_ret
    exact ⟨rfl, Below.refl _ _⟩
  have hdis : ¬ (m.r = 0 ∨ m.L 0 = 0) := by omega
  by_cases h2 : 32 < m.r
  · have hc : m.chk = 4 := (if_neg hdis).trans (if_pos (.inl h2))
    rw [hc]
    have e0 : ((m.r : Int) == 0) = false := by rw [beq_eq_false_iff_ne]; omega
    have e1 : ((m.L 0 : Int) == 0) = false := by rw [beq_eq_false_iff_ne]; omega
    have r0 : (0 : Int) < (m.r : Int) := by omega
    have r1 : (m.r : Int) > 32 := by omega
    generalize m.r = r at *
    generalize m.L 0 = l at *
    clear hc hf hm hdis
    go_enter Try.func27, Try.ntmps27
    go_wp2
    go_ret
    exact ⟨rfl, Below.refl _ _⟩
  by_cases h3 : 32 < m.L 0
  · have hc : m.chk = 4 := (if_neg hdis).trans (if_pos (.inr h3))
    rw [hc]
    have e0 : ((m.r : Int) == 0) = false := by rw [beq_eq_false_iff_ne]; omega
    have e1 : ((m.L 0 : Int) == 0) = false := by rw [beq_eq_false_iff_ne]; omega
    have r0 : (0 : Int) < (m.r : Int) := by omega
    have r1 : ¬ (m.r : Int) > 32 := by omega
    have r2 : (m.L 0 : Int) > 32 := by omega
    generalize m.r = r at *
    generalize m.L 0 = l at *
    clear hc hf hm hdis
    go_enter Try.func27, Try.ntmps27
    go_wp2
    go_ret
    exact ⟨rfl, Below.refl _ _⟩
  have hdis2 : ¬ (32 < m.r ∨ 32 < m.L 0) := by omega
  have hc : m.chk = if anyN (fun i => m.L i != m.L 0) m.r then 11 else if anyN (fun i => anyN (fun k => !okZ (m.Z i k)) (m.L i)) m.r then 1 else 0 := (if_neg hdis).trans (if_neg hdis2)
  have Hc := Lib.hid hc
  obtain ⟨H, hH, hR⟩ := hm
  have HR := Lib.hid hR
  have hcell : ∀ W, Below w.heap.size w W → ∀ i, i < m.r → W.cell? ⟨b, off + i, none⟩ = some (.slice (H i).1 (m.L i) (H i).2) := fun W hW i hi => by
    rcases hH with h | ⟨b2, off2, he, hb2, hcc⟩
    · omega
    · cases he
      exact cell_lo hW hb2 (by simpa using hcc i hi 0 (by omega))
  have Hcell := Lib.hid hcell
  have HZ := Lib.hid hf.2
  have e0 : ((m.r : Int) == 0) = false := by rw [beq_eq_false_iff_ne]; omega
  have e1 : ((m.L 0 : Int) == 0) = false := by rw [beq_eq_false_iff_ne]; omega
  have r0 : (0 : Int) < (m.r : Int) := by omega
  have r1 : ¬ (m.r : Int) > 32 := by omega
  have r2 : ¬ (m.L 0 : Int) > 32 := by omega
  have hm0 : 0 < m.r := by omega
  clear hc hf hdis hdis2 hH hR hcell h0 h1 h2 h3
  generalize m.chk = v at *
  generalize m.r = r at *
  generalize m.L = L at *
  generalize m.Z = Z at *
  go_enter Try.func27, Try.ntmps27
  go_wp2
  go_loopw [3] (fun v wr => ∃ k : Nat, k ≤ r ∧ v = .int .i64 k ∧ Hid (Below w.heap.size w wr) ∧ Hid (∀ j, j < k → (L j != L 0) = false)) (fun v _ => r - (intOf v).toNat)
  case atStart => exact ⟨0, by omega, by go_num, Lib.hid (Below.refl _ _), Lib.hid (fun j hj => by omega)⟩
  case round =>
    obtain ⟨k, hk, rfl, Hb, HN⟩ := hrel
    by_cases hlt : k < r
    · have k0 : (0 : Int) ≤ (k : Int) := by omega
      have k1 : (k : Int) < (r : Int) := by omega
      have a1 := Hcell.out wr Hb.out k hlt
      have a2 := Hcell.out wr Hb.out 0 hm0
      rw [Nat.add_zero] at a2
      by_cases hl : L k = L 0
      · have l1 : ((L k : Int) != (L 0 : Int)) = false := by rw [hl, bne_self_eq_false]
        have HN2 : Hid (∀ j, j < k + 1 → (L j != L 0) = false) := Lib.hid (fun j hj => by
          by_cases e : j = k
          · subst e; rw [hl, bne_self_eq_false]
          · exact HN.out j (by omega))
        clear hl HN
        go_wp2_with fail
        go_quiet (fail)
        go_wp2
        go_roundw
        case rel => exact ⟨k + 1, by omega, by go_num, Lib.hid (below_dr Hb.out), HN2⟩
        case measure => simp [intOf]; omega
      · have l1 : ((L k : Int) != (L 0 : Int)) = true := by rw [bne_iff_ne]; omega
        have Hv : Hid (v = 11) := Lib.hid (by
          rw [Hc.out, if_pos (anyN_true.2 ⟨k, hlt, by rw [bne_iff_ne]; exact hl⟩)])
        clear hl HN Hc
        go_wp2_with fail
        go_quiet (fail)
        go_wp2
        go_ret
        exact ⟨by rw [Hv.out]; rfl, below_dr Hb.out⟩
    · have k1 : ¬ (k : Int) < (r : Int) := by omega
      have Hv : Hid (v = if anyN (fun i => anyN (fun k => !okZ (Z i k)) (L i)) r then 1 else 0) := Lib.hid (by
        rw [Hc.out, if_neg]
        rw [Bool.not_eq_true, anyN_false]
        exact fun j hj => HN.out j (by omega))
      clear HN Hc
      go_wp2
      go_loopw [4] (fun v wr => ∃ i : Nat, i ≤ r ∧ v = .int .i64 i ∧ Hid (Below w.heap.size w wr) ∧ Hid (∀ j, j < i → anyN (fun k => !okZ (Z j k)) (L j) = false)) (fun v _ => r - (intOf v).toNat)
      case atStart => exact ⟨0, by omega, by go_num, Hb, Lib.hid (fun j hj => by omega)⟩
      case round =>
        clear Hb
        obtain ⟨i, hi, rfl, Hb, HN⟩ := hrel
        by_cases hil : i < r
        · have i0 : (0 : Int) ≤ (i : Int) := by omega
          have i1 : (i : Int) < (r : Int) := by omega
          have hLi := (HZ.out i hil).1
          go_wp2
          go_loopw [5] (fun v wr => ∃ k : Nat, k ≤ L i ∧ v = .int .i64 k ∧ Hid (Below w.heap.size w wr) ∧ Hid (∀ l, l < k → (!okZ (Z i l)) = false)) (fun v _ => L i - (intOf v).toNat)
          case atStart => exact ⟨0, by omega, by go_num, Hb, Lib.hid (fun j hj => by omega)⟩
          case round =>
            clear Hb
            obtain ⟨k, hk, rfl, Hb, HM⟩ := hrel
            have a1 := Hcell.out wr Hb.out i hil
            by_cases hkl : k < L i
            · have k0 : (0 : Int) ≤ (k : Int) := by omega
              have k2 : (k : Int) < (L i : Int) := by omega
              rcases HR.out i hil with h | ⟨ab, ao, hpe, hab, hac⟩
              · omega
              have a3 : wr.cell? ⟨ab, ao + k * 2, none⟩ = some (.bool (Z i k).neg) := cell_lo Hb.out hab (by simpa [zg] using hac k hkl 0 (by omega))
              have a4 : wr.cell? ⟨ab, ao + k * 2 + 1, none⟩ = some (.string (Z i k).mag) := cell_lo Hb.out hab (by simpa [zg] using hac k hkl 1 (by omega))
              rw [hpe] at a1
              have HC := Lib.hid (refCheck_any (Z i k) ((HZ.out i hil).2 k hkl))
              clear hac
              go_wp2_with fail
              refine (HC.out _).mono ?_
              rintro e w2 ⟨rfl, hb2⟩
              dsimp only
              have Hb2 := Lib.hid (Hb.out.trans (hb2.mono Hb.out.size))
              clear hb2 a1 a3 a4
              by_cases ho : Z i k = canon (valZ (Z i k))
              · have hz0 : chkZ (Z i k) = 0 := if_pos ho
                have HM2 : Hid (∀ l, l < k + 1 → (!okZ (Z i l)) = false) := Lib.hid (fun l hl => by
                  by_cases e : l = k
                  · subst e; simpa [okZ] using ho
                  · exact HM.out l (by omega))
                rw [hz0]
                clear hz0 ho HM
                go_wp2
                go_roundw
                case rel => exact ⟨k + 1, by omega, by go_num, Hb2, HM2⟩
                case measure => simp [intOf]; omega
              · have hz0 : chkZ (Z i k) = 1 := if_neg ho
                have Hv2 : Hid (v = 1) := Lib.hid (by
                  have hA : anyN (fun k => !okZ (Z i k)) (L i) = true := anyN_true.2 ⟨k, hkl, by simpa [okZ] using ho⟩
                  rw [Hv.out, if_pos (anyN_true.2 ⟨i, hil, hA⟩)])
                rw [hz0]
                clear hz0 ho HM HN Hv
                go_wp2
                go_ret
                exact ⟨by rw [Hv2.out]; rfl, Hb2.out⟩
            · have k2 : ¬ (k : Int) < (L i : Int) := by omega
              have HN2 : Hid (∀ j, j < i + 1 → anyN (fun k => !okZ (Z j k)) (L j) = false) := Lib.hid (fun j hj => by
                by_cases e : j = i
                · subst e; exact anyN_false.2 fun l hl => HM.out l (by omega)
                · exact HN.out j (by omega))
              clear HN HM
              go_wp2
              go_roundw
              case rel => exact ⟨i + 1, by omega, by go_num, Hb, HN2⟩
              case measure => simp [intOf]; omega
        · have i1 : ¬ (i : Int) < (r : Int) := by omega
          have Hv2 : Hid (v = 0) := Lib.hid (by
            rw [Hv.out, if_neg]
            rw [Bool.not_eq_true, anyN_false]
            exact fun j hj => HN.out j (by omega))
          clear HN Hv
          go_wp2
          go_ret
          exact ⟨by rw [Hv2.out]; rfl, Hb.out⟩
end Go.Proofs.Ytlkoiekdafaapaa
