/- The walks of grooveref04.GreatRow and Great. -/
import Derived.Test.YtlkoiekdafaapaaMck
namespace Go.Proofs.Ytlkoiekdafaapaa
open Go.RowKit Go.Shelf

def grB (n : Nat) (Z : Nat → ZI) : Bool := if (4 < n ∧ n ≤ 32) ∨ 34 < n then true else anyN (fun k => decide (3 < (Z k).mag.size)) n
def GM.gt (m : GM) : Bool := if (4 < m.r ∧ m.r ≤ 32) ∨ 34 < m.r then true else anyN (fun i => grB (m.L i) (m.Z i)) m.r
theorem len_cases (n : Nat) : ((4 < n ∧ n ≤ 32) ∨ 34 < n) ∨ (n ≤ 4) ∨ (32 < n ∧ n ≤ 34) := by omega
set_option maxRecDepth 100000 in
set_option maxHeartbeats 4000000 in
theorem greatRow_any (n : Nat) (p : Option Addr) (c : Nat) (Z : Nat → ZI) (hz : ∀ k, k < n → (Z k).mag.size ≤ 9223372036854775807) (hn : n ≤ 9223372036854775807) (w : World) (hp : GRow w p n Z) :
    Calls Try.prog 26 #[.slice p n c] w (RetB (grB n Z) w) := by
  by_cases h1 : 4 < n ∧ n ≤ 32
  · have hv : grB n Z = true := if_pos (.inl h1)
    rw [hv]
    have a1 : (n : Int) > 4 := by omega
    have a2 : (n : Int) ≤ 32 := by omega
    clear hv h1 hp hz
    go_enter Try.func26, Try.ntmps26
    go_wp2
    go_ret
    exact ⟨rfl, Below.refl _ _⟩
  by_cases h2 : 34 < n
  · have hv : grB n Z = true := if_pos (.inr h2)
    rw [hv]
    have a1 : (n : Int) > 4 := by omega
    have a2 : ¬ (n : Int) ≤ 32 := by omega
    have a3 : (n : Int) > 34 := by omega
    clear hv h1 h2 hp hz
    go_enter Try.func26, Try.ntmps26
    go_wp2
    go_ret
    exact ⟨rfl, Below.refl _ _⟩
  have hv : grB n Z = anyN (fun k => decide (3 < (Z k).mag.size)) n := if_neg (by omega)
  rw [hv]
  have Hp := Lib.hid hp
  have Hz := Lib.hid hz
  clear hv hp hz
  have a3 : ¬ (n : Int) > 34 := by omega
  have htail : ((n : Int) > 4 ∧ ¬ (n : Int) ≤ 32) ∨ ¬ (n : Int) > 4 := by omega
  rcases htail with ⟨a1, a2⟩ | a1
  all_goals
    go_enter Try.func26, Try.ntmps26
    go_wp2
    go_loopw [3] (fun v wr => ∃ k : Nat, k ≤ n ∧ v = .int .i64 k ∧ wr = w ∧ Hid (∀ j, j < k → decide (3 < (Z j).mag.size) = false)) (fun v _ => n - (intOf v).toNat)
    case atStart => exact ⟨0, by omega, by go_num, rfl, Lib.hid (fun j hj => by omega)⟩
    case round =>
      obtain ⟨k, hk, rfl, rfl, HN⟩ := hrel
      by_cases hlt : k < n
      · have k0 : (0 : Int) ≤ (k : Int) := by omega
        have k1 : (k : Int) < (n : Int) := by omega
        rcases Hp.out with h | ⟨ab, ao, rfl, hab, hac⟩
        · omega
        have b1 : wr.cell? ⟨ab, ao + k * 2 + 1, none⟩ = some (.string (Z k).mag) := by simpa [zg] using hac k hlt 1 (by omega)
        have hzk := Hz.out k hlt
        clear hac
        by_cases hs : 3 < (Z k).mag.size
        · have s1 : ((Z k).mag.size : Int) > 3 := by omega
          have HA : Hid (anyN (fun k => decide (3 < (Z k).mag.size)) n = true) := Lib.hid (anyN_true.2 ⟨k, hlt, decide_eq_true hs⟩)
          clear hs
          go_wp2
          go_ret
          exact ⟨by rw [HA.out]; rfl, Below.refl _ _⟩
        · have s1 : ¬ ((Z k).mag.size : Int) > 3 := by omega
          have HN2 : Hid (∀ j, j < k + 1 → decide (3 < (Z j).mag.size) = false) := Lib.hid (fun j hj => by
            by_cases e : j = k
            · subst e; exact decide_eq_false hs
            · exact HN.out j (by omega))
          clear hs HN
          go_wp2
          go_roundw
          case rel => exact ⟨k + 1, by omega, by go_num, trivial, HN2⟩
          case measure => simp [intOf]; omega
      · have k1 : ¬ (k : Int) < (n : Int) := by omega
        have HA : Hid (anyN (fun k => decide (3 < (Z k).mag.size)) n = false) := Lib.hid (anyN_false.2 fun j hj => HN.out j (by omega))
        clear HN
        go_wp2
        go_ret
        exact ⟨by rw [HA.out]; rfl, Below.refl _ _⟩
set_option maxRecDepth 100000 in
set_option maxHeartbeats 4000000 in
theorem great_any (m : GM) (p : Option Addr) (c : Nat) (hr : m.r ≤ 9223372036854775807) (hz : ∀ i, i < m.r → m.L i ≤ 9223372036854775807 ∧ ∀ k, k < m.L i → (m.Z i k).mag.size ≤ 9223372036854775807) (w : World) (hp : m.At w p) :
    Calls Try.prog 12 #[.slice p m.r c] w (RetB m.gt w) := by
  by_cases h1 : 4 < m.r ∧ m.r ≤ 32
  · have hv : m.gt = true := if_pos (.inl h1)
    rw [hv]
    have a1 : (m.r : Int) > 4 := by omega
    have a2 : (m.r : Int) ≤ 32 := by omega
    generalize m.r = n at *
    clear hv h1 hp hz
    go_enter Try.func12, Try.ntmps12
    go_wp2
    go_ret
    exact ⟨rfl, Below.refl _ _⟩
  by_cases h2 : 34 < m.r
  · have hv : m.gt = true := if_pos (.inr h2)
    rw [hv]
    have a1 : (m.r : Int) > 4 := by omega
    have a2 : ¬ (m.r : Int) ≤ 32 := by omega
    have a3 : (m.r : Int) > 34 := by omega
    generalize m.r = n at *
    clear hv h1 h2 hp hz
    go_enter Try.func12, Try.ntmps12
    go_wp2
    go_ret
    exact ⟨rfl, Below.refl _ _⟩
  have hv : m.gt = anyN (fun i => grB (m.L i) (m.Z i)) m.r := if_neg (by omega)
  rw [hv]
  obtain ⟨H, hH, hR⟩ := hp
  have HG := Lib.hid (fun (W : World) (i : Nat) (hi : i < m.r) (hW : Below w.heap.size w W) => greatRow_any (m.L i) (H i).1 (H i).2 (m.Z i) (hz i hi).2 (hz i hi).1 W ((hR i hi).mono (Nat.le_refl _) hW))
  have Hp := Lib.hid hH
  clear hv hH hR hz
  generalize hG : (fun i => grB (m.L i) (m.Z i)) = G at *
  have HG : Hid (∀ (W : World) (i : Nat), i < m.r → Below w.heap.size w W → Calls Try.prog 26 #[.slice (H i).1 (m.L i) (H i).2] W (RetB (G i) W)) := Lib.hid (fun W i hi hW => by rw [← hG]; exact HG.out W i hi hW)
  clear hG
  have a3 : ¬ (m.r : Int) > 34 := by omega
  have htail : ((m.r : Int) > 4 ∧ ¬ (m.r : Int) ≤ 32) ∨ ¬ (m.r : Int) > 4 := by omega
  generalize m.r = n at *
  generalize m.L = L at *
  rcases htail with ⟨a1, a2⟩ | a1
  all_goals
    go_enter Try.func12, Try.ntmps12
    go_wp2
    go_loopw [3] (fun v wr => ∃ k : Nat, k ≤ n ∧ v = .int .i64 k ∧ Hid (Below w.heap.size w wr) ∧ Hid (∀ j, j < k → G j = false)) (fun v _ => n - (intOf v).toNat)
    case atStart => exact ⟨0, by omega, by go_num, Lib.hid (Below.refl _ _), Lib.hid (fun j hj => by omega)⟩
    case round =>
      obtain ⟨k, hk, rfl, Hb, HN⟩ := hrel
      by_cases hlt : k < n
      · have k0 : (0 : Int) ≤ (k : Int) := by omega
        have k1 : (k : Int) < (n : Int) := by omega
        rcases Hp.out with h | ⟨ab, ao, rfl, hab, hac⟩
        · omega
        have b1 : wr.cell? ⟨ab, ao + k, none⟩ = some (.slice (H k).1 (L k) (H k).2) := cell_lo Hb.out hab (by simpa using hac k hlt 0 (by omega))
        clear hac
        go_wp2_with fail
        refine (HG.out wr k hlt Hb.out).mono ?_
        rintro e w2 ⟨rfl, hb2⟩
        dsimp only
        have Hb2 := Lib.hid (Hb.out.trans (hb2.mono Hb.out.size))
        clear hb2 b1
        cases hs : G k
        · have HN2 : Hid (∀ j, j < k + 1 → G j = false) := Lib.hid (fun j hj => by
            by_cases e : j = k
            · subst e; exact hs
            · exact HN.out j (by omega))
          clear hs HN
          go_wp2
          go_roundw
          case rel => exact ⟨k + 1, by omega, by go_num, Hb2, HN2⟩
          case measure => simp [intOf]; omega
        · have HA : Hid (anyN G n = true) := Lib.hid (anyN_true.2 ⟨k, hlt, hs⟩)
          clear hs
          go_wp2
          go_ret
          exact ⟨by rw [HA.out]; rfl, Hb2.out⟩
      · have k1 : ¬ (k : Int) < (n : Int) := by omega
        have HA : Hid (anyN G n = false) := Lib.hid (anyN_false.2 fun j hj => HN.out j (by omega))
        clear HN
        go_wp2
        go_ret
        exact ⟨by rw [HA.out]; rfl, Hb.out⟩
end Go.Proofs.Ytlkoiekdafaapaa
