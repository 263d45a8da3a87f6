/- groovelaw03.of. -/
import Derived.Test.YteoemijgdcpopaaDoorB12
namespace Go.Proofs.YteoemijgdcpopaaDoor
open Go.RowKit Go.Shelf
set_option maxRecDepth 100000 in
set_option maxHeartbeats 2000000 in
theorem ofL_any (n : Nat) (X : Nat → Int) (p : Option Addr) (c : Nat) (hn : n ≤ 1000) (hx : ∀ i, i < n → -1000 ≤ X i ∧ X i ≤ 1000) (w : World) (hX : SlAt 1 w p n (fun i _ => .int .i64 (X i))) :
    Calls Tryd.prog 44 #[.slice p n c] w (RetPol n X w) := by
  have HX := Lib.hid hX
  have Hx := Lib.hid hx
  clear hX hx
  go_enter Tryd.func44, Tryd.ntmps44
  go_wp2_with fail
  go_loopw [3, 8] (fun ov iv wr => ∃ i : Nat, i ≤ n ∧ iv = .int .i64 (i : Nat) ∧ Hid (OwnZ wr w.heap.size ov (zsF X i)) ∧ Hid (Below w.heap.size w wr)) (fun _ iv _ => n - (intOf iv).toNat)
  case atStart => exact ⟨0, by omega, by go_num, Lib.hid (World.ownsRow_nil _ _ _ _), Lib.hid (Below.refl _ _)⟩
  case round =>
    obtain ⟨i, hi, rfl, HO, HB⟩ := hrel
    by_cases hil : i < n
    · have i0 : (0 : Int) ≤ (i : Int) := by omega
      have i1 : (i : Int) < (n : Int) := by omega
      have hXr := HX.out.mono (Nat.le_refl _) HB.out
      obtain ⟨b, off, rfl, hc⟩ : ∃ b off, p = some ⟨b, off, none⟩ ∧ wr.cell? ⟨b, off + i, none⟩ = some (.int .i64 (X i)) := by
        rcases hXr with h | ⟨b, off, rfl, hl, hc⟩
        · omega
        · exact ⟨b, off, rfl, by have := hc i hil 0 (by omega); simpa using this⟩
      obtain ⟨x0, x1⟩ := Hx.out i hil
      have hof := fun W => of_any (X i) (by omega) (by omega) W
      have Hof := Lib.hid hof
      have hnx : zsF X (i + 1) = zsF X i ++ [X i] := zsF_snoc X i
      have Hnx := Lib.hid hnx
      obtain ⟨y, hy⟩ : ∃ y, X i = y := ⟨_, rfl⟩
      rw [hy] at hc Hof Hnx
      have hs := HB.out.size
      clear hXr hof hnx hy x0 x1
      go_wp2_with fail
      refine (Hof.out wr).mono ?_
      rintro e w4 ⟨rfl, hb4⟩
      dsimp only
      have HZ4 := Lib.hid (HO.out.below (Nat.le_refl _) hb4)
      have hb4 := HB.out.trans (hb4.mono HB.out.size)
      have hys := hb4.size
      have Hb4 := Lib.hid hb4
      clear hb4 HO HB hc Hof
      go_wp2_with (at_builtin; refine wpList_append_zs rfl _ _ rfl w.heap.size _ (zsF X i) rfl (HZ4.out.alloc _) w4.heap.size 0 1 1 [y] rfl rfl ?_ ?_ ?_ ?_)
      · intro j hj
        have : j = 0 := by simpa using hj
        subst this
        simp
      · rw [zsF_len]; simp; omega
      · simp; omega
      · intro v9 w9 hown9 hgr9
        have hb9 : Below w.heap.size w w9 := below_append (Hb4.out.alloc hys _) (HZ4.out.alloc _) hgr9 (by simp; omega) (Nat.le_refl _)
        rw [← Hnx.out] at hown9
        have HZ9 := Lib.hid hown9
        have HY9 := Lib.hid hb9
        clear hown9 hgr9 hb9 HZ4 Hb4 hys
        go_wp2
        go_roundw
        case rel => exact ⟨i + 1, by omega, by go_num, HZ9, HY9⟩
        case measure => simp [intOf]; omega
    · have i1 : ¬ (i : Int) < (n : Int) := by omega
      have hie : i = n := by omega
      have hz9 := HO.out
      rw [hie] at hz9
      obtain ⟨q, cap, rfl, _, hrow, _⟩ := hz9.rowF
      have Hrow := Lib.hid hrow
      clear hz9 hie hrow HO
      go_wp2_with fail
      go_ret
      exact ⟨q, cap, rfl, Hrow.out, HB.out⟩
end Go.Proofs.YteoemijgdcpopaaDoor
