/- The walks of grooveref04.SameRow and Same at lists that are the same. -/
import Derived.Test.YtlkoiekdafaapaaChkM
import Derived.Laws.StructEq
namespace Go.Proofs.Ytlkoiekdafaapaa
open Go.RowKit Go.Shelf

set_option maxRecDepth 100000 in
set_option maxHeartbeats 4000000 in
theorem sameRow_true (n : Nat) (p q : Option Addr) (c d : Nat) (f : Nat → Int) (hn : n ≤ 1000000000) (w : World) (hp : RowF w p n f) (hq : RowF w q n f) :
    Calls Try.prog 24 #[.slice p n c, .slice q n d] w (RetB true w) := by
  have Hp := Lib.hid hp
  have Hq := Lib.hid hq
  clear hp hq
  have e1 : ((n : Int) != (n : Int)) = false := bne_self_eq_false _
  go_enter Try.func24, Try.ntmps24
  go_wp2
  go_loopw [5] (fun v wr => ∃ k : Nat, k ≤ n ∧ v = .int .i64 k ∧ Hid (Below w.heap.size w wr)) (fun v _ => n - (intOf v).toNat)
  case atStart => exact ⟨0, by omega, by go_num, Lib.hid (Below.refl _ _)⟩
  case round =>
    obtain ⟨k, hk, rfl, Hb⟩ := hrel
    by_cases hlt : k < n
    · have k0 : (0 : Int) ≤ (k : Int) := by omega
      have k1 : (k : Int) < (n : Int) := by omega
      obtain ⟨ab, ao, rfl, hab, hac⟩ := Hp.out.cells hlt
      obtain ⟨bb, bo, rfl, hbb, hbc⟩ := Hq.out.cells hlt
      have a1 := cell_below Hb.out (hac k hlt).1
      have a2 := cell_below Hb.out (hac k hlt).2
      have b1 := cell_below Hb.out (hbc k hlt).1
      have b2 := cell_below Hb.out (hbc k hlt).2
      clear hac hbc
      generalize canon (f k) = X at *
      have x1 : (X.neg == X.neg) = true := beq_self_eq_true _
      have x2 : (X.mag.toList == X.mag.toList) = true := beq_self_eq_true _
      go_wp2_with fail
      go_quiet (fail)
      go_wp2
      go_roundw
      case rel => exact ⟨k + 1, by omega, by go_num, Lib.hid (below_dr Hb.out)⟩
      case measure => simp [intOf]; omega
    · have k1 : ¬ (k : Int) < (n : Int) := by omega
      go_wp2
      go_ret
      exact ⟨rfl, Hb.out⟩
set_option maxRecDepth 100000 in
set_option maxHeartbeats 4000000 in
theorem same_true (n m : Nat) (p q : Option Addr) (c d : Nat) (F : Nat → Nat → Int) (hn : n ≤ 1000000000) (hm : m ≤ 1000000000) (w : World) (hp : MatF w p n m F) (hq : MatF w q n m F) :
    Calls Try.prog 17 #[.slice p n c, .slice q n d] w (RetB true w) := by
  obtain ⟨H, hH, hR⟩ := hp
  obtain ⟨K, hK, hQ⟩ := hq
  have HS := Lib.hid (fun (W : World) (i : Nat) (hi : i < n) (hW : Below w.heap.size w W) => sameRow_true m (H i).1 (K i).1 (H i).2 (K i).2 (F i) hm W ((hR i hi).below (Nat.le_refl _) hW) ((hQ i hi).below (Nat.le_refl _) hW))
  have Hp := Lib.hid hH
  have Hq := Lib.hid hK
  clear hH hR hK hQ
  have e1 : ((n : Int) != (n : Int)) = false := bne_self_eq_false _
  go_enter Try.func17, Try.ntmps17
  go_wp2
  go_loopw [5] (fun v wr => ∃ k : Nat, k ≤ n ∧ v = .int .i64 k ∧ Hid (Below w.heap.size w wr)) (fun v _ => n - (intOf v).toNat)
  case atStart => exact ⟨0, by omega, by go_num, Lib.hid (Below.refl _ _)⟩
  case round =>
    obtain ⟨k, hk, rfl, Hb⟩ := hrel
    by_cases hlt : k < n
    · have k0 : (0 : Int) ≤ (k : Int) := by omega
      have k1 : (k : Int) < (n : Int) := by omega
      rcases Hp.out with h | ⟨ab, ao, rfl, hab, hac⟩
      · omega
      rcases Hq.out with h | ⟨bb, bo, rfl, hbb, hbc⟩
      · omega
      have a1 : wr.cell? ⟨ab, ao + k, none⟩ = some (.slice (H k).1 m (H k).2) := cell_lo Hb.out hab (by simpa using hac k hlt 0 (by omega))
      have b1 : wr.cell? ⟨bb, bo + k, none⟩ = some (.slice (K k).1 m (K k).2) := cell_lo Hb.out hbb (by simpa using hbc k hlt 0 (by omega))
      clear hac hbc
      have HSS : Hid (∀ W, Below wr.heap.size wr W → W.cell? ⟨ab, ao + k, none⟩ = some (.slice (H k).1 m (H k).2) ∧ W.cell? ⟨bb, bo + k, none⟩ = some (.slice (K k).1 m (K k).2)) := Lib.hid (fun W hW => ⟨cell_below hW a1, cell_below hW b1⟩)
      have hd := (Below.refl wr.heap.size wr).drew
      go_wp2_with fail
      refine wp_region_held_drew (S := fun W => W.cell? ⟨ab, ao + k, none⟩ = some (.slice (H k).1 m (H k).2) ∧ W.cell? ⟨bb, bo + k, none⟩ = some (.slice (K k).1 m (K k).2)) (by kernel_rfl) (HSS.out _ hd) (fun hSS => ?_)
      refine wpAnyH_take (i := 0) (v := ?_) rfl (by kernel_rfl) (by kernel_rfl) (by kernel_rfl) (fun _ _ _ h => h) (Or.inl ⟨by rfl, ?_⟩) hSS ?_
      rotate_left 1
      next => intro w hSw; obtain ⟨s1, s2⟩ := hSw; go_simp; try with_reducible rfl
      refine wpAnyH_take (i := 1) (v := ?_) rfl (by kernel_rfl) (by kernel_rfl) (by kernel_rfl) (fun _ _ _ h => h) (Or.inl ⟨by rfl, ?_⟩) hSS ?_
      rotate_left 1
      next => intro w hSw; obtain ⟨s1, s2⟩ := hSw; go_simp; try with_reducible rfl
      refine wpAnyH_take (i := 2) (v := ?_) rfl (by kernel_rfl) (by kernel_rfl) (by kernel_rfl) (fun _ _ _ h => h) (Or.inl ⟨by rfl, ?_⟩) hSS ?_
      rotate_left 1
      next => intro w hSw; obtain ⟨s1, s2⟩ := hSw; go_simp; try with_reducible rfl
      refine wpAnyH_take (i := 3) (v := ?_) rfl (by kernel_rfl) (by kernel_rfl) (by kernel_rfl) (fun _ _ _ h => h) (Or.inl ⟨by rfl, ?_⟩) hSS ?_
      rotate_left 1
      next => intro w hSw; obtain ⟨s1, s2⟩ := hSw; go_simp; try with_reducible rfl
      refine wpAnyH_take (i := 4) (v := ?_) rfl (by kernel_rfl) (by kernel_rfl) (by kernel_rfl) (fun _ _ _ h => h) (Or.inl ⟨by rfl, ?_⟩) hSS ?_
      rotate_left 1
      next => intro w hSw; obtain ⟨s1, s2⟩ := hSw; go_simp; try with_reducible rfl
      refine wpAnyH_take (i := 5) (v := ?_) rfl (by kernel_rfl) (by kernel_rfl) (by kernel_rfl) (fun _ _ _ h => h) (Or.inl ⟨by rfl, ?_⟩) hSS ?_
      rotate_left 1
      next => intro w hSw; obtain ⟨s1, s2⟩ := hSw; go_simp; try with_reducible rfl
      refine wpAnyH_take (i := 6) (v := ?_) rfl (by kernel_rfl) (by kernel_rfl) (by kernel_rfl) (fun _ _ _ h => h) (Or.inl ⟨by rfl, ?_⟩) hSS ?_
      rotate_left 1
      next => intro w hSw; obtain ⟨s1, s2⟩ := hSw; go_simp; try with_reducible rfl
      refine wpAnyH_take (i := 7) (v := ?_) rfl (by kernel_rfl) (by kernel_rfl) (by kernel_rfl) (fun _ _ _ h => h) (Or.inl ⟨by rfl, ?_⟩) hSS ?_
      rotate_left 1
      next => intro w hSw; obtain ⟨s1, s2⟩ := hSw; go_simp; try with_reducible rfl
      simp only [Act.put, List.getElem_toArray, List.getElem_cons_zero, List.getElem_cons_succ, List.setIfInBounds_toArray, List.set_cons_zero, List.set_cons_succ]
      refine wpAnyH_ready (rs := [8]) (by kernel_rfl) (by simp) ?_
      refine AllReadyH.cons rfl (fun K hK => ?_) AllReadyH.nil
      go_simp
      refine (HS.out _ k hlt (Hb.out.trans (hd.mono Hb.out.size))).mono ?_
      rintro e5 w5 ⟨rfl, hb5⟩
      have hb6 : Below wr.heap.size wr w5 := hd.trans (hb5.mono (Nat.le_refl _))
      have Hb6 := Lib.hid (Hb.out.trans (hb6.mono Hb.out.size))
      have HS5 := Lib.hid (HSS.out _ hb6)
      dsimp only
      refine hK.out _ _ (HS5.out) (fun _ => ?_)
      clear hK K
      refine wpAnyH_take (i := 9) (v := ?_) rfl (by kernel_rfl) (by kernel_rfl) (by kernel_rfl) (fun _ _ _ h => h) (Or.inl ⟨by rfl, ?_⟩) (HS5.out) ?_
      rotate_left 1
      next => intro w hSw; obtain ⟨s1, s2⟩ := hSw; go_simp; try with_reducible rfl
      refine wpAnyH_done (by kernel_rfl) ?_ _
      clear hb5 hb6 hd HS5 HSS a1 b1 hSS
      go_wp2
      go_roundw
      case rel => exact ⟨k + 1, by omega, by go_num, Hb6⟩
      case measure => simp [intOf]; omega
    · have k1 : ¬ (k : Int) < (n : Int) := by omega
      go_wp2
      go_ret
      exact ⟨rfl, Hb.out⟩
end Go.Proofs.Ytlkoiekdafaapaa
