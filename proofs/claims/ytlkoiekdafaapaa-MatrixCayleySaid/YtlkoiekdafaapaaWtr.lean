/- The walk of matrix.Transpose. -/
import Derived.Test.YtlkoiekdafaapaaWam
namespace Go.Proofs.Ytlkoiekdafaapaa
open Go.RowKit Go.Shelf

def trE (a : GM) : Int := if a.chk ≠ 0 then 1 else 0
theorem bad1m (a : GM) (p : Option Addr) (cp : Nat) (hfa : a.Fit) (w : World) (ha : a.At w p) (W : World) (g : Nat) (hW : Below w.heap.size w W) (h0 : W.cell? ⟨g, 0, none⟩ = some (.slice p a.r cp)) :
    Calls Try.prog 73 #[.slice (some ⟨g, 0, none⟩) 1 1] W (RetB (a.chk != 0) W) := by
  have h := bad_any 1 (some ⟨g, 0, none⟩) 1 (fun _ => a) (fun _ => p) (fun _ => cp) (by omega) (fun k hk => hfa) W (.inr ⟨g, 0, rfl, World.block_lt_of_cell? W _ h0, fun i hi j hj => by
    have e1 : i = 0 := by omega
    have e2 : j = 0 := by omega
    subst e1; subst e2
    simpa using h0⟩) (fun k hk => ha.below (Nat.le_refl _) hW)
  simpa [anyN] using h
set_option maxRecDepth 100000 in
set_option maxHeartbeats 4000000 in
theorem tr_m (a : GM) (p : Option Addr) (cp : Nat) (hfa : a.Fit) (w : World) (ha : a.At w p) :
    Calls Try.prog 30 #[.slice p a.r cp] w (RetMatE (trE a) (a.L 0) a.r (fun i k => a.F k i) w) := by
  have hb0 : Below w.heap.size w (w.alloc (.cells #[.slice p a.r cp] 22)) := (Below.refl _ w).alloc (Nat.le_refl _) _
  have hx0 : Boxed (w.alloc (.cells #[.slice p a.r cp] 22)) w.heap.size 22 (.slice p a.r cp) := Boxed.new w 22 (.slice p a.r cp)
  have hb1 : Below (w.heap.size + 1) (w.alloc (.cells #[.slice p a.r cp] 22)) ((w.alloc (.cells #[.slice p a.r cp] 22)).alloc (.cells #[.slice p a.r cp] 22)) := (Below.refl _ _).alloc (by simp) _
  have HB := Lib.hid (bad1m a p cp hfa w ha ((w.alloc (.cells #[.slice p a.r cp] 22)).alloc (.cells #[.slice p a.r cp] 22)) (w.heap.size + 1) (hb0.trans (hb1.mono (by omega))) (by
    simp))
  by_cases hz : a.chk = 0
  · have hv : trE a = 0 := if_neg (by omega)
    have hz2 : (a.chk != 0) = false := by rw [hz]; rfl
    rw [hz2] at HB
    rw [hv]
    have hM := GM.mat ha hz
    obtain ⟨r0, c0, r1, c1, _, _⟩ := GM.chk_zero hz
    have HT := Lib.hid (fun W (hW : Below (w.heap.size + 1) (w.alloc (.cells #[.slice p a.r cp] 22)) W) => table_any (a.L 0) a.r (by omega) (by omega) 75 #[.pointer (some ⟨w.heap.size, 0, none⟩)] (fun i k => a.F k i) W (enters_of Try.func75 (by kernel_rfl) rfl) (fun i k V hi hk hV => by
      have hWw : Below w.heap.size w W := hb0.trans (hW.mono (by omega))
      refine tr1_any a.r (a.L 0) i k w.heap.size p cp a.F hi hk V ?_ (hM.below (Nat.le_refl _) (hWw.trans (hV.mono hWw.size)))
      refine cell_below hV ?_
      rw [hW.cell (p := ⟨w.heap.size, 0, none⟩) (by simp)]
      exact hx0.cell))
    obtain ⟨bl, off, q1, c2, hpe, hbl, a0⟩ := GM.head ha r0
    have S0 : ∀ W, Below (w.heap.size + 1) (w.alloc (.cells #[.slice p a.r cp] 22)) W → W.cell? ⟨w.heap.size, 0, none⟩ = some (.slice p a.r cp) ∧ W.cell? ⟨bl, off, none⟩ = some (.slice q1 (a.L 0) c2) := fun W hW => by
      refine ⟨?_, cell_below (hb0.trans (hW.mono (by omega))) a0⟩
      rw [hW.cell (p := ⟨w.heap.size, 0, none⟩) (by simp)]
      exact hx0.cell
    have HS := Lib.hid S0
    have Hb0 := Lib.hid hb0
    have Hb1 := Lib.hid hb1
    have hs1 : (w.alloc (.cells #[.slice p a.r cp] 22)).heap.size = w.heap.size + 1 := by simp
    clear S0 hb0 hb1 hx0 hM hz hz2 hv hfa ha a0
    have r0' : (0 : Int) < (a.r : Int) := by omega
    generalize (fun i k => a.F k i) = D at *
    generalize a.L 0 = l at *
    generalize a.r = r at *
    subst hpe
    go_enter Try.func30, Try.ntmps30
    go_wp2_with fail
    refine HB.out.mono ?_
    rintro e w2 ⟨rfl, hb2⟩
    dsimp only
    have hb3 := Hb1.out.trans (hb2.mono (by simp))
    have Hb3 := Lib.hid hb3
    clear hb2 HB
    generalize w.alloc (.cells #[.slice (some ⟨bl, off, none⟩) r cp] 22) = w1 at *
    have hs2 := hb3.size
    go_wp2_with fail
    have hd := (Below.refl w2.heap.size w2).drew
    refine wp_region_held_drew (S := fun W => W.cell? ⟨w.heap.size, 0, none⟩ = some (.slice (some ⟨bl, off, none⟩) r cp) ∧ W.cell? ⟨bl, off, none⟩ = some (.slice q1 l c2)) (by kernel_rfl) (HS.out _ (Hb3.out.trans (hd.mono (by omega)))) (fun hSS => ?_)
    refine wpAnyH_take (i := 0) (v := ?_) rfl (by kernel_rfl) (by kernel_rfl) (by kernel_rfl) (fun _ _ _ h => h) (Or.inl ⟨by rfl, ?_⟩) hSS ?_
    rotate_left 1
    next => intro w hSw; obtain ⟨s1, s2⟩ := hSw; go_simp; try with_reducible rfl
    refine wpAnyH_take (i := 1) (v := ?_) rfl (by kernel_rfl) (by kernel_rfl) (by kernel_rfl) (fun _ _ _ h => h) (Or.inl ⟨by rfl, ?_⟩) hSS ?_
    rotate_left 1
    next => intro w hSw; obtain ⟨s1, s2⟩ := hSw; go_simp; try with_reducible rfl
    refine wpAnyH_take (i := 2) (v := ?_) rfl (by kernel_rfl) (by kernel_rfl) (by kernel_rfl) (fun _ _ _ h => h) (Or.inl ⟨by rfl, ?_⟩) hSS ?_
    rotate_left 1
    next => intro w hSw; obtain ⟨s1, s2⟩ := hSw; go_simp; try with_reducible rfl
    refine wpAnyH_take (i := 3) (v := ?_) rfl (by kernel_rfl) (by kernel_rfl) (by kernel_rfl) (fun _ _ _ h => h) (Or.inl ⟨by rfl, ?_⟩) hSS ?_
    rotate_left 1
    next => intro w hSw; obtain ⟨s1, s2⟩ := hSw; go_simp; try with_reducible rfl
    refine wpAnyH_take (i := 4) (v := ?_) rfl (by kernel_rfl) (by kernel_rfl) (by kernel_rfl) (fun _ _ _ h => h) (Or.inl ⟨by rfl, ?_⟩) hSS ?_
    rotate_left 1
    next => intro w hSw; obtain ⟨s1, s2⟩ := hSw; go_simp; try with_reducible rfl
    refine wpAnyH_take (i := 5) (v := ?_) rfl (by kernel_rfl) (by kernel_rfl) (by kernel_rfl) (fun _ _ _ h => h) (Or.inl ⟨by rfl, ?_⟩) hSS ?_
    rotate_left 1
    next => intro w hSw; obtain ⟨s1, s2⟩ := hSw; go_simp; try with_reducible rfl
    refine wpAnyH_take (i := 6) (v := ?_) rfl (by kernel_rfl) (by kernel_rfl) (by kernel_rfl) (fun _ _ _ h => h) (Or.inl ⟨by rfl, ?_⟩) hSS ?_
    rotate_left 1
    next => intro w hSw; obtain ⟨s1, s2⟩ := hSw; go_simp; try with_reducible rfl
    refine wpAnyH_ready (rs := [7]) (by kernel_rfl) (by simp) ?_
    refine AllReadyH.cons rfl (fun K hK => ?_) AllReadyH.nil
    go_simp
    refine (HT.out _ (Hb3.out.trans (hd.mono (by omega)))).mono ?_
    rintro e5 w5 ⟨g, rfl, hown, hb⟩
    have hb5 : Below (w.heap.size + 1) w1 w5 := Hb3.out.trans ((hd.trans (hb.mono (by exact Nat.le_refl _))).mono (by omega))
    have hS5 := HS.out _ hb5
    have HR : Hid (RetMatE 0 l r D w (.returned (.tuple #[.slice (some ⟨g, 0, none⟩) l l, .int .i64 0])) w5) := Lib.hid ⟨Hb0.out.trans (hb5.mono (by omega)), .inl ⟨rfl, _, _, rfl, hown.mat⟩⟩
    clear hb hown
    dsimp only
    refine hK.out _ _ hS5 (fun _ => ?_)
    clear hK K
    refine wpAnyH_take (i := 8) (v := ?_) rfl (by kernel_rfl) (by kernel_rfl) (by kernel_rfl) (fun _ _ _ h => h) (Or.inl ⟨by rfl, ?_⟩) hS5 ?_
    rotate_left 1
    next => intro w hSw; obtain ⟨s1, s2⟩ := hSw; go_simp; try with_reducible rfl
    refine wpAnyH_take (i := 9) (v := ?_) rfl (by kernel_rfl) (by kernel_rfl) (by kernel_rfl) (fun _ _ _ h => h) (Or.inl ⟨by rfl, ?_⟩) hS5 ?_
    rotate_left 1
    next => intro w hSw; obtain ⟨s1, s2⟩ := hSw; go_simp; try with_reducible rfl
    refine wpAnyH_done (by kernel_rfl) ?_ _
    go_wp2
    exact bodyPost_ret (v := .tuple #[.slice (some ⟨g, 0, none⟩) l l, .int .i64 0]) (by simp [results, Try.results30, go_sem]) rfl HR.out
  · have hv : trE a = 1 := if_pos hz
    have hz2 : (a.chk != 0) = true := by rw [bne_iff_ne]; exact hz
    rw [hz2] at HB
    rw [hv]
    have Hb0 := Lib.hid hb0
    have Hb1 := Lib.hid hb1
    clear hb0 hb1 hz hz2 hv hfa ha
    generalize (fun i k => a.F k i) = D at *
    generalize a.L 0 = l at *
    generalize a.r = r at *
    go_enter Try.func30, Try.ntmps30
    go_wp2_with fail
    refine HB.out.mono ?_
    rintro e w2 ⟨rfl, hb2⟩
    dsimp only
    have hb3 := Hb1.out.trans (hb2.mono (by simp))
    have Hb3 := Lib.hid (Hb0.out.trans (hb3.mono (by omega)))
    clear hb2 hb3 HB
    go_wp2
    refine bodyPost_ret (v := .tuple #[.slice none 0 0, .int .i64 1]) (by simp [results, Try.results30, go_sem]) rfl ?_
    exact ⟨Hb3.out, .inr ⟨by decide, rfl⟩⟩
end Go.Proofs.Ytlkoiekdafaapaa
