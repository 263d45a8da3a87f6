/- The walks of matrix.Mul and Add. -/
import Derived.Test.YtlkoiekdafaapaaWadj
namespace Go.Proofs.Ytlkoiekdafaapaa
open Go.RowKit Go.Shelf

theorem bad2 (a b : GM) (p q : Option Addr) (cp cq : Nat) (hfa : a.Fit) (hfb : b.Fit) (w : World) (ha : a.At w p) (hb : b.At w q) (W : World) (g : Nat) (hW : Below w.heap.size w W) (h0 : W.cell? ⟨g, 0, none⟩ = some (.slice p a.r cp)) (h1 : W.cell? ⟨g, 1, none⟩ = some (.slice q b.r cq)) :
    Calls Try.prog 73 #[.slice (some ⟨g, 0, none⟩) 2 2] W (RetB (a.chk != 0 || b.chk != 0) W) := by
  have h := bad_any 2 (some ⟨g, 0, none⟩) 2 (fun k => if k = 0 then a else b) (fun k => if k = 0 then p else q) (fun k => if k = 0 then cp else cq) (by omega) (fun k hk => by split <;> assumption) W (.inr ⟨g, 0, rfl, World.block_lt_of_cell? W _ h0, fun i hi j hj => by
    have e2 : j = 0 := by omega
    subst e2
    have : i = 0 ∨ i = 1 := by omega
    rcases this with rfl | rfl
    · simpa using h0
    · simpa using h1⟩) (fun k hk => by
      split
      · exact ha.below (Nat.le_refl _) hW
      · exact hb.below (Nat.le_refl _) hW)
  simpa [anyN] using h
theorem below_drN {B : Nat} {w w' : World} (h : Below B w w') (k : Nat) : Below B w (w'.drewN k) := by
  exact below_dr h
def mulE (a b : GM) : Int := if (a.chk != 0 || b.chk != 0) = true then 1 else if a.L 0 ≠ b.r then 11 else 0
theorem mulE_zero {a b : GM} (h : mulE a b = 0) : a.chk = 0 ∧ b.chk = 0 ∧ a.L 0 = b.r := by
  unfold mulE at h
  split at h
  · cases h
  · rename_i h1
    split at h
    · cases h
    · rename_i h2
      simp at h1
      exact ⟨h1.1, h1.2, by omega⟩
set_option maxRecDepth 100000 in
set_option maxHeartbeats 4000000 in
theorem mul_m (a b : GM) (p q : Option Addr) (cp cq : Nat) (hfa : a.Fit) (hfb : b.Fit) (hok : mulE a b = 0 → Small a.r b.r a.F ∧ Small b.r (b.L 0) b.F ∧ SmallP a.r b.r (b.L 0) a.F b.F) (w : World) (ha : a.At w p) (hb : b.At w q) :
    Calls Try.prog 28 #[.slice p a.r cp, .slice q b.r cq] w (RetMatE (mulE a b) a.r (b.L 0) (mulF b.r a.F b.F) w) := by
  have HB := Lib.hid (bad2 a b p q cp cq hfa hfb w ha hb)
  by_cases hz : (a.chk != 0 || b.chk != 0) = true
  · have hv : mulE a b = 1 := if_pos hz
    rw [hv]
    rw [hz] at HB
    clear hz hv hok hfa hfb ha hb
    generalize b.L 0 = l at *
    generalize mulF b.r a.F b.F = D at *
    generalize a.r = r at *
    generalize b.r = n at *
    go_enter Try.func28, Try.ntmps28
    go_wp2_with fail
    refine (HB.out _ w.heap.size ((Below.refl _ w).alloc (Nat.le_refl _) _) (by simp) (by simp)).mono ?_
    rintro e w2 ⟨rfl, hb2⟩
    dsimp only
    have Hb := Lib.hid (((Below.refl _ w).alloc (Nat.le_refl _) _).trans (hb2.mono (by simp)))
    clear hb2 HB
    go_wp2
    refine bodyPost_ret (v := .tuple #[.slice none 0 0, .int .i64 1]) (by simp [results, Try.results28, go_sem]) rfl ?_
    exact ⟨Hb.out, .inr ⟨by decide, rfl⟩⟩
  · have hz2 : (a.chk != 0 || b.chk != 0) = false := by simpa using hz
    rw [hz2] at HB
    have hca : a.chk = 0 := by simp at hz2; exact hz2.1
    have hcb : b.chk = 0 := by simp at hz2; exact hz2.2
    have hMa := GM.mat ha hca
    have hMb := GM.mat hb hcb
    have hra := GM.chk_zero hca
    have hrb := GM.chk_zero hcb
    obtain ⟨bl, off, q1, c1, hpe, hbl, a0⟩ := GM.head ha hra.1
    have hv : mulE a b = if a.L 0 ≠ b.r then 11 else 0 := if_neg hz
    have r0 : (0 : Int) < (a.r : Int) := by omega
    by_cases hl : a.L 0 = b.r
    · have hv0 : mulE a b = 0 := by rw [hv, if_neg (by omega)]
      have e1 : ((a.L 0 : Int) != (b.r : Int)) = false := by rw [hl, bne_self_eq_false]
      obtain ⟨s1, s2, s3⟩ := hok hv0
      rw [hl] at hMa
      have HP := Lib.hid (fun (W : World) (hW : Below w.heap.size w W) => product_any a.r b.r (b.L 0) p q cp cq a.F b.F (by omega) (by omega) (by omega) (by omega) W (hMa.below (Nat.le_refl _) hW) (hMb.below (Nat.le_refl _) hW) s1 s2 s3)
      rw [hv0]
      clear hv0 hv hl s1 s2 s3 hra hrb hMa hMb hca hcb hz hz2 hok hfa hfb ha hb
      generalize b.L 0 = l at *
      generalize a.L 0 = la at *
      generalize mulF b.r a.F b.F = D at *
      generalize a.r = r at *
      generalize b.r = n at *
      subst hpe
      go_enter Try.func28, Try.ntmps28
      go_wp2_with fail
      refine (HB.out _ w.heap.size ((Below.refl _ w).alloc (Nat.le_refl _) _) (by simp) (by simp)).mono ?_
      rintro e w2 ⟨rfl, hb2⟩
      dsimp only
      have hb3 := ((Below.refl w.heap.size w).alloc (Nat.le_refl _) (.cells #[.slice (some ⟨bl, off, none⟩) r cp, .slice q n cq] 22)).trans (hb2.mono (by simp))
      have Hb := Lib.hid hb3
      have a2 := cell_below hb3 a0
      clear hb2 hb3 HB a0
      go_wp2_with fail
      refine (HP.out w2 Hb.out).mono ?_
      rintro e w3 ⟨g, rfl, hown, hb3⟩
      dsimp only
      have Hb3 := Lib.hid (Hb.out.trans (hb3.mono Hb.out.size))
      have Ho := Lib.hid hown.mat
      clear hb3 hown HP
      go_wp2
      refine bodyPost_ret (v := .tuple #[.slice (some ⟨g, 0, none⟩) r r, .int .i64 0]) (by simp [results, Try.results28, go_sem]) rfl ?_
      exact ⟨Hb3.out, .inl ⟨rfl, _, _, rfl, Ho.out⟩⟩
    · have hv0 : mulE a b = 11 := by rw [hv, if_pos hl]
      have e1 : ((a.L 0 : Int) != (b.r : Int)) = true := by rw [bne_iff_ne]; omega
      rw [hv0]
      clear hv0 hv hl hra hrb hMa hMb hca hcb hz hz2 hok hfa hfb ha hb
      generalize b.L 0 = l at *
      generalize a.L 0 = la at *
      generalize mulF b.r a.F b.F = D at *
      generalize a.r = r at *
      generalize b.r = n at *
      subst hpe
      go_enter Try.func28, Try.ntmps28
      go_wp2_with fail
      refine (HB.out _ w.heap.size ((Below.refl _ w).alloc (Nat.le_refl _) _) (by simp) (by simp)).mono ?_
      rintro e w2 ⟨rfl, hb2⟩
      dsimp only
      have hb3 := ((Below.refl w.heap.size w).alloc (Nat.le_refl _) (.cells #[.slice (some ⟨bl, off, none⟩) r cp, .slice q n cq] 22)).trans (hb2.mono (by simp))
      have Hb := Lib.hid hb3
      have a2 := cell_below hb3 a0
      clear hb2 hb3 HB a0
      go_wp2
      refine bodyPost_ret (v := .tuple #[.slice none 0 0, .int .i64 11]) (by simp [results, Try.results28, go_sem]) rfl ?_
      exact ⟨Hb.out, .inr ⟨by decide, rfl⟩⟩
def addE (a b : GM) : Int := if (a.chk != 0 || b.chk != 0) = true then 1 else if ¬(a.r = b.r ∧ a.L 0 = b.L 0) then 11 else 0
theorem addE_zero {a b : GM} (h : addE a b = 0) : a.chk = 0 ∧ b.chk = 0 ∧ a.r = b.r ∧ a.L 0 = b.L 0 := by
  unfold addE at h
  split at h
  · cases h
  · rename_i h1
    split at h
    · cases h
    · rename_i h2
      simp at h1
      exact ⟨h1.1, h1.2, by omega, by omega⟩
set_option maxRecDepth 100000 in
set_option maxHeartbeats 4000000 in
theorem add_m (a b : GM) (p q : Option Addr) (cp cq : Nat) (hfa : a.Fit) (hfb : b.Fit) (hok : addE a b = 0 → Small a.r (a.L 0) a.F ∧ Small b.r (b.L 0) b.F) (w : World) (ha : a.At w p) (hb : b.At w q) :
    Calls Try.prog 46 #[.slice p a.r cp, .slice q b.r cq] w (RetMatE (addE a b) a.r (a.L 0) (fun i k => a.F i k + b.F i k) w) := by
  have HB := Lib.hid (bad2 a b p q cp cq hfa hfb w ha hb)
  by_cases hz : (a.chk != 0 || b.chk != 0) = true
  · have hv : addE a b = 1 := if_pos hz
    rw [hv]
    rw [hz] at HB
    clear hz hv hok hfa hfb ha hb
    generalize a.L 0 = l at *
    generalize (fun i k => a.F i k + b.F i k) = D at *
    generalize a.r = r at *
    generalize b.r = n at *
    go_enter Try.func46, Try.ntmps46
    go_wp2_with fail
    refine (HB.out _ w.heap.size ((Below.refl _ w).alloc (Nat.le_refl _) _) (by simp) (by simp)).mono ?_
    rintro e w2 ⟨rfl, hb2⟩
    dsimp only
    have Hb := Lib.hid (((Below.refl _ w).alloc (Nat.le_refl _) _).trans (hb2.mono (by simp)))
    clear hb2 HB
    go_wp2
    refine bodyPost_ret (v := .tuple #[.slice none 0 0, .int .i64 1]) (by simp [results, Try.results46, go_sem]) rfl ?_
    exact ⟨Hb.out, .inr ⟨by decide, rfl⟩⟩
  · have hz2 : (a.chk != 0 || b.chk != 0) = false := by simpa using hz
    rw [hz2] at HB
    have hca : a.chk = 0 := by simp at hz2; exact hz2.1
    have hcb : b.chk = 0 := by simp at hz2; exact hz2.2
    have hMa := GM.mat ha hca
    have hMb := GM.mat hb hcb
    have hra := GM.chk_zero hca
    have hrb := GM.chk_zero hcb
    obtain ⟨bl, off, q1, c1, hpe, hbl, a0⟩ := GM.head ha hra.1
    obtain ⟨bm, ofm, q2, c2, hqe, hbm, b0⟩ := GM.head hb hrb.1
    have hv : addE a b = if ¬(a.r = b.r ∧ a.L 0 = b.L 0) then 11 else 0 := if_neg hz
    have r0 : (0 : Int) < (a.r : Int) := by omega
    have r1 : (0 : Int) < (b.r : Int) := by omega
    by_cases h1 : a.r = b.r
    · by_cases h2 : a.L 0 = b.L 0
      · have hv0 : addE a b = 0 := by rw [hv, if_neg (by omega)]
        have e1 : ((a.r : Int) != (b.r : Int)) = false := by rw [h1, bne_self_eq_false]
        have e2 : ((a.L 0 : Int) != (b.L 0 : Int)) = false := by rw [h2, bne_self_eq_false]
        obtain ⟨s1, s2⟩ := hok hv0
        have HP : Hid (∀ W : World, Below w.heap.size w W → Calls Try.prog 96 #[.slice p a.r cp, .slice q b.r cq] W (RetOwn a.r (a.L 0) (fun i k => a.F i k + b.F i k) W)) := Lib.hid (fun W hW => by
          rw [← h1, ← h2] at hMb s2
          rw [← h1]
          exact sum_any a.r (a.L 0) p q cp cq a.F b.F (by omega) (by omega) (by omega) W (hMa.below (Nat.le_refl _) hW) (hMb.below (Nat.le_refl _) hW) s1 s2)
        rw [hv0]
        clear h1 h2 s1 s2
        clear hv0 hv hra hrb hMa hMb hca hcb hz hz2 hok hfa hfb ha hb
        generalize (fun i k => a.F i k + b.F i k) = D at *
        generalize a.L 0 = la at *
        generalize b.L 0 = lb at *
        generalize a.r = r at *
        generalize b.r = n at *
        subst hpe hqe
        go_enter Try.func46, Try.ntmps46
        go_wp2_with fail
        refine (HB.out _ w.heap.size ((Below.refl _ w).alloc (Nat.le_refl _) _) (by simp) (by simp)).mono ?_
        rintro e w2 ⟨rfl, hb2⟩
        dsimp only
        have hb3 := ((Below.refl w.heap.size w).alloc (Nat.le_refl _) (.cells #[.slice (some ⟨bl, off, none⟩) r cp, .slice (some ⟨bm, ofm, none⟩) n cq] 22)).trans (hb2.mono (by simp))
        have Hb := Lib.hid hb3
        have a2 := cell_below hb3 a0
        have b2 := cell_below hb3 b0
        clear hb2 hb3 HB a0 b0
        go_wp2_with fail
        go_quiet (fail)
        go_wp2_with fail
        refine (HP.out _ ?_).mono ?_
        · first
            | exact Hb.out
            | exact below_drN Hb.out _
        rintro e w3 ⟨g, rfl, hown, hb3⟩
        dsimp only
        have Hb3 : Hid (Below w.heap.size w w3) := Lib.hid (by
          first
            | exact Hb.out.trans (hb3.mono Hb.out.size)
            | exact (below_drN Hb.out _).trans (hb3.mono (below_drN Hb.out _).size))
        have Ho := Lib.hid hown.mat
        clear hb3 hown HP
        go_wp2
        refine bodyPost_ret (v := .tuple #[.slice (some ⟨g, 0, none⟩) r r, .int .i64 0]) (by simp [results, Try.results46, go_sem]) rfl ?_
        exact ⟨Hb3.out, .inl ⟨rfl, _, _, rfl, Ho.out⟩⟩
      · have hv0 : addE a b = 11 := by rw [hv, if_pos (by omega)]
        have e1 : ((a.r : Int) != (b.r : Int)) = false := by rw [h1, bne_self_eq_false]
        have e2 : ((a.L 0 : Int) != (b.L 0 : Int)) = true := by rw [bne_iff_ne]; omega
        rw [hv0]
        clear h1 h2
        clear hv0 hv hra hrb hMa hMb hca hcb hz hz2 hok hfa hfb ha hb
        generalize (fun i k => a.F i k + b.F i k) = D at *
        generalize a.L 0 = la at *
        generalize b.L 0 = lb at *
        generalize a.r = r at *
        generalize b.r = n at *
        subst hpe hqe
        go_enter Try.func46, Try.ntmps46
        go_wp2_with fail
        refine (HB.out _ w.heap.size ((Below.refl _ w).alloc (Nat.le_refl _) _) (by simp) (by simp)).mono ?_
        rintro e w2 ⟨rfl, hb2⟩
        dsimp only
        have hb3 := ((Below.refl w.heap.size w).alloc (Nat.le_refl _) (.cells #[.slice (some ⟨bl, off, none⟩) r cp, .slice (some ⟨bm, ofm, none⟩) n cq] 22)).trans (hb2.mono (by simp))
        have Hb := Lib.hid hb3
        have a2 := cell_below hb3 a0
        have b2 := cell_below hb3 b0
        clear hb2 hb3 HB a0 b0
        go_wp2_with fail
        go_quiet (fail)
        go_wp2
        refine bodyPost_ret (v := .tuple #[.slice none 0 0, .int .i64 11]) (by simp [results, Try.results46, go_sem]) rfl ?_
        refine ⟨?_, .inr ⟨by decide, rfl⟩⟩
        first
          | exact Hb.out
          | exact below_drN Hb.out _
    · have hv0 : addE a b = 11 := by rw [hv, if_pos (by omega)]
      have e1 : ((a.r : Int) != (b.r : Int)) = true := by rw [bne_iff_ne]; omega
      rw [hv0]
      clear h1
      clear hv0 hv hra hrb hMa hMb hca hcb hz hz2 hok hfa hfb ha hb
      generalize (fun i k => a.F i k + b.F i k) = D at *
      generalize a.L 0 = la at *
      generalize b.L 0 = lb at *
      generalize a.r = r at *
      generalize b.r = n at *
      subst hpe hqe
      go_enter Try.func46, Try.ntmps46
      go_wp2_with fail
      refine (HB.out _ w.heap.size ((Below.refl _ w).alloc (Nat.le_refl _) _) (by simp) (by simp)).mono ?_
      rintro e w2 ⟨rfl, hb2⟩
      dsimp only
      have hb3 := ((Below.refl w.heap.size w).alloc (Nat.le_refl _) (.cells #[.slice (some ⟨bl, off, none⟩) r cp, .slice (some ⟨bm, ofm, none⟩) n cq] 22)).trans (hb2.mono (by simp))
      have Hb := Lib.hid hb3
      have a2 := cell_below hb3 a0
      have b2 := cell_below hb3 b0
      clear hb2 hb3 HB a0 b0
      go_wp2_with fail
      go_quiet (fail)
      go_wp2
      refine bodyPost_ret (v := .tuple #[.slice none 0 0, .int .i64 11]) (by simp [results, Try.results46, go_sem]) rfl ?_
      refine ⟨?_, .inr ⟨by decide, rfl⟩⟩
      first
        | exact Hb.out
        | exact below_drN Hb.out _
end Go.Proofs.Ytlkoiekdafaapaa
