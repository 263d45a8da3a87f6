/- The walk of matrix.product. The walk of matrix.trace. -/
import Derived.Test.YtlaoijfphkhchaaB10
namespace Go.Proofs.Ytlaoijfphkhchaa
open Go.RowKit Go.Shelf

/-- The product of matrices. -/
def mulF (n : Nat) (F G : Nat → Nat → Int) (i k : Nat) : Int := dotN (fun j => F i j * G j k) n
/-- All sums that a product forms are of moderate size. -/
def SmallP (r n c : Nat) (F G : Nat → Nat → Int) : Prop := ∀ i k, i < r → k < c → (∀ j, j ≤ n → (canon (dotN (fun j => F i j * G j k) j)).mag.size ≤ 100000000) ∧ ∀ j, j < n → (canon (F i j * G j k)).mag.size ≤ 100000000

set_option maxRecDepth 100000 in
set_option maxHeartbeats 4000000 in
theorem product_any (r n c : Nat) (p q : Option Addr) (cp cq : Nat) (F G : Nat → Nat → Int) (h1 : 0 < n) (hr : r ≤ 1000000) (hn : n ≤ 1000000) (hc : c ≤ 1000000) (w : World) (hF : MatF w p r n F) (hG : MatF w q n c G) (hsF : Small r n F) (hsG : Small n c G) (hsP : SmallP r n c F G) :
    Calls Try.prog 104 #[.slice p r cp, .slice q n cq] w (RetOwn r c (mulF n F G) w) := by
  have hb0 : Below w.heap.size w ((w.alloc (.cells #[.slice p r cp] 63)).alloc (.cells #[.slice q n cq] 63)) := ((Below.refl _ w).alloc (Nat.le_refl _) _).alloc (by simp) _
  have hx0 : Boxed ((w.alloc (.cells #[.slice p r cp] 63)).alloc (.cells #[.slice q n cq] 63)) w.heap.size 63 (.slice p r cp) := (Boxed.new w 63 (.slice p r cp)).alloc _
  have hx1 : Boxed ((w.alloc (.cells #[.slice p r cp] 63)).alloc (.cells #[.slice q n cq] 63)) (w.heap.size + 1) 63 (.slice q n cq) := by
    have := Boxed.new (w.alloc (.cells #[.slice p r cp] 63)) 63 (.slice q n cq)
    simpa using this
  have HT := Lib.hid (fun W (hW : Below ((w.alloc (.cells #[.slice p r cp] 63)).alloc (.cells #[.slice q n cq] 63)).heap.size ((w.alloc (.cells #[.slice p r cp] 63)).alloc (.cells #[.slice q n cq] 63)) W) => table_any r c hr hc 122 #[.pointer (some ⟨w.heap.size + 1, 0, none⟩), .pointer (some ⟨w.heap.size, 0, none⟩)] (mulF n F G) W (enters_of Try.func122 (by kernel_rfl) rfl) (fun i k V hi hk hV => by
    have h2 := hb0.size
    have h3 := hW.size
    have hall : Below w.heap.size w V := (hb0.trans (hW.mono h2)).trans (hV.mono (Nat.le_trans h2 h3))
    have hlow : Below ((w.alloc (.cells #[.slice p r cp] 63)).alloc (.cells #[.slice q n cq] 63)).heap.size ((w.alloc (.cells #[.slice p r cp] 63)).alloc (.cells #[.slice q n cq] 63)) V := hW.trans (hV.mono h3)
    exact product1_any r n c i k w.heap.size (w.heap.size + 1) p q cp cq F G hi hk hn V (Boxed.cell ((hlow.block _ hx0.lt).trans hx0)) (Boxed.cell ((hlow.block _ hx1.lt).trans hx1)) (hF.below (Nat.le_refl _) hall) (hG.below (Nat.le_refl _) hall) hsF hsG (hsP i k hi hk).1 (hsP i k hi hk).2))
  obtain ⟨fb, fo, hpe, hfb, H, hH, _⟩ := hG.cells h1
  have a2 := hH 0 h1
  have r0 : (0 : Int) < (n : Int) := by omega
  have hS : ∀ W, Below ((w.alloc (.cells #[.slice p r cp] 63)).alloc (.cells #[.slice q n cq] 63)).heap.size ((w.alloc (.cells #[.slice p r cp] 63)).alloc (.cells #[.slice q n cq] 63)) W → W.cell? ⟨w.heap.size, 0, none⟩ = some (.slice p r cp) ∧ W.cell? ⟨w.heap.size + 1, 0, none⟩ = some (.slice q n cq) ∧ W.cell? ⟨fb, fo, none⟩ = some (.slice (H 0).1 c (H 0).2) := fun W hW =>
    ⟨Boxed.cell ((hW.block _ hx0.lt).trans hx0), Boxed.cell ((hW.block _ hx1.lt).trans hx1), cell_below (hb0.trans (hW.mono hb0.size)) (by simpa using a2)⟩
  have HS := Lib.hid hS
  have Hb0 := Lib.hid hb0
  subst hpe
  clear hS hH a2 hF hG hsF hsG hb0 hx0 hx1 hsP
  go_enter Try.func104, Try.ntmps104
  go_wp2
  have hsz : ((w.alloc (.cells #[.slice p r cp] 63)).alloc (.cells #[.slice (some ⟨fb, fo, none⟩) n cq] 63)).heap.size = w.heap.size + 1 + 1 := by simp
  generalize ((w.alloc (.cells #[.slice p r cp] 63)).alloc (.cells #[.slice (some ⟨fb, fo, none⟩) n cq] 63)) = w1 at *
  have hd := (Below.refl w1.heap.size w1).drew
  refine wp_region_held_drew (S := fun W => W.cell? ⟨w.heap.size, 0, none⟩ = some (.slice p r cp) ∧ W.cell? ⟨w.heap.size + 1, 0, none⟩ = some (.slice (some ⟨fb, fo, none⟩) n cq) ∧ W.cell? ⟨fb, fo, none⟩ = some (.slice (H 0).1 c (H 0).2)) (by kernel_rfl) (HS.out _ hd) (fun hSS => ?_)
  refine wpAnyH_take (i := 0) (v := ?_) rfl (by kernel_rfl) (by kernel_rfl) (by kernel_rfl) (fun _ _ _ h => h) (Or.inl ⟨by rfl, ?_⟩) hSS ?_
  rotate_left 1
  next => intro w hSw; obtain ⟨s0, s1, s2⟩ := hSw; go_simp; try with_reducible rfl
  refine wpAnyH_take (i := 1) (v := ?_) rfl (by kernel_rfl) (by kernel_rfl) (by kernel_rfl) (fun _ _ _ h => h) (Or.inl ⟨by rfl, ?_⟩) hSS ?_
  rotate_left 1
  next => intro w hSw; obtain ⟨s0, s1, s2⟩ := hSw; go_simp; try with_reducible rfl
  refine wpAnyH_take (i := 2) (v := ?_) rfl (by kernel_rfl) (by kernel_rfl) (by kernel_rfl) (fun _ _ _ h => h) (Or.inl ⟨by rfl, ?_⟩) hSS ?_
  rotate_left 1
  next => intro w hSw; obtain ⟨s0, s1, s2⟩ := hSw; go_simp; try with_reducible rfl
  refine wpAnyH_take (i := 3) (v := ?_) rfl (by kernel_rfl) (by kernel_rfl) (by kernel_rfl) (fun _ _ _ h => h) (Or.inl ⟨by rfl, ?_⟩) hSS ?_
  rotate_left 1
  next => intro w hSw; obtain ⟨s0, s1, s2⟩ := hSw; go_simp; try with_reducible rfl
  refine wpAnyH_take (i := 4) (v := ?_) rfl (by kernel_rfl) (by kernel_rfl) (by kernel_rfl) (fun _ _ _ h => h) (Or.inl ⟨by rfl, ?_⟩) hSS ?_
  rotate_left 1
  next => intro w hSw; obtain ⟨s0, s1, s2⟩ := hSw; go_simp; try with_reducible rfl
  refine wpAnyH_take (i := 5) (v := ?_) rfl (by kernel_rfl) (by kernel_rfl) (by kernel_rfl) (fun _ _ _ h => h) (Or.inl ⟨by rfl, ?_⟩) hSS ?_
  rotate_left 1
  next => intro w hSw; obtain ⟨s0, s1, s2⟩ := hSw; go_simp; try with_reducible rfl
  refine wpAnyH_take (i := 6) (v := ?_) rfl (by kernel_rfl) (by kernel_rfl) (by kernel_rfl) (fun _ _ _ h => h) (Or.inl ⟨by rfl, ?_⟩) hSS ?_
  rotate_left 1
  next => intro w hSw; obtain ⟨s0, s1, s2⟩ := hSw; go_simp; try with_reducible rfl
  refine wpAnyH_ready (rs := [7]) (by kernel_rfl) (by simp) ?_
  refine AllReadyH.cons rfl (fun K hK => ?_) AllReadyH.nil
  go_simp
  refine (HT.out _ hd).mono ?_
  rintro e5 w5 h
  obtain ⟨g, rfl, hown, hb⟩ := h
  have hb5 : Below w1.heap.size w1 w5 := hd.trans (hb.mono (by exact Nat.le_refl _))
  have hS5 := HS.out _ hb5
  have HR : Hid (RetOwn r c (mulF n F G) w (.returned (.slice (some ⟨g, 0, none⟩) r r)) w5) := Lib.hid ⟨_, rfl, hown.low (by have := hd.size; have := Hb0.out.size; omega), Hb0.out.trans (hb5.mono (by omega))⟩
  clear hb hown
  dsimp only
  refine hK.out _ _ hS5 (fun _ => ?_)
  clear hK K
  refine wpAnyH_take (i := 8) (v := ?_) rfl (by kernel_rfl) (by kernel_rfl) (by kernel_rfl) (fun _ _ _ h => h) (Or.inl ⟨by rfl, ?_⟩) hS5 ?_
  rotate_left 1
  next => intro w hSw; obtain ⟨s0, s1, s2⟩ := hSw; go_simp; try with_reducible rfl
  refine wpAnyH_done (by kernel_rfl) ?_ _
  go_wp2
  go_ret
  exact HR.out
end Go.Proofs.Ytlaoijfphkhchaa
namespace Go.Proofs.Ytlaoijfphkhchaa
open Go.RowKit Go.Shelf

set_option maxRecDepth 100000 in
set_option maxHeartbeats 4000000 in
theorem trace_any (n c : Nat) (p : Option Addr) (cp : Nat) (F : Nat → Nat → Int) (hc : n ≤ c) (hn : n ≤ 1000000) (w : World) (hF : MatF w p n c F) (hsF : Small n c F) (hsD : ∀ j, j ≤ n → (canon (dotN (fun i => F i i) j)).mag.size ≤ 100000000) :
    Calls Try.prog 105 #[.slice p n cp] w (RetZ (canon (dotN (fun i => F i i) n)) w) := by
  have HF := Lib.hid hF
  have HD := Lib.hid hsD
  have HsF := Lib.hid hsF
  clear hF hsD hsF
  go_enter Try.func105, Try.ntmps105
  go_upto_region 3 with (fail)
  have hb0 : Below w.heap.size w ((w.alloc (.cells #[.bool false, .string ⟨#[]⟩] 28)).alloc (.cells #[.bool false, .string ⟨#[]⟩] 28)) := ((Below.refl _ w).alloc (Nat.le_refl _) _).alloc (by simp) _
  have hx0 : BoxAt ((w.alloc (.cells #[.bool false, .string ⟨#[]⟩] 28)).alloc (.cells #[.bool false, .string ⟨#[]⟩] 28)) w.heap.size (.bool false) (.string ⟨#[]⟩) := (BoxAt.new w _ _ _).alloc _
  have hx1 : BoxAt ((w.alloc (.cells #[.bool false, .string ⟨#[]⟩] 28)).alloc (.cells #[.bool false, .string ⟨#[]⟩] 28)) (w.heap.size + 1) (.bool false) (.string ⟨#[]⟩) := by
    have := BoxAt.new (w.alloc (.cells #[.bool false, .string ⟨#[]⟩] 28)) (.bool false) (.string ⟨#[]⟩) 28
    simpa using this
  generalize (w.alloc (.cells #[.bool false, .string ⟨#[]⟩] 28)).alloc (.cells #[.bool false, .string ⟨#[]⟩] 28) = w1 at *
  go_loopw [8] (fun v wr => ∃ i : Nat, i ≤ n ∧ v = .int .i64 i ∧ Hid (Below w.heap.size w wr) ∧ Hid (BoxAt wr w.heap.size (.bool false) (.string ⟨#[]⟩)) ∧ Hid (BoxAt wr (w.heap.size + 1) (.bool (canon (dotN (fun i => F i i) i)).neg) (.string (canon (dotN (fun i => F i i) i)).mag))) (fun v _ => n - (intOf v).toNat)
  case atStart => exact ⟨0, by omega, by go_num, Lib.hid hb0, Lib.hid hx0, Lib.hid hx1⟩
  case round =>
    clear hb0 hx0 hx1
    obtain ⟨i, hi, rfl, Hb, H0, H1⟩ := hrel
    by_cases hlt : i < n
    · obtain ⟨fb, fo, rfl, _, H, hH, hR⟩ := HF.out.cells hlt
      obtain ⟨ab, ao, hpe, hab, hac⟩ := (hR i hlt).cells (Nat.lt_of_lt_of_le hlt hc)
      have a2 := cell_below Hb.out (hH i hlt)
      rw [hpe] at a2
      obtain ⟨a3, a4⟩ := hac i (Nat.lt_of_lt_of_le hlt hc)
      have a3 := cell_below Hb.out a3
      have a4 := cell_below Hb.out a4
      have i0 : (0 : Int) ≤ (i : Int) := by omega
      have i1 : (i : Int) < (n : Int) := by omega
      have i2 : (i : Int) < (c : Int) := by omega
      have HA := Lib.hid (fun W => addc_any (dotN (fun i => F i i) i) (F i i) (HD.out i (by omega)) (HsF.out i i hlt (by omega)) W)
      rw [show dotN (fun i => F i i) i + F i i = dotN (fun i => F i i) (i + 1) from rfl] at HA
      obtain ⟨XF, hXF⟩ : ∃ Z, canon (F i i) = Z := ⟨_, rfl⟩
      obtain ⟨XS, hXS⟩ : ∃ Z, canon (dotN (fun i => F i i) i) = Z := ⟨_, rfl⟩
      obtain ⟨XT, hXT⟩ : ∃ Z, canon (dotN (fun i => F i i) (i + 1)) = Z := ⟨_, rfl⟩
      have HXT := Lib.hid hXT
      rw [hXF] at HA a3 a4
      rw [hXS] at HA H1
      rw [hXT] at HA
      clear hXF hXS hXT hH hR hpe hac
      go_upto_region 5 with (fail)
      have hd : Below wr.heap.size wr wr.drew := (Below.refl _ _).drew
      have HS : Hid (∀ W, Below wr.heap.size wr W → W.cell? ⟨ab, ao + i * 2, none⟩ = some (.bool XF.neg) ∧ W.cell? ⟨ab, ao + i * 2 + 1, none⟩ = some (.string XF.mag)) := Lib.hid (fun W hW => ⟨cell_below hW a3, cell_below hW a4⟩)
      clear a2 a3 a4
      refine wp_region_held_drew (S := fun W => W.cell? ⟨ab, ao + i * 2, none⟩ = some (.bool XF.neg) ∧ W.cell? ⟨ab, ao + i * 2 + 1, none⟩ = some (.string XF.mag)) (by kernel_rfl) (HS.out _ hd) (fun hSS => ?_)
      refine wpAnyH_take (i := 1) (v := ?_) rfl (by kernel_rfl) (by kernel_rfl) (by kernel_rfl) (fun _ _ _ h => h) (Or.inl ⟨by rfl, ?_⟩) hSS ?_
      rotate_left 1
      next => intro w hSw; obtain ⟨s1, s2⟩ := hSw; go_simp; try with_reducible rfl
      refine wpAnyH_take (i := 2) (v := ?_) rfl (by kernel_rfl) (by kernel_rfl) (by kernel_rfl) (fun _ _ _ h => h) (Or.inl ⟨by rfl, ?_⟩) hSS ?_
      rotate_left 1
      next => intro w hSw; obtain ⟨s1, s2⟩ := hSw; go_simp; try with_reducible rfl
      refine wpAnyH_take (i := 3) (v := ?_) rfl (by kernel_rfl) (by kernel_rfl) (by kernel_rfl) (fun _ _ _ h => h) (Or.inl ⟨by rfl, ?_⟩) hSS ?_
      rotate_left 1
      next => intro w hSw; obtain ⟨s1, s2⟩ := hSw; go_simp; try with_reducible rfl
      refine wpAnyH_take (i := 4) (v := ?_) rfl (by kernel_rfl) (by kernel_rfl) (by kernel_rfl) (fun _ _ _ h => h) (Or.inl ⟨by rfl, ?_⟩) hSS ?_
      rotate_left 1
      next => intro w hSw; obtain ⟨s1, s2⟩ := hSw; go_simp; try with_reducible rfl
      simp only [Act.put, List.getElem_toArray, List.getElem_cons_zero, List.getElem_cons_succ, List.setIfInBounds_toArray, List.set_cons_zero, List.set_cons_succ]
      refine wpAnyH_ready (rs := [0]) (by kernel_rfl) (by simp) ?_
      refine AllReadyH.cons rfl ?_ AllReadyH.nil
      intro K hK
      obtain ⟨z0, z1, z2, z3, z4⟩ := H1.out.below hd H1.out.2.2.2.2
      go_simp
      refine hK.out _ _ hSS (fun _ => ?_)
      clear hK K z0 z1 z2 z3 z4
      refine wpAnyH_ready (rs := [5]) (by kernel_rfl) (by simp) ?_
      refine AllReadyH.cons rfl ?_ AllReadyH.nil
      intro K hK
      go_simp
      refine (HA.out _).mono ?_
      rintro e5 w5 ⟨rfl, hb5⟩
      have hb5 : Below wr.heap.size wr w5 := hd.trans (hb5.mono (Nat.le_refl _))
      dsimp only
      refine hK.out _ _ (HS.out _ hb5) (fun _ => ?_)
      clear hK K
      refine wpAnyH_ready (rs := [6]) (by kernel_rfl) (by simp) ?_
      refine AllReadyH.cons rfl ?_ AllReadyH.nil
      intro K hK
      obtain ⟨z0, z1, z2, z3, z4⟩ := H1.out.below hb5 H1.out.2.2.2.2
      go_simp
      have hS6 : ((w5.setCell ⟨w.heap.size + 1, 0, none⟩ (.bool XT.neg)).setCell ⟨w.heap.size + 1, 1, none⟩ (.string XT.mag)).cell? ⟨ab, ao + i * 2, none⟩ = some (.bool XF.neg) ∧ ((w5.setCell ⟨w.heap.size + 1, 0, none⟩ (.bool XT.neg)).setCell ⟨w.heap.size + 1, 1, none⟩ (.string XT.mag)).cell? ⟨ab, ao + i * 2 + 1, none⟩ = some (.string XF.mag) := by
        obtain ⟨s1, s2⟩ := HS.out _ hb5
        refine ⟨?_, ?_⟩ <;> (rw [World.cell?_setCell_other _ _ _ _ (by intro hh; simp only [Addr.mk.injEq] at hh; omega), World.cell?_setCell_other _ _ _ _ (by intro hh; simp only [Addr.mk.injEq] at hh; omega)]; assumption)
      refine hK.out _ _ hS6 (fun _ => ?_)
      clear hK K
      refine wpAnyH_done (by kernel_rfl) ?_ _
      have hwr := Hb.out.size
      have HN0 : Hid (BoxAt ((w5.setCell ⟨w.heap.size + 1, 0, none⟩ (.bool XT.neg)).setCell ⟨w.heap.size + 1, 1, none⟩ (.string XT.mag)) w.heap.size (.bool false) (.string ⟨#[]⟩)) := Lib.hid (boxp_far (boxp_far (H0.out.below hb5 H0.out.2.2.2.2) (by simp) _) (by simp) _)
      have HN1 : Hid (BoxAt ((w5.setCell ⟨w.heap.size + 1, 0, none⟩ (.bool XT.neg)).setCell ⟨w.heap.size + 1, 1, none⟩ (.string XT.mag)) (w.heap.size + 1) (.bool XT.neg) (.string XT.mag)) := Lib.hid (boxp_set (H1.out.below hb5 H1.out.2.2.2.2) _ _)
      have HNb : Hid (Below w.heap.size w ((w5.setCell ⟨w.heap.size + 1, 0, none⟩ (.bool XT.neg)).setCell ⟨w.heap.size + 1, 1, none⟩ (.string XT.mag))) := Lib.hid (((Hb.out.trans (hb5.mono hwr)).setCell (by simp) _).setCell (by simp) _)
      generalize (w5.setCell ⟨w.heap.size + 1, 0, none⟩ (.bool XT.neg)).setCell ⟨w.heap.size + 1, 1, none⟩ (.string XT.mag) = w6 at *
      clear hS6 z0 z1 z2 z3 z4
      rw [← HXT.out] at HN1
      go_wp2
      go_roundw
      case rel => exact ⟨i + 1, by omega, by go_num, HNb, HN0, HN1⟩
      case measure => simp [intOf]; omega
    · have hin : i = n := by omega
      subst hin
      have i1 : ¬ (i : Int) < (i : Int) := by omega
      have HR0 := H0
      obtain ⟨XT, hXT⟩ : ∃ Z, canon (dotN (fun j => F j j) i) = Z := ⟨_, rfl⟩
      rw [hXT] at H1
      have HXT := Lib.hid hXT
      clear hXT
      obtain ⟨z0, z1, z2, z3, z4⟩ := H1.out
      obtain ⟨y0, y1, y2, y3, y4⟩ := H0.out
      go_wp2
      have hx := boxp_set H0.out (.bool XT.neg) (.string XT.mag)
      have hbN : Below w.heap.size w ((wr.setCell ⟨w.heap.size, 0, none⟩ (.bool XT.neg)).setCell ⟨w.heap.size, 1, none⟩ (.string XT.mag)) := (Hb.out.setCell (by simp) _).setCell (by simp) _
      generalize (wr.setCell ⟨w.heap.size, 0, none⟩ (.bool XT.neg)).setCell ⟨w.heap.size, 1, none⟩ (.string XT.mag) = w6 at *
      obtain ⟨x0, x1, _⟩ := hx
      refine bodyPost_ret (v := .agg #[.bool XT.neg, .string XT.mag]) ?_ rfl ⟨by rw [HXT.out], hbN⟩
      simp [results, Try.results105, go_sem, x0, x1]
end Go.Proofs.Ytlaoijfphkhchaa
