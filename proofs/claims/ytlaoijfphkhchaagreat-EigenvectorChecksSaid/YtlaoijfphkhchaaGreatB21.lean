/- eigenvector: plus, sums at int. eigenvector: check, zero, greatest, Greatest, Check. -/
import Derived.Test.YtlaoijfphkhchaaGreatB13
import Derived.Test.YtlaoijfphkhchaaGreatB15
import Derived.Test.YtlaoijfphkhchaaGreatB16
import Derived.Test.YtlaoijfphkhchaaGreatB20
import Derived.Test.YtlaoijfphkhchaaGreatB7
import Derived.Test.YtlaoijfphkhchaaGreatShelfA
namespace Go.Proofs.YtlaoijfphkhchaaGreat
open Go.RowKit Go.Shelf
set_option maxRecDepth 100000 in
theorem plus_any (x y z : Int) (hz : x + y = z) (h1 : -9000000000000000000 ≤ z) (h2 : z ≤ 9000000000000000000) (w : World) : Calls Tryz.prog 29 #[.int .i64 x, .int .i64 y] w fun e w' => e = .returned (.int .i64 z) ∧ w = w' := by
  have hw : IntKind.i64.wrap (x + y) = z := by rw [hz]; exact IntWalk.i64_in _ (by omega)
  clear hz
  go_enter Tryz.func29, Tryz.ntmps29
  go_wp2
  go_ret
  exact ⟨rfl, rfl⟩
/-- What a function answers that makes a vector: a block of its own. -/
def RetVecB (n : Nat) (f : Nat → Int) (w : World) (e : Ending) (w' : World) : Prop := ∃ g, e = .returned (.slice (some ⟨g, 0, none⟩) n n) ∧ VAt w' g n f ∧ w.heap.size ≤ g ∧ Below w.heap.size w w'
set_option maxRecDepth 100000 in
set_option maxHeartbeats 4000000 in
theorem sums_any (LL : Int) (N n : Nat) (E : Nat → Nat → Int) (p : Option Addr) (c : Nat) (v : Nat → Int) (pv : Option Addr) (cv : Nat) (hN : N ≤ 1000000) (hn : n ≤ 1000000) (hok : EdOk N n E) (hv : ∀ s, s < N → 0 ≤ v s ∧ v s ≤ 1000000) (w : World) (hE : EdgAt w p n E) (hV : VRow w pv N v) :
    Calls Tryz.prog 28 #[.agg #[.int .i64 LL, .int .i64 (N : Int), .slice p n c], .slice pv N cv, .func (.func 29) #[] #[]] w (RetVecB N (smE (frE E) (toE E) v n) w) := by
  obtain ⟨W0, hW0⟩ : ∃ W, w.alloc (.cells #[.int .i64 LL, .int .i64 (N : Int), .slice p n c] 24) = W := ⟨_, rfl⟩
  have hb0 : Below w.heap.size w W0 := by rw [← hW0]; exact (Below.refl _ _).alloc (Nat.le_refl _) _
  have hbx : BoxAt3 W0 w.heap.size (.int .i64 LL) (.int .i64 (N : Int)) (.slice p n c) := by rw [← hW0]; exact BoxAt3.new w _ _ _ _
  have hE0 : EdgAt W0 p n E := hE.mono (Nat.le_refl _) hb0
  have hV0 : VRow W0 pv N v := hV.below (Nat.le_refl _) hb0
  have hmk := make_is N hN W0
  have Hz : Hid (VAt (W0.alloc (.cells (madeCells #[.int .i64 0] N) 3)) W0.heap.size N (smE (frE E) (toE E) v 0)) := Lib.hid ((made_ints W0 N 3).congr fun _ _ => rfl)
  have Hb : Hid (Below W0.heap.size W0 (W0.alloc (.cells (madeCells #[.int .i64 0] N) 3))) := Lib.hid ((Below.refl _ _).alloc (Nat.le_refl _) _)
  obtain ⟨_, c0, c1, c2⟩ := hbx
  have hsz : w.heap.size ≤ W0.heap.size := hb0.size
  have Hb0 := Lib.hid hb0
  have HE := Lib.hid hE0
  have HV := Lib.hid hV0
  have Hv := Lib.hid hv
  have Hok := Lib.hid (fun i hi => edOk_nat hok i hi)
  have Hsm : Hid (∀ i, i < n → ∀ s, 0 ≤ smE (frE E) (toE E) v i s ∧ smE (frE E) (toE E) v i s ≤ 1000000000000) := Lib.hid (fun i hi s => by
    have ht : ∀ e, e < i → toE E e < N := fun e he => (edOk_nat hok e (by omega)).2.2.2
    refine ⟨smE_nonneg ht (fun s hs => (hv s hs).1) s, ?_⟩
    have := smE_le (B := 1000000) (by omega) ht (fun s hs => (hv s hs).2) (fr := frE E) s
    omega)
  clear hE hV hE0 hV0 hb0 hok hv
  go_enter Tryz.func28, Tryz.ntmps28
  go_wp2_with fail
  clear hmk c0 c1 c2
  obtain ⟨gr, hgr⟩ : ∃ g, W0.heap.size = g := ⟨_, rfl⟩
  rw [hgr] at Hz hsz Hb ⊢
  generalize W0.alloc (.cells (madeCells #[.int .i64 0] N) 3) = V at *
  have Hgr := Lib.hid hgr
  clear hW0 hgr
  go_loopw [16] (fun tv wr => ∃ i : Nat, i ≤ n ∧ tv = .int .i64 (i : Nat) ∧ Hid (VAt wr gr N (smE (frE E) (toE E) v i)) ∧ Hid (Below gr W0 wr)) (fun tv _ => n - (intOf tv).toNat)
  case atStart => exact ⟨0, by omega, by go_num, Hz, Hb⟩
  case round =>
    clear Hz Hb
    obtain ⟨i, hi, rfl, Hz, Hb⟩ := hrel
    by_cases hil : i < n
    · have i3 : (i : Int) < (n : Int) := by omega
      have i4 : (0 : Int) ≤ (i : Int) := by omega
      obtain ⟨e0, e2, ea, eb⟩ := Hok.out i hil
      have hew : EdgAt wr p n E := HE.out.mono (by rw [Hgr.out]; exact Nat.le_refl _) Hb.out
      have hvw : VRow wr pv N v := HV.out.below (by rw [Hgr.out]; exact Nat.le_refl _) Hb.out
      rcases hew with h | ⟨ab, ao, rfl, hab, hac⟩
      · omega
      have x0 : wr.cell? ⟨ab, ao + i * 3, none⟩ = some (.int .i64 (E i 0)) := by simpa [edC] using hac i hil 0 (by omega)
      have x1 : wr.cell? ⟨ab, ao + i * 3 + 1, none⟩ = some (.int .i64 (E i 1)) := by simpa [edC] using hac i hil 1 (by omega)
      have x2 : wr.cell? ⟨ab, ao + i * 3 + 2, none⟩ = some (.int .i64 (E i 2)) := by simpa [edC] using hac i hil 2 (by omega)
      obtain ⟨vb, vo, rfl, hvb, hvc⟩ := VRow.cells hvw eb
      have y0 := hvc (toE E i) eb
      have hs0 := Hsm.out i hil (frE E i)
      have hv0 := Hv.out _ eb
      have hnx : ∀ s, smE (frE E) (toE E) v (i + 1) s = if s = frE E i then smE (frE E) (toE E) v i (frE E i) + v (toE E i) else smE (frE E) (toE E) v i s := fun s => by
        rw [smE_succ]
        by_cases h : s = frE E i
        · rw [if_pos h, if_pos h.symm, h]
        · rw [if_neg h, if_neg (Ne.symm h), Int.add_zero]
      have Hnx := Lib.hid hnx
      rw [e0] at x0
      rw [e2] at x2
      obtain ⟨s, hs⟩ : ∃ s, frE E i = s := ⟨_, rfl⟩
      obtain ⟨t, ht⟩ : ∃ s, toE E i = s := ⟨_, rfl⟩
      obtain ⟨y, hy⟩ : ∃ s, v t = s := ⟨_, rfl⟩
      obtain ⟨l1, hl1⟩ : ∃ s, E i 1 = s := ⟨_, rfl⟩
      rw [hs] at x0 ea hs0 Hnx
      rw [ht] at x2 eb y0 hv0 Hnx
      rw [hy] at y0 hv0 Hnx
      rw [hl1] at x1
      have hz : VAt wr gr N (smE (frE E) (toE E) v i) := Hz.out
      obtain ⟨z, hz1⟩ : ∃ z, smE (frE E) (toE E) v i s + y = z := ⟨_, rfl⟩
      obtain ⟨x, hx⟩ : ∃ z, smE (frE E) (toE E) v i s = z := ⟨_, rfl⟩
      rw [hx] at hz1 hs0
      have HNX : Hid (∀ k, smE (frE E) (toE E) v (i + 1) k = if k = s then z else smE (frE E) (toE E) v i k) := Lib.hid (fun k => by rw [Hnx.out k, hx, hz1])
      have HP := Lib.hid (fun W => plus_any x y z hz1 (by omega) (by omega) W)
      have HX := Lib.hid hx
      have s1 : (s : Int) < (N : Int) := by omega
      have s0 : (0 : Int) ≤ (s : Int) := by omega
      have t1 : (t : Int) < (N : Int) := by omega
      have t0 : (0 : Int) ≤ (t : Int) := by omega
      have hgw : gr < wr.heap.size := hz.1
      clear hac hvc hnx Hnx e0 e2 hs ht hy hl1 hz hz1 hx hs0 hv0
      go_upto_region 5 with (fail)
      clear x0 x1 x2
      have hal := (Below.refl wr.heap.size wr).alloc (Nat.le_refl _) (.cells #[.int .i64 (s : Int), .int .i64 l1, .int .i64 (t : Int)] 60)
      have hbx := BoxAt3.new wr (.int .i64 (s : Int)) (.int .i64 l1) (.int .i64 (t : Int)) 60
      have hz2 := VAt.below Hz.out hal hgw
      have hne1 : wr.heap.size ≠ gr := by omega
      have hne2 : vb ≠ gr := by
        rcases HV.out with h | ⟨vb', vo', he, hlt, _⟩
        · omega
        · cases he; rw [Hgr.out] at hlt; omega
      have hb2 := Hb.out.trans (hal.mono (Nat.le_of_lt hgw))
      have y2 := cell_below hal y0
      obtain ⟨gb, hgb⟩ : ∃ g, wr.heap.size = g := ⟨_, rfl⟩
      rw [hgb] at hbx hne1 ⊢
      clear hgb hal y0 hgw
      generalize wr.alloc (.cells #[.int .i64 (s : Int), .int .i64 l1, .int .i64 (t : Int)] 60) = X at *
      have HXX : Hid (∀ W, Below X.heap.size X W → VAt W gr N (smE (frE E) (toE E) v i) ∧ Below gr W0 W) := Lib.hid (fun W hW => ⟨hz2.below hW hz2.1, hb2.trans (hW.mono (Nat.le_of_lt hz2.1))⟩)
      obtain ⟨SS, hSe⟩ : ∃ SS : World → Prop, SS = fun W => W.cell? ⟨gb, 0, none⟩ = some (.int .i64 (s : Int)) ∧ W.cell? ⟨gb, 2, none⟩ = some (.int .i64 (t : Int)) ∧ W.cell? ⟨vb, vo + t, none⟩ = some (.int .i64 y) := ⟨_, rfl⟩
      have HS : Hid (∀ W, Below X.heap.size X W → SS W) := Lib.hid (fun W hW => by
        obtain ⟨_, b0, b1, b2⟩ := hbx
        rw [hSe]; exact ⟨cell_below hW b0, cell_below hW b2, cell_below hW y2⟩)
      have hd : Below X.heap.size X X.drew := (Below.refl _ _).drew
      clear Hz Hb hbx hz2 hb2 y2
      refine wp_region_held_drew (S := SS) (by kernel_rfl) (HS.out _ hd) (fun hSS => ?_)
      refine wpAnyH_take (i := 0) (v := ?_) rfl (by kernel_rfl) (by kernel_rfl) (by kernel_rfl) (fun _ _ _ h => h) (Or.inl ⟨by rfl, ?_⟩) (HS.out _ hd) ?_
      rotate_left 1
      next => intro w hSw; rw [hSe] at hSw; obtain ⟨s1, s2, s3⟩ := hSw; go_simp; try with_reducible rfl
      try simp only [Act.put, List.getElem_toArray, List.getElem_cons_zero, List.getElem_cons_succ, List.setIfInBounds_toArray, List.set_cons_zero, List.set_cons_succ]
      refine wpAnyH_take (i := 1) (v := ?_) rfl (by kernel_rfl) (by kernel_rfl) (by kernel_rfl) (fun _ _ _ h => h) (Or.inl ⟨by rfl, ?_⟩) (HS.out _ hd) ?_
      rotate_left 1
      next => intro w hSw; rw [hSe] at hSw; obtain ⟨s1, s2, s3⟩ := hSw; go_simp; try with_reducible rfl
      try simp only [Act.put, List.getElem_toArray, List.getElem_cons_zero, List.getElem_cons_succ, List.setIfInBounds_toArray, List.set_cons_zero, List.set_cons_succ]
      refine wpAnyH_take (i := 2) (v := ?_) rfl (by kernel_rfl) (by kernel_rfl) (by kernel_rfl) (fun _ _ _ h => h) (Or.inl ⟨by rfl, ?_⟩) (HS.out _ hd) ?_
      rotate_left 1
      next => intro w hSw; rw [hSe] at hSw; obtain ⟨s1, s2, s3⟩ := hSw; go_simp; try with_reducible rfl
      try simp only [Act.put, List.getElem_toArray, List.getElem_cons_zero, List.getElem_cons_succ, List.setIfInBounds_toArray, List.set_cons_zero, List.set_cons_succ]
      refine wpAnyH_take (i := 3) (v := ?_) rfl (by kernel_rfl) (by kernel_rfl) (by kernel_rfl) (fun _ _ _ h => h) (Or.inl ⟨by rfl, ?_⟩) (HS.out _ hd) ?_
      rotate_left 1
      next => intro w hSw; rw [hSe] at hSw; obtain ⟨s1, s2, s3⟩ := hSw; go_simp; try with_reducible rfl
      try simp only [Act.put, List.getElem_toArray, List.getElem_cons_zero, List.getElem_cons_succ, List.setIfInBounds_toArray, List.set_cons_zero, List.set_cons_succ]
      refine wpAnyH_take (i := 4) (v := ?_) rfl (by kernel_rfl) (by kernel_rfl) (by kernel_rfl) (fun _ _ _ h => h) (Or.inl ⟨by rfl, ?_⟩) (HS.out _ hd) ?_
      rotate_left 1
      next => intro w hSw; rw [hSe] at hSw; obtain ⟨s1, s2, s3⟩ := hSw; go_simp; try with_reducible rfl
      try simp only [Act.put, List.getElem_toArray, List.getElem_cons_zero, List.getElem_cons_succ, List.setIfInBounds_toArray, List.set_cons_zero, List.set_cons_succ]
      refine wpAnyH_take (i := 5) (v := ?_) rfl (by kernel_rfl) (by kernel_rfl) (by kernel_rfl) (fun _ _ _ h => h) (Or.inl ⟨by rfl, ?_⟩) (HS.out _ hd) ?_
      rotate_left 1
      next => intro w hSw; rw [hSe] at hSw; obtain ⟨s1, s2, s3⟩ := hSw; go_simp; try with_reducible rfl
      try simp only [Act.put, List.getElem_toArray, List.getElem_cons_zero, List.getElem_cons_succ, List.setIfInBounds_toArray, List.set_cons_zero, List.set_cons_succ]
      refine wpAnyH_take (i := 6) (v := ?_) rfl (by kernel_rfl) (by kernel_rfl) (by kernel_rfl) (fun _ _ _ h => h) (Or.inl ⟨by rfl, ?_⟩) (HS.out _ hd) ?_
      rotate_left 1
      next => intro w hSw; rw [hSe] at hSw; obtain ⟨s1, s2, s3⟩ := hSw; go_simp; try with_reducible rfl
      try simp only [Act.put, List.getElem_toArray, List.getElem_cons_zero, List.getElem_cons_succ, List.setIfInBounds_toArray, List.set_cons_zero, List.set_cons_succ]
      refine wpAnyH_take (i := 7) (v := ?_) rfl (by kernel_rfl) (by kernel_rfl) (by kernel_rfl) (fun _ _ _ h => h) (Or.inl ⟨by rfl, ?_⟩) (HS.out _ hd) ?_
      rotate_left 1
      next => intro w hSw; rw [hSe] at hSw; obtain ⟨s1, s2, s3⟩ := hSw; go_simp; try with_reducible rfl
      try simp only [Act.put, List.getElem_toArray, List.getElem_cons_zero, List.getElem_cons_succ, List.setIfInBounds_toArray, List.set_cons_zero, List.set_cons_succ]
      refine wpAnyH_take (i := 9) (v := ?_) rfl (by kernel_rfl) (by kernel_rfl) (by kernel_rfl) (fun _ _ _ h => h) (Or.inl ⟨by rfl, ?_⟩) (HS.out _ hd) ?_
      rotate_left 1
      next => intro w hSw; rw [hSe] at hSw; obtain ⟨s1, s2, s3⟩ := hSw; go_simp; try with_reducible rfl
      try simp only [Act.put, List.getElem_toArray, List.getElem_cons_zero, List.getElem_cons_succ, List.setIfInBounds_toArray, List.set_cons_zero, List.set_cons_succ]
      refine wpAnyH_take (i := 10) (v := ?_) rfl (by kernel_rfl) (by kernel_rfl) (by kernel_rfl) (fun _ _ _ h => h) (Or.inl ⟨by rfl, ?_⟩) (HS.out _ hd) ?_
      rotate_left 1
      next => intro w hSw; rw [hSe] at hSw; obtain ⟨s1, s2, s3⟩ := hSw; go_simp; try with_reducible rfl
      try simp only [Act.put, List.getElem_toArray, List.getElem_cons_zero, List.getElem_cons_succ, List.setIfInBounds_toArray, List.set_cons_zero, List.set_cons_succ]
      refine wpAnyH_take (i := 11) (v := ?_) rfl (by kernel_rfl) (by kernel_rfl) (by kernel_rfl) (fun _ _ _ h => h) (Or.inl ⟨by rfl, ?_⟩) (HS.out _ hd) ?_
      rotate_left 1
      next => intro w hSw; rw [hSe] at hSw; obtain ⟨s1, s2, s3⟩ := hSw; go_simp; try with_reducible rfl
      try simp only [Act.put, List.getElem_toArray, List.getElem_cons_zero, List.getElem_cons_succ, List.setIfInBounds_toArray, List.set_cons_zero, List.set_cons_succ]
      refine wpAnyH_take (i := 12) (v := ?_) rfl (by kernel_rfl) (by kernel_rfl) (by kernel_rfl) (fun _ _ _ h => h) (Or.inl ⟨by rfl, ?_⟩) (HS.out _ hd) ?_
      rotate_left 1
      next => intro w hSw; rw [hSe] at hSw; obtain ⟨s1, s2, s3⟩ := hSw; go_simp; try with_reducible rfl
      try simp only [Act.put, List.getElem_toArray, List.getElem_cons_zero, List.getElem_cons_succ, List.setIfInBounds_toArray, List.set_cons_zero, List.set_cons_succ]
      refine wpAnyH_take (i := 13) (v := ?_) rfl (by kernel_rfl) (by kernel_rfl) (by kernel_rfl) (fun _ _ _ h => h) (Or.inl ⟨by rfl, ?_⟩) (HS.out _ hd) ?_
      rotate_left 1
      next => intro w hSw; rw [hSe] at hSw; obtain ⟨s1, s2, s3⟩ := hSw; go_simp; try with_reducible rfl
      try simp only [Act.put, List.getElem_toArray, List.getElem_cons_zero, List.getElem_cons_succ, List.setIfInBounds_toArray, List.set_cons_zero, List.set_cons_succ]
      try simp only [Act.put, List.getElem_toArray, List.getElem_cons_zero, List.getElem_cons_succ, List.setIfInBounds_toArray, List.set_cons_zero, List.set_cons_succ]
      refine wpAnyH_ready (rs := [8]) (by kernel_rfl) (by simp) ?_
      refine AllReadyH.cons rfl (fun K hK => ?_) AllReadyH.nil
      obtain ⟨hv1, _⟩ := HXX.out _ hd
      obtain ⟨z0, z1⟩ := hv1.2 s ea
      dsimp only at z0
      rw [HX.out] at z0
      go_simp
      refine hK.out _ _ (HS.out _ hd) (fun _ => ?_)
      clear hK K z0 z1 hv1
      try simp only [Act.put, List.getElem_toArray, List.getElem_cons_zero, List.getElem_cons_succ, List.setIfInBounds_toArray, List.set_cons_zero, List.set_cons_succ]
      refine wpAnyH_ready (rs := [14]) (by kernel_rfl) (by simp) ?_
      refine AllReadyH.cons rfl (fun K hK => ?_) AllReadyH.nil
      go_simp
      refine (HP.out _).mono ?_
      rintro e w1 ⟨rfl, hw⟩
      have hb1 : Below X.heap.size X w1 := by rw [← hw]; exact hd
      dsimp only
      refine hK.out _ _ (HS.out _ hb1) (fun _ => ?_)
      clear hK K hw
      refine wpAnyH_take (i := 15) (v := ?_) rfl (by kernel_rfl) (by kernel_rfl) (by kernel_rfl) (fun _ _ _ h => h) (Or.inl ⟨by rfl, ?_⟩) (HS.out _ hb1) ?_
      rotate_left 1
      next => intro w hSw; rw [hSe] at hSw; obtain ⟨s1, s2, s3⟩ := hSw; go_simp; try with_reducible rfl
      try simp only [Act.put, List.getElem_toArray, List.getElem_cons_zero, List.getElem_cons_succ, List.setIfInBounds_toArray, List.set_cons_zero, List.set_cons_succ]
      try simp only [Act.put, List.getElem_toArray, List.getElem_cons_zero, List.getElem_cons_succ, List.setIfInBounds_toArray, List.set_cons_zero, List.set_cons_succ]
      refine wpAnyH_ready (rs := [16]) (by kernel_rfl) (by simp) ?_
      refine AllReadyH.cons rfl (fun K hK => ?_) AllReadyH.nil
      obtain ⟨hv1, hv2⟩ := HXX.out _ hb1
      obtain ⟨z0, z1⟩ := hv1.2 s ea
      have hss := HS.out _ hb1
      have hs2 : SS (w1.setCell ⟨gr, s, none⟩ (.int .i64 z)) := by
        rw [hSe] at hss ⊢
        obtain ⟨s1, s2, s3⟩ := hss
        refine ⟨?_, ?_, ?_⟩ <;> (rw [World.cell?_setCell_other _ _ _ _ (by intro hh; simp only [Addr.mk.injEq] at hh; omega)]; assumption)
      have F1 := Lib.hid ((hv1.set (k := s) z).congr fun k _ => (HNX.out k).symm)
      have F2 := Lib.hid (hv2.setCell (p := ⟨gr, s, none⟩) (Nat.le_refl _) (.int .i64 z))
      go_simp
      refine hK.out _ _ hs2 (fun _ => ?_)
      clear hK K z0 z1 hss hs2 hv1 hv2
      refine wpAnyH_done (by kernel_rfl) ?_ _
      go_wp2_with fail
      go_roundw
      case rel => exact ⟨i + 1, by omega, by go_num, F1, F2⟩
      case measure => simp [intOf]; omega
    · have i3 : ¬ (i : Int) < (n : Int) := by omega
      have hie : i = n := by omega
      rw [hie] at Hz
      clear hie
      go_wp2
      go_ret
      exact ⟨gr, rfl, Hz.out, hsz, Hb0.out.trans (Hb.out.mono hsz)⟩
end Go.Proofs.YtlaoijfphkhchaaGreat
namespace Go.Proofs.YtlaoijfphkhchaaGreat
open Go.RowKit Go.Shelf
/-- A vector of the call's own. -/
def VOwn (w : World) (B : Nat) (p : Option Addr) (n : Nat) (f : Nat → Int) : Prop := n = 0 ∨ ∃ g, p = some ⟨g, 0, none⟩ ∧ B ≤ g ∧ VAt w g n f
theorem VOwn.row {w : World} {B : Nat} {p : Option Addr} {n : Nat} {f : Nat → Int} (h : VOwn w B p n f) : VRow w p n f := by
  rcases h with h | ⟨g, rfl, _, h⟩
  · exact .inl h
  · exact h.row
theorem VOwn.below {w w' : World} {B : Nat} {p : Option Addr} {n : Nat} {f : Nat → Int} (h : VOwn w B p n f) {C : Nat} (hC : w.heap.size ≤ C) (hb : Below C w w') : VOwn w' B p n f := by
  rcases h with h | ⟨g, rfl, hg, h⟩
  · exact .inl h
  · exact .inr ⟨g, rfl, hg, h.below hb (Nat.lt_of_lt_of_le h.1 hC)⟩
theorem VOwn.base {w : World} {B B' : Nat} {p : Option Addr} {n : Nat} {f : Nat → Int} (h : VOwn w B p n f) (hB : B' ≤ B) : VOwn w B' p n f := by
  rcases h with h | ⟨g, rfl, hg, h⟩
  · exact .inl h
  · exact .inr ⟨g, rfl, Nat.le_trans hB hg, h⟩
theorem VOwn.congr {w : World} {B : Nat} {p : Option Addr} {n : Nat} {f g : Nat → Int} (h : VOwn w B p n f) (e : ∀ k, k < n → f k = g k) : VOwn w B p n g := by
  rcases h with h | ⟨b, rfl, hg, h⟩
  · exact .inl h
  · exact .inr ⟨b, rfl, hg, h.congr e⟩
def RetVecO (n : Nat) (f : Nat → Int) (w : World) (e : Ending) (w' : World) : Prop := ∃ p cap, e = .returned (.slice p n cap) ∧ VOwn w' w.heap.size p n f ∧ Below w.heap.size w w'
theorem clone_any (n : Nat) (p : Option Addr) (c : Nat) (f : Nat → Int) (hn : n ≤ 1000000) (w : World) (hV : VRow w p n f) :
    Calls Tryz.prog 42 #[.slice p n c] w (RetVecO n f w) := by
  by_cases h0 : n = 0
  · subst h0
    cases p with
    | none =>
      refine (Tryz.slices_Clone_int_nil 0 c w).mono ?_
      rintro e w' ⟨rfl, rfl⟩
      exact ⟨none, 0, rfl, .inl rfl, Below.refl _ _⟩
    | some a =>
      refine (Tryz.slices_Clone_int_zero a c w).mono ?_
      rintro e w' ⟨v', rfl, ho, _, hb⟩
      rcases ho.2 with ⟨rfl, _⟩ | ⟨g, cap, cur, rfl, _⟩
      · exact ⟨none, 0, rfl, .inl rfl, hb⟩
      · exact ⟨_, cap, rfl, .inl rfl, hb⟩
  · obtain ⟨b, off, rfl, hlt, hc⟩ := VRow.cells hV (k := 0) (by omega)
    refine (Tryz.slices_Clone_int b off n c (vecL f n) w (by rw [vecL_len]; exact Nat.le_refl _) (by omega) (fun j hj => by rw [vecL_len] at hj; rw [vecL_get f n hj]; exact hc j hj)).mono ?_
    rintro e w' ⟨v', rfl, ho, _, hb⟩
    have hl : ((vecL f n).take n).map (Value.int .i64) = (vecL f n).map (Value.int .i64) := by rw [List.take_of_length_le (by rw [vecL_len]; exact Nat.le_refl _)]
    rw [hl] at ho
    rcases ho.2 with ⟨rfl, h⟩ | ⟨g, cap, cur, rfl, hg, hh, hnc, r⟩
    · omega
    · refine ⟨_, cap, rfl, .inr ⟨g, rfl, hg, ⟨(Array.getElem?_eq_some_iff.1 hh).1, fun k hk => ⟨?_, ?_⟩⟩⟩, hb⟩
      · have := ho.cells (g := g) rfl k (.int .i64 (f k)) (by simp [vecL, hk])
        rw [← this, Addr.add_lit]; simp
      · unfold World.frozen?; simp only [hh]; simp
/-- What check says of a graph, a vector and a number. -/
def vChk (L S : Int) (n : Nat) (E : Nat → Nat → Int) (m : Int) (nv : Nat) (v : Nat → Int) : Int :=
  if gChk L S n E ≠ 0 then 1 else if m < 1 ∨ 256 < m then 2 else if (nv : Int) ≠ S then 11 else if anyN (fun k => decide (v k < 0 ∨ 4096 < v k)) nv = true then 2 else 0
set_option maxRecDepth 100000 in
theorem evBad_any (x : Int) (w : World) : Calls Tryz.prog 49 #[.int .i64 x] w (RetB (decide (x < 0 ∨ 4096 < x)) w) := by
  by_cases h1 : x < 0
  · rw [show decide (x < 0 ∨ 4096 < x) = true from decide_eq_true (.inl h1)]
    go_enter Tryz.func49, Tryz.ntmps49
    go_wp2
    go_ret
    exact ⟨rfl, Below.refl _ _⟩
  · by_cases h2 : 4096 < x
    · rw [show decide (x < 0 ∨ 4096 < x) = true from decide_eq_true (.inr h2)]
      go_enter Tryz.func49, Tryz.ntmps49
      go_wp2
      go_ret
      exact ⟨rfl, Below.refl _ _⟩
    · rw [show decide (x < 0 ∨ 4096 < x) = false from decide_eq_false (by omega)]
      go_enter Tryz.func49, Tryz.ntmps49
      go_wp2
      go_ret
      exact ⟨rfl, Below.refl _ _⟩
set_option maxRecDepth 100000 in
theorem evNz_any (x : Int) (w : World) : Calls Tryz.prog 50 #[.int .i64 x] w (RetB (x != 0) w) := by
  go_enter Tryz.func50, Tryz.ntmps50
  go_wp2
  go_ret
  exact ⟨rfl, Below.refl _ _⟩
set_option maxRecDepth 100000 in
theorem evZero_any (n : Nat) (p : Option Addr) (c : Nat) (f : Nat → Int) (hn : n ≤ 1000000) (w : World) (hV : VRow w p n f) :
    Calls Tryz.prog 27 #[.slice p n c] w (RetB (!anyN (fun k => f k != 0) n) w) := by
  have HC := Lib.hid (containsFn_i n p c f 50 #[] (fun k => f k != 0) w (enters_of Tryz.func50 (by kernel_rfl) rfl) (by omega) hV (fun k W _ _ => evNz_any (f k) W))
  obtain ⟨b, hb⟩ : ∃ b, anyN (fun k => f k != 0) n = b := ⟨_, rfl⟩
  rw [hb] at HC ⊢
  clear hb hV
  go_enter Tryz.func27, Tryz.ntmps27
  go_wp2_with fail
  refine HC.out.mono ?_
  rintro e w2 ⟨rfl, hb⟩
  dsimp only
  have Hb := Lib.hid hb
  clear hb
  go_wp2
  go_ret
  exact ⟨rfl, Hb.out⟩
set_option maxRecDepth 100000 in
set_option maxHeartbeats 4000000 in
theorem evChk_any (L S : Int) (n : Nat) (E : Nat → Nat → Int) (p : Option Addr) (c : Nat) (m : Int) (nv : Nat) (v : Nat → Int) (pv : Option Addr) (cv : Nat) (hnv : nv ≤ 1000000000000) (w : World) (hE : EdgAt w p n E) (hV : VRow w pv nv v) :
    Calls Tryz.prog 23 #[.agg #[.int .i64 L, .int .i64 S, .slice p n c], .slice pv nv cv, .int .i64 m] w (RetInt (vChk L S n E m nv v) w) := by
  obtain ⟨W0, hW0⟩ : ∃ W, w.alloc (.cells #[.int .i64 L, .int .i64 S, .slice p n c] 24) = W := ⟨_, rfl⟩
  have hb0 : Below w.heap.size w W0 := by rw [← hW0]; exact (Below.refl _ _).alloc (Nat.le_refl _) _
  have hbx : BoxAt3 W0 w.heap.size (.int .i64 L) (.int .i64 S) (.slice p n c) := by rw [← hW0]; exact BoxAt3.new w _ _ _ _
  have HG := Lib.hid (gcheck_any L S n E p c W0 (hE.mono (Nat.le_refl _) hb0))
  have HB : Hid (∀ W, Below W0.heap.size W0 W → BoxAt3 W w.heap.size (.int .i64 L) (.int .i64 S) (.slice p n c) ∧ Below w.heap.size w W) := Lib.hid (fun W hW => ⟨hbx.below hW, hb0.trans (hW.mono hb0.size)⟩)
  have HC := Lib.hid (fun W (hW : Below W0.heap.size W0 W) => containsFn_i nv pv cv v 49 #[] (fun k => decide (v k < 0 ∨ 4096 < v k)) W (enters_of Tryz.func49 (by kernel_rfl) rfl) hnv ((hV.below (Nat.le_refl _) hb0).below (Nat.le_refl _) hW) (fun k W _ _ => evBad_any (v k) W))
  obtain ⟨_, c0, c1, c2⟩ := hbx
  obtain ⟨r, hr⟩ : ∃ r, vChk L S n E m nv v = r := ⟨_, rfl⟩
  rw [hr]
  have HR := Lib.hid hr
  unfold vChk at HR
  obtain ⟨b, hb⟩ : ∃ b, anyN (fun k => decide (v k < 0 ∨ 4096 < v k)) nv = b := ⟨_, rfl⟩
  rw [hb] at HC HR
  obtain ⟨gc, hgc⟩ : ∃ b, gChk L S n E = b := ⟨_, rfl⟩
  rw [hgc] at HG HR
  clear hb hgc hr hE hV hb0
  by_cases h1 : gc = 0
  rotate_left 1
  · have e1 : (gc != 0) = true := by rw [bne_iff_ne]; exact h1
    have hr : (1 : Int) = r := by rw [← HR.out, if_pos h1]
    clear HR h1
    have HR := Lib.hid hr
    clear hr
    go_enter Tryz.func23, Tryz.ntmps23
    go_wp2_with fail
    try rw [hW0]
    refine HG.out.mono ?_
    rintro e W1 ⟨rfl, hb⟩
    dsimp only
    obtain ⟨⟨_, z0, z1, z2⟩, hb1⟩ := HB.out _ hb
    have Hb1 := Lib.hid hb1
    clear hb1 HG HB c0 c1 c2 hW0
    clear hb
    go_wp2_with fail
    go_ret
    exact ⟨by rw [← HR.out]; rfl, Hb1.out⟩
  have e1 : (gc != 0) = false := by rw [h1]; rfl
  by_cases h2 : m < 1 ∨ 256 < m
  · have hr : (2 : Int) = r := by rw [← HR.out, if_neg (show ¬ (gc ≠ 0) from fun h => h h1), if_pos h2]
    clear HR h1
    have HR := Lib.hid hr
    clear hr
    rcases h2 with h2 | h2
    · (
      go_enter Tryz.func23, Tryz.ntmps23
      go_wp2_with fail
      try rw [hW0]
      refine HG.out.mono ?_
      rintro e W1 ⟨rfl, hb⟩
      dsimp only
      obtain ⟨⟨_, z0, z1, z2⟩, hb1⟩ := HB.out _ hb
      have Hb1 := Lib.hid hb1
      clear hb1 HG HB c0 c1 c2 hW0
      clear hb
      go_wp2_with fail
      all_goals (go_ret; exact ⟨by rw [← HR.out]; rfl, Hb1.out⟩))
    · have h3 : ¬ m < 1 := by omega
      go_enter Tryz.func23, Tryz.ntmps23
      go_wp2_with fail
      try rw [hW0]
      refine HG.out.mono ?_
      rintro e W1 ⟨rfl, hb⟩
      dsimp only
      obtain ⟨⟨_, z0, z1, z2⟩, hb1⟩ := HB.out _ hb
      have Hb1 := Lib.hid hb1
      clear hb1 HG HB c0 c1 c2 hW0
      clear hb
      go_wp2_with fail
      all_goals (go_ret; exact ⟨by rw [← HR.out]; rfl, Hb1.out⟩)
  have h3 : ¬ m < 1 := by omega
  have h4 : ¬ 256 < m := by omega
  by_cases h5 : (nv : Int) = S
  rotate_left 1
  · have e2 : ((nv : Int) != S) = true := by rw [bne_iff_ne]; exact h5
    have hr : (11 : Int) = r := by rw [← HR.out, if_neg (show ¬ (gc ≠ 0) from fun h => h h1), if_neg h2, if_pos h5]
    clear HR h1 h2 h5
    have HR := Lib.hid hr
    clear hr
    go_enter Tryz.func23, Tryz.ntmps23
    go_wp2_with fail
    try rw [hW0]
    refine HG.out.mono ?_
    rintro e W1 ⟨rfl, hb⟩
    dsimp only
    obtain ⟨⟨_, z0, z1, z2⟩, hb1⟩ := HB.out _ hb
    have Hb1 := Lib.hid hb1
    clear hb1 HG HB c0 c1 c2 hW0
    clear hb
    go_wp2_with fail
    go_ret
    exact ⟨by rw [← HR.out]; rfl, Hb1.out⟩
  have e2 : ((nv : Int) != S) = false := by rw [bne_eq_false_iff_eq]; exact h5
  have hr : (if b = true then (2 : Int) else 0) = r := by rw [← HR.out, if_neg (show ¬ (gc ≠ 0) from fun h => h h1), if_neg h2, if_neg (show ¬ ((nv : Int) ≠ S) from fun h => h h5)]
  clear HR h1 h2 h5
  have HR := Lib.hid hr
  clear hr
  go_enter Tryz.func23, Tryz.ntmps23
  go_wp2_with fail
  try rw [hW0]
  refine HG.out.mono ?_
  rintro e W1 ⟨rfl, hb⟩
  dsimp only
  obtain ⟨⟨_, z0, z1, z2⟩, hb1⟩ := HB.out _ hb
  have Hb1 := Lib.hid hb1
  clear hb1 HG HB c0 c1 c2 hW0
  go_wp2_with fail
  refine (HC.out _ hb).mono ?_
  rintro e W2 ⟨rfl, hb2⟩
  dsimp only
  have Hb2 := Lib.hid (Hb1.out.trans (hb2.mono Hb1.out.size))
  clear hb hb2 Hb1 HC z0 z1 z2
  cases b
  · go_wp2
    go_ret
    exact ⟨by rw [← HR.out]; rfl, Hb2.out⟩
  · go_wp2
    go_ret
    exact ⟨by rw [← HR.out]; rfl, Hb2.out⟩
end Go.Proofs.YtlaoijfphkhchaaGreat
