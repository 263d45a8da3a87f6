/- eigenvector: plus, sums at int. -/
import Derived.Test.YtlaoijfphkhchaaB15
import Derived.Test.YtlaoijfphkhchaaB17
import Derived.Test.YtlaoijfphkhchaaB19
import Derived.Test.YtlaoijfphkhchaaB27
import Derived.Test.YtlaoijfphkhchaaB9
namespace Go.Proofs.Ytlaoijfphkhchaa
open Go.RowKit Go.Shelf
set_option maxRecDepth 100000 in
theorem plus_any (x y z : Int) (hz : x + y = z) (h1 : -9000000000000000000 ≤ z) (h2 : z ≤ 9000000000000000000) (w : World) : Calls Try.prog 64 #[.int .i64 x, .int .i64 y] w fun e w' => e = .returned (.int .i64 z) ∧ w = w' := by
  have hw : IntKind.i64.wrap (x + y) = z := by rw [hz]; exact IntWalk.i64_in _ (by omega)
  clear hz
  go_enter Try.func64, Try.ntmps64
  go_wp2
  go_ret
  exact ⟨rfl, rfl⟩
/-- What a function answers that makes a vector: a block of its own. -/
def RetVecB (n : Nat) (f : Nat → Int) (w : World) (e : Ending) (w' : World) : Prop := ∃ g, e = .returned (.slice (some ⟨g, 0, none⟩) n n) ∧ VAt w' g n f ∧ w.heap.size ≤ g ∧ Below w.heap.size w w'
set_option maxRecDepth 100000 in
set_option maxHeartbeats 4000000 in
theorem sums_any (LL : Int) (N n : Nat) (E : Nat → Nat → Int) (p : Option Addr) (c : Nat) (v : Nat → Int) (pv : Option Addr) (cv : Nat) (hN : N ≤ 1000000) (hn : n ≤ 1000000) (hok : EdOk N n E) (hv : ∀ s, s < N → 0 ≤ v s ∧ v s ≤ 1000000) (w : World) (hE : EdgAt w p n E) (hV : VRow w pv N v) :
    Calls Try.prog 63 #[.agg #[.int .i64 LL, .int .i64 (N : Int), .slice p n c], .slice pv N cv, .func (.func 64) #[] #[]] w (RetVecB N (smE (frE E) (toE E) v n) w) := by
  obtain ⟨W0, hW0⟩ : ∃ W, w.alloc (.cells #[.int .i64 LL, .int .i64 (N : Int), .slice p n c] 24) = W := ⟨_, rfl⟩
  have hb0 : Below w.heap.size w W0 := by rw [← hW0]; exact (Below.refl _ _).alloc (Nat.le_refl _) _
  have hbx : BoxAt3 W0 w.heap.size (.int .i64 LL) (.int .i64 (N : Int)) (.slice p n c) := by rw [← hW0]; exact BoxAt3.new w _ _ _ _
  have hE0 : EdgAt W0 p n E := hE.mono (Nat.le_refl _) hb0
  have hV0 : VRow W0 pv N v := hV.below (Nat.le_refl _) hb0
  have hmk := make_is N hN W0
  have Hz : Hid (VAt (W0.alloc (.cells (madeCells #[.int .i64 0] N) 3)) W0.heap.size N (smE (frE E) (toE E) v 0)) := Lib.hid ((made_ints W0 N 3).congr fun _ _ => rfl)
  have Hb : Hid (Below W0.heap.size W0 (W0.alloc (.cells (madeCells #[.int .i64 0] N) 3))) := Lib.hid ((Below.refl _ _).alloc (Nat.le_refl _) _)
  obtain ⟨_, c0, c1, c2⟩ := hbx
  have hsz : w.heap.size ≤ W0.heap.size := hb0.size
  have Hb0 := Lib.hid hb0
  have HE := Lib.hid hE0
  have HV := Lib.hid hV0
  have Hv := Lib.hid hv
  have Hok := Lib.hid (fun i hi => edOk_nat hok i hi)
  have Hsm : Hid (∀ i, i < n → ∀ s, 0 ≤ smE (frE E) (toE E) v i s ∧ smE (frE E) (toE E) v i s ≤ 1000000000000) := Lib.hid (fun i hi s => by
    have ht : ∀ e, e < i → toE E e < N := fun e he => (edOk_nat hok e (by omega)).2.2.2
    refine ⟨smE_nonneg ht (fun s hs => (hv s hs).1) s, ?_⟩
    have := smE_le (B := 1000000) (by omega) ht (fun s hs => (hv s hs).2) (fr := frE E) s
    omega)
  clear hE hV hE0 hV0 hb0 hok hv
  go_enter Try.func63, Try.ntmps63
  go_wp2_with fail
  clear hmk c0 c1 c2
  obtain ⟨gr, hgr⟩ : ∃ g, W0.heap.size = g := ⟨_, rfl⟩
  rw [hgr] at Hz hsz Hb ⊢
  generalize W0.alloc (.cells (madeCells #[.int .i64 0] N) 3) = V at *
  have Hgr := Lib.hid hgr
  clear hW0 hgr
  go_loopw [16] (fun tv wr => ∃ i : Nat, i ≤ n ∧ tv = .int .i64 (i : Nat) ∧ Hid (VAt wr gr N (smE (frE E) (toE E) v i)) ∧ Hid (Below gr W0 wr)) (fun tv _ => n - (intOf tv).toNat)
  case atStart => exact ⟨0, by omega, by go_num, Hz, Hb⟩
  case round =>
    clear Hz Hb
    obtain ⟨i, hi, rfl, Hz, Hb⟩ := hrel
    by_cases hil : i < n
    · have i3 : (i : Int) < (n : Int) := by omega
      have i4 : (0 : Int) ≤ (i : Int) := by omega
      obtain ⟨e0, e2, ea, eb⟩ := Hok.out i hil
      have hew : EdgAt wr p n E := HE.out.mono (by rw [Hgr.out]; exact Nat.le_refl _) Hb.out
      have hvw : VRow wr pv N v := HV.out.below (by rw [Hgr.out]; exact Nat.le_refl _) Hb.out
      rcases hew with h | ⟨ab, ao, rfl, hab, hac⟩
      · omega
      have x0 : wr.cell? ⟨ab, ao + i * 3, none⟩ = some (.int .i64 (E i 0)) := by simpa [edC] using hac i hil 0 (by omega)
      have x1 : wr.cell? ⟨ab, ao + i * 3 + 1, none⟩ = some (.int .i64 (E i 1)) := by simpa [edC] using hac i hil 1 (by omega)
      have x2 : wr.cell? ⟨ab, ao + i * 3 + 2, none⟩ = some (.int .i64 (E i 2)) := by simpa [edC] using hac i hil 2 (by omega)
      obtain ⟨vb, vo, rfl, hvb, hvc⟩ := VRow.cells hvw eb
      have y0 := hvc (toE E i) eb
      have hs0 := Hsm.out i hil (frE E i)
      have hv0 := Hv.out _ eb
      have hnx : ∀ s, smE (frE E) (toE E) v (i + 1) s = if s = frE E i then smE (frE E) (toE E) v i (frE E i) + v (toE E i) else smE (frE E) (toE E) v i s := fun s => by
        rw [smE_succ]
        by_cases h : s = frE E i
        · rw [if_pos h, if_pos h.symm, h]
        · rw [if_neg h, if_neg (Ne.symm h), Int.add_zero]
      have Hnx := Lib.hid hnx
      rw [e0] at x0
      rw [e2] at x2
      obtain ⟨s, hs⟩ : ∃ s, frE E i = s := ⟨_, rfl⟩
      obtain ⟨t, ht⟩ : ∃ s, toE E i = s := ⟨_, rfl⟩
      obtain ⟨y, hy⟩ : ∃ s, v t = s := ⟨_, rfl⟩
      obtain ⟨l1, hl1⟩ : ∃ s, E i 1 = s := ⟨_, rfl⟩
      rw [hs] at x0 ea hs0 Hnx
      rw [ht] at x2 eb y0 hv0 Hnx
      rw [hy] at y0 hv0 Hnx
      rw [hl1] at x1
      have hz : VAt wr gr N (smE (frE E) (toE E) v i) := Hz.out
      obtain ⟨z, hz1⟩ : ∃ z, smE (frE E) (toE E) v i s + y = z := ⟨_, rfl⟩
      obtain ⟨x, hx⟩ : ∃ z, smE (frE E) (toE E) v i s = z := ⟨_, rfl⟩
      rw [hx] at hz1 hs0
      have HNX : Hid (∀ k, smE (frE E) (toE E) v (i + 1) k = if k = s then z else smE (frE E) (toE E) v i k) := Lib.hid (fun k => by rw [Hnx.out k, hx, hz1])
      have HP := Lib.hid (fun W => plus_any x y z hz1 (by omega) (by omega) W)
      have HX := Lib.hid hx
      have s1 : (s : Int) < (N : Int) := by omega
      have s0 : (0 : Int) ≤ (s : Int) := by omega
      have t1 : (t : Int) < (N : Int) := by omega
      have t0 : (0 : Int) ≤ (t : Int) := by omega
      have hgw : gr < wr.heap.size := hz.1
      clear hac hvc hnx Hnx e0 e2 hs ht hy hl1 hz hz1 hx hs0 hv0
      go_upto_region 5 with (fail)
      clear x0 x1 x2
      have hal := (Below.refl wr.heap.size wr).alloc (Nat.le_refl _) (.cells #[.int .i64 (s : Int), .int .i64 l1, .int .i64 (t : Int)] 97)
      have hbx := BoxAt3.new wr (.int .i64 (s : Int)) (.int .i64 l1) (.int .i64 (t : Int)) 97
      have hz2 := VAt.below Hz.out hal hgw
      have hne1 : wr.heap.size ≠ gr := by omega
      have hne2 : vb ≠ gr := by
        rcases HV.out with h | ⟨vb', vo', he, hlt, _⟩
        · omega
        · cases he; rw [Hgr.out] at hlt; omega
      have hb2 := Hb.out.trans (hal.mono (Nat.le_of_lt hgw))
      have y2 := cell_below hal y0
      obtain ⟨gb, hgb⟩ : ∃ g, wr.heap.size = g := ⟨_, rfl⟩
      rw [hgb] at hbx hne1 ⊢
      clear hgb hal y0 hgw
      generalize wr.alloc (.cells #[.int .i64 (s : Int), .int .i64 l1, .int .i64 (t : Int)] 97) = X at *
      have HXX : Hid (∀ W, Below X.heap.size X W → VAt W gr N (smE (frE E) (toE E) v i) ∧ Below gr W0 W) := Lib.hid (fun W hW => ⟨hz2.below hW hz2.1, hb2.trans (hW.mono (Nat.le_of_lt hz2.1))⟩)
      obtain ⟨SS, hSe⟩ : ∃ SS : World → Prop, SS = fun W => W.cell? ⟨gb, 0, none⟩ = some (.int .i64 (s : Int)) ∧ W.cell? ⟨gb, 2, none⟩ = some (.int .i64 (t : Int)) ∧ W.cell? ⟨vb, vo + t, none⟩ = some (.int .i64 y) := ⟨_, rfl⟩
      have HS : Hid (∀ W, Below X.heap.size X W → SS W) := Lib.hid (fun W hW => by
        obtain ⟨_, b0, b1, b2⟩ := hbx
        rw [hSe]; exact ⟨cell_below hW b0, cell_below hW b2, cell_below hW y2⟩)
      have hd : Below X.heap.size X X.drew := (Below.refl _ _).drew
      clear Hz Hb hbx hz2 hb2 y2
      refine wp_region_held_drew (S := SS) (by kernel_rfl) (HS.out _ hd) (fun hSS => ?_)
      refine wpAnyH_take (i := 0) (v := ?_) rfl (by kernel_rfl) (by kernel_rfl) (by kernel_rfl) (fun _ _ _ h => h) (Or.inl ⟨by rfl, ?_⟩) (HS.out _ hd) ?_
      rotate_left 1
      next => intro w hSw; rw [hSe] at hSw; obtain ⟨s1, s2, s3⟩ := hSw; go_simp; try with_reducible rfl
      try simp only [Act.put, List.getElem_toArray, List.getElem_cons_zero, List.getElem_cons_succ, List.setIfInBounds_toArray, List.set_cons_zero, List.set_cons_succ]
      refine wpAnyH_take (i := 1) (v := ?_) rfl (by kernel_rfl) (by kernel_rfl) (by kernel_rfl) (fun _ _ _ h => h) (Or.inl ⟨by rfl, ?_⟩) (HS.out _ hd) ?_
      rotate_left 1
      next => intro w hSw; rw [hSe] at hSw; obtain ⟨s1, s2, s3⟩ := hSw; go_simp; try with_reducible rfl
      try simp only [Act.put, List.getElem_toArray, List.getElem_cons_zero, List.getElem_cons_succ, List.setIfInBounds_toArray, List.set_cons_zero, List.set_cons_succ]
      refine wpAnyH_take (i := 2) (v := ?_) rfl (by kernel_rfl) (by kernel_rfl) (by kernel_rfl) (fun _ _ _ h => h) (Or.inl ⟨by rfl, ?_⟩) (HS.out _ hd) ?_
      rotate_left 1
      next => intro w hSw; rw [hSe] at hSw; obtain ⟨s1, s2, s3⟩ := hSw; go_simp; try with_reducible rfl
      try simp only [Act.put, List.getElem_toArray, List.getElem_cons_zero, List.getElem_cons_succ, List.setIfInBounds_toArray, List.set_cons_zero, List.set_cons_succ]
      refine wpAnyH_take (i := 3) (v := ?_) rfl (by kernel_rfl) (by kernel_rfl) (by kernel_rfl) (fun _ _ _ h => h) (Or.inl ⟨by rfl, ?_⟩) (HS.out _ hd) ?_
      rotate_left 1
      next => intro w hSw; rw [hSe] at hSw; obtain ⟨s1, s2, s3⟩ := hSw; go_simp; try with_reducible rfl
      try simp only [Act.put, List.getElem_toArray, List.getElem_cons_zero, List.getElem_cons_succ, List.setIfInBounds_toArray, List.set_cons_zero, List.set_cons_succ]
      refine wpAnyH_take (i := 4) (v := ?_) rfl (by kernel_rfl) (by kernel_rfl) (by kernel_rfl) (fun _ _ _ h => h) (Or.inl ⟨by rfl, ?_⟩) (HS.out _ hd) ?_
      rotate_left 1
      next => intro w hSw; rw [hSe] at hSw; obtain ⟨s1, s2, s3⟩ := hSw; go_simp; try with_reducible rfl
      try simp only [Act.put, List.getElem_toArray, List.getElem_cons_zero, List.getElem_cons_succ, List.setIfInBounds_toArray, List.set_cons_zero, List.set_cons_succ]
      refine wpAnyH_take (i := 5) (v := ?_) rfl (by kernel_rfl) (by kernel_rfl) (by kernel_rfl) (fun _ _ _ h => h) (Or.inl ⟨by rfl, ?_⟩) (HS.out _ hd) ?_
      rotate_left 1
      next => intro w hSw; rw [hSe] at hSw; obtain ⟨s1, s2, s3⟩ := hSw; go_simp; try with_reducible rfl
      try simp only [Act.put, List.getElem_toArray, List.getElem_cons_zero, List.getElem_cons_succ, List.setIfInBounds_toArray, List.set_cons_zero, List.set_cons_succ]
      refine wpAnyH_take (i := 6) (v := ?_) rfl (by kernel_rfl) (by kernel_rfl) (by kernel_rfl) (fun _ _ _ h => h) (Or.inl ⟨by rfl, ?_⟩) (HS.out _ hd) ?_
      rotate_left 1
      next => intro w hSw; rw [hSe] at hSw; obtain ⟨s1, s2, s3⟩ := hSw; go_simp; try with_reducible rfl
      try simp only [Act.put, List.getElem_toArray, List.getElem_cons_zero, List.getElem_cons_succ, List.setIfInBounds_toArray, List.set_cons_zero, List.set_cons_succ]
      refine wpAnyH_take (i := 7) (v := ?_) rfl (by kernel_rfl) (by kernel_rfl) (by kernel_rfl) (fun _ _ _ h => h) (Or.inl ⟨by rfl, ?_⟩) (HS.out _ hd) ?_
      rotate_left 1
      next => intro w hSw; rw [hSe] at hSw; obtain ⟨s1, s2, s3⟩ := hSw; go_simp; try with_reducible rfl
      try simp only [Act.put, List.getElem_toArray, List.getElem_cons_zero, List.getElem_cons_succ, List.setIfInBounds_toArray, List.set_cons_zero, List.set_cons_succ]
      refine wpAnyH_take (i := 9) (v := ?_) rfl (by kernel_rfl) (by kernel_rfl) (by kernel_rfl) (fun _ _ _ h => h) (Or.inl ⟨by rfl, ?_⟩) (HS.out _ hd) ?_
      rotate_left 1
      next => intro w hSw; rw [hSe] at hSw; obtain ⟨s1, s2, s3⟩ := hSw; go_simp; try with_reducible rfl
      try simp only [Act.put, List.getElem_toArray, List.getElem_cons_zero, List.getElem_cons_succ, List.setIfInBounds_toArray, List.set_cons_zero, List.set_cons_succ]
      refine wpAnyH_take (i := 10) (v := ?_) rfl (by kernel_rfl) (by kernel_rfl) (by kernel_rfl) (fun _ _ _ h => h) (Or.inl ⟨by rfl, ?_⟩) (HS.out _ hd) ?_
      rotate_left 1
      next => intro w hSw; rw [hSe] at hSw; obtain ⟨s1, s2, s3⟩ := hSw; go_simp; try with_reducible rfl
      try simp only [Act.put, List.getElem_toArray, List.getElem_cons_zero, List.getElem_cons_succ, List.setIfInBounds_toArray, List.set_cons_zero, List.set_cons_succ]
      refine wpAnyH_take (i := 11) (v := ?_) rfl (by kernel_rfl) (by kernel_rfl) (by kernel_rfl) (fun _ _ _ h => h) (Or.inl ⟨by rfl, ?_⟩) (HS.out _ hd) ?_
      rotate_left 1
      next => intro w hSw; rw [hSe] at hSw; obtain ⟨s1, s2, s3⟩ := hSw; go_simp; try with_reducible rfl
      try simp only [Act.put, List.getElem_toArray, List.getElem_cons_zero, List.getElem_cons_succ, List.setIfInBounds_toArray, List.set_cons_zero, List.set_cons_succ]
      refine wpAnyH_take (i := 12) (v := ?_) rfl (by kernel_rfl) (by kernel_rfl) (by kernel_rfl) (fun _ _ _ h => h) (Or.inl ⟨by rfl, ?_⟩) (HS.out _ hd) ?_
      rotate_left 1
      next => intro w hSw; rw [hSe] at hSw; obtain ⟨s1, s2, s3⟩ := hSw; go_simp; try with_reducible rfl
      try simp only [Act.put, List.getElem_toArray, List.getElem_cons_zero, List.getElem_cons_succ, List.setIfInBounds_toArray, List.set_cons_zero, List.set_cons_succ]
      refine wpAnyH_take (i := 13) (v := ?_) rfl (by kernel_rfl) (by kernel_rfl) (by kernel_rfl) (fun _ _ _ h => h) (Or.inl ⟨by rfl, ?_⟩) (HS.out _ hd) ?_
      rotate_left 1
      next => intro w hSw; rw [hSe] at hSw; obtain ⟨s1, s2, s3⟩ := hSw; go_simp; try with_reducible rfl
      try simp only [Act.put, List.getElem_toArray, List.getElem_cons_zero, List.getElem_cons_succ, List.setIfInBounds_toArray, List.set_cons_zero, List.set_cons_succ]
      try simp only [Act.put, List.getElem_toArray, List.getElem_cons_zero, List.getElem_cons_succ, List.setIfInBounds_toArray, List.set_cons_zero, List.set_cons_succ]
      refine wpAnyH_ready (rs := [8]) (by kernel_rfl) (by simp) ?_
      refine AllReadyH.cons rfl (fun K hK => ?_) AllReadyH.nil
      obtain ⟨hv1, _⟩ := HXX.out _ hd
      obtain ⟨z0, z1⟩ := hv1.2 s ea
      dsimp only at z0
      rw [HX.out] at z0
      go_simp
      refine hK.out _ _ (HS.out _ hd) (fun _ => ?_)
      clear hK K z0 z1 hv1
      try simp only [Act.put, List.getElem_toArray, List.getElem_cons_zero, List.getElem_cons_succ, List.setIfInBounds_toArray, List.set_cons_zero, List.set_cons_succ]
      refine wpAnyH_ready (rs := [14]) (by kernel_rfl) (by simp) ?_
      refine AllReadyH.cons rfl (fun K hK => ?_) AllReadyH.nil
      go_simp
      refine (HP.out _).mono ?_
      rintro e w1 ⟨rfl, hw⟩
      have hb1 : Below X.heap.size X w1 := by rw [← hw]; exact hd
      dsimp only
      refine hK.out _ _ (HS.out _ hb1) (fun _ => ?_)
      clear hK K hw
      refine wpAnyH_take (i := 15) (v := ?_) rfl (by kernel_rfl) (by kernel_rfl) (by kernel_rfl) (fun _ _ _ h => h) (Or.inl ⟨by rfl, ?_⟩) (HS.out _ hb1) ?_
      rotate_left 1
      next => intro w hSw; rw [hSe] at hSw; obtain ⟨s1, s2, s3⟩ := hSw; go_simp; try with_reducible rfl
      try simp only [Act.put, List.getElem_toArray, List.getElem_cons_zero, List.getElem_cons_succ, List.setIfInBounds_toArray, List.set_cons_zero, List.set_cons_succ]
      try simp only [Act.put, List.getElem_toArray, List.getElem_cons_zero, List.getElem_cons_succ, List.setIfInBounds_toArray, List.set_cons_zero, List.set_cons_succ]
      refine wpAnyH_ready (rs := [16]) (by kernel_rfl) (by simp) ?_
      refine AllReadyH.cons rfl (fun K hK => ?_) AllReadyH.nil
      obtain ⟨hv1, hv2⟩ := HXX.out _ hb1
      obtain ⟨z0, z1⟩ := hv1.2 s ea
      have hss := HS.out _ hb1
      have hs2 : SS (w1.setCell ⟨gr, s, none⟩ (.int .i64 z)) := by
        rw [hSe] at hss ⊢
        obtain ⟨s1, s2, s3⟩ := hss
        refine ⟨?_, ?_, ?_⟩ <;> (rw [World.cell?_setCell_other _ _ _ _ (by intro hh; simp only [Addr.mk.injEq] at hh; omega)]; assumption)
      have F1 := Lib.hid ((hv1.set (k := s) z).congr fun k _ => (HNX.out k).symm)
      have F2 := Lib.hid (hv2.setCell (p := ⟨gr, s, none⟩) (Nat.le_refl _) (.int .i64 z))
      go_simp
      refine hK.out _ _ hs2 (fun _ => ?_)
      clear hK K z0 z1 hss hs2 hv1 hv2
      refine wpAnyH_done (by kernel_rfl) ?_ _
      go_wp2_with fail
      go_roundw
      case rel => exact ⟨i + 1, by omega, by go_num, F1, F2⟩
      case measure => simp [intOf]; omega
    · have i3 : ¬ (i : Int) < (n : Int) := by omega
      have hie : i = n := by omega
      rw [hie] at Hz
      clear hie
      go_wp2
      go_ret
      exact ⟨gr, rfl, Hz.out, hsz, Hb0.out.trans (Hb.out.mono hsz)⟩
end Go.Proofs.Ytlaoijfphkhchaa
