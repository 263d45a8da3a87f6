/- groovelaw23: sums, holds. -/
import Derived.Test.YtlaoijfphkhchaaB43
import Derived.Test.YtlaoijfphkhchaaB28
namespace Go.Proofs.Ytlaoijfphkhchaa
open Go.RowKit Go.Shelf
set_option maxRecDepth 100000 in
set_option maxHeartbeats 4000000 in
theorem lawSums_any (LL : Int) (N n : Nat) (E : Nat → Nat → Int) (p : Option Addr) (c : Nat) (v : Nat → Int) (pv : Option Addr) (cv : Nat) (hN : N ≤ 1000000) (hn : n ≤ 1000000) (hok : EdOk N n E) (hv : ∀ s, s < N → 0 ≤ v s ∧ v s ≤ 1000000) (w : World) (hE : EdgAt w p n E) (hV : VRow w pv N v) :
    Calls Try.prog 59 #[.agg #[.int .i64 LL, .int .i64 (N : Int), .slice p n c], .slice pv N cv] w (RetVecB N (smE (frE E) (toE E) v n) w) := by
  obtain ⟨W0, hW0⟩ : ∃ W, w.alloc (.cells #[.int .i64 LL, .int .i64 (N : Int), .slice p n c] 24) = W := ⟨_, rfl⟩
  have hb0 : Below w.heap.size w W0 := by rw [← hW0]; exact (Below.refl _ _).alloc (Nat.le_refl _) _
  have hbx : BoxAt3 W0 w.heap.size (.int .i64 LL) (.int .i64 (N : Int)) (.slice p n c) := by rw [← hW0]; exact BoxAt3.new w _ _ _ _
  have hE0 : EdgAt W0 p n E := hE.mono (Nat.le_refl _) hb0
  have hV0 : VRow W0 pv N v := hV.below (Nat.le_refl _) hb0
  have hmk := make_is N hN W0
  have Hz : Hid (VAt (W0.alloc (.cells (madeCells #[.int .i64 0] N) 3)) W0.heap.size N (smE (frE E) (toE E) v 0)) := Lib.hid ((made_ints W0 N 3).congr fun _ _ => rfl)
  have Hb : Hid (Below W0.heap.size W0 (W0.alloc (.cells (madeCells #[.int .i64 0] N) 3))) := Lib.hid ((Below.refl _ _).alloc (Nat.le_refl _) _)
  obtain ⟨_, c0, c1, c2⟩ := hbx
  have hsz : w.heap.size ≤ W0.heap.size := hb0.size
  have Hb0 := Lib.hid hb0
  have HE := Lib.hid hE0
  have HV := Lib.hid hV0
  have Hv := Lib.hid hv
  have Hok := Lib.hid (fun i hi => edOk_nat hok i hi)
  have Hsm : Hid (∀ i, i < n → ∀ s, 0 ≤ smE (frE E) (toE E) v i s ∧ smE (frE E) (toE E) v i s ≤ 1000000000000) := Lib.hid (fun i hi s => by
    have ht : ∀ e, e < i → toE E e < N := fun e he => (edOk_nat hok e (by omega)).2.2.2
    refine ⟨smE_nonneg ht (fun s hs => (hv s hs).1) s, ?_⟩
    have := smE_le (B := 1000000) (by omega) ht (fun s hs => (hv s hs).2) (fr := frE E) s
    omega)
  clear hE hV hE0 hV0 hb0 hok hv
  go_enter Try.func59, Try.ntmps59
  go_wp2_with fail
  clear hmk c0 c1 c2
  obtain ⟨gr, hgr⟩ : ∃ g, W0.heap.size = g := ⟨_, rfl⟩
  rw [hgr] at Hz hsz Hb ⊢
  generalize W0.alloc (.cells (madeCells #[.int .i64 0] N) 3) = V at *
  have Hgr := Lib.hid hgr
  clear hW0 hgr
  go_loopw [14] (fun tv wr => ∃ i : Nat, i ≤ n ∧ tv = .int .i64 (i : Nat) ∧ Hid (VAt wr gr N (smE (frE E) (toE E) v i)) ∧ Hid (Below gr W0 wr)) (fun tv _ => n - (intOf tv).toNat)
  case atStart => exact ⟨0, by omega, by go_num, Hz, Hb⟩
  case round =>
    clear Hz Hb
    obtain ⟨i, hi, rfl, Hz, Hb⟩ := hrel
    by_cases hil : i < n
    · have i3 : (i : Int) < (n : Int) := by omega
      have i4 : (0 : Int) ≤ (i : Int) := by omega
      obtain ⟨e0, e2, ea, eb⟩ := Hok.out i hil
      have hew : EdgAt wr p n E := HE.out.mono (by rw [Hgr.out]; exact Nat.le_refl _) Hb.out
      have hvw : VRow wr pv N v := HV.out.below (by rw [Hgr.out]; exact Nat.le_refl _) Hb.out
      rcases hew with h | ⟨ab, ao, rfl, hab, hac⟩
      · omega
      have x0 : wr.cell? ⟨ab, ao + i * 3, none⟩ = some (.int .i64 (E i 0)) := by simpa [edC] using hac i hil 0 (by omega)
      have x1 : wr.cell? ⟨ab, ao + i * 3 + 1, none⟩ = some (.int .i64 (E i 1)) := by simpa [edC] using hac i hil 1 (by omega)
      have x2 : wr.cell? ⟨ab, ao + i * 3 + 2, none⟩ = some (.int .i64 (E i 2)) := by simpa [edC] using hac i hil 2 (by omega)
      obtain ⟨vb, vo, rfl, hvb, hvc⟩ := VRow.cells hvw eb
      have y0 := hvc (toE E i) eb
      have hs0 := Hsm.out i hil (frE E i)
      have hv0 := Hv.out _ eb
      have hnx : ∀ s, smE (frE E) (toE E) v (i + 1) s = if s = frE E i then smE (frE E) (toE E) v i (frE E i) + v (toE E i) else smE (frE E) (toE E) v i s := fun s => by
        rw [smE_succ]
        by_cases h : s = frE E i
        · rw [if_pos h, if_pos h.symm, h]
        · rw [if_neg h, if_neg (Ne.symm h), Int.add_zero]
      have Hnx := Lib.hid hnx
      rw [e0] at x0
      rw [e2] at x2
      obtain ⟨s, hs⟩ : ∃ s, frE E i = s := ⟨_, rfl⟩
      obtain ⟨t, ht⟩ : ∃ s, toE E i = s := ⟨_, rfl⟩
      obtain ⟨y, hy⟩ : ∃ s, v t = s := ⟨_, rfl⟩
      obtain ⟨l1, hl1⟩ : ∃ s, E i 1 = s := ⟨_, rfl⟩
      rw [hs] at x0 ea hs0 Hnx
      rw [ht] at x2 eb y0 hv0 Hnx
      rw [hy] at y0 hv0 Hnx
      rw [hl1] at x1
      have hz : VAt wr gr N (smE (frE E) (toE E) v i) := Hz.out
      obtain ⟨z, hz1⟩ : ∃ z, smE (frE E) (toE E) v i s + y = z := ⟨_, rfl⟩
      obtain ⟨x, hx⟩ : ∃ z, smE (frE E) (toE E) v i s = z := ⟨_, rfl⟩
      rw [hx] at hz1 hs0
      have HNX : Hid (∀ k, smE (frE E) (toE E) v (i + 1) k = if k = s then z else smE (frE E) (toE E) v i k) := Lib.hid (fun k => by rw [Hnx.out k, hx, hz1])
      have wz : IntKind.i64.wrap (x + y) = z := by rw [hz1]; exact IntWalk.i64_in _ (by omega)
      have wz2 : wrap64 (x + y) = z := by rw [hz1]; exact IntWalk.wrap64_in _ (by omega)
      have HX := Lib.hid hx
      have s1 : (s : Int) < (N : Int) := by omega
      have s0 : (0 : Int) ≤ (s : Int) := by omega
      have t1 : (t : Int) < (N : Int) := by omega
      have t0 : (0 : Int) ≤ (t : Int) := by omega
      have hgw : gr < wr.heap.size := hz.1
      clear hac hvc hnx Hnx e0 e2 hs ht hy hl1 hz hz1 hx hs0 hv0
      go_upto_region 5 with (fail)
      clear x0 x1 x2
      have hal := (Below.refl wr.heap.size wr).alloc (Nat.le_refl _) (.cells #[.int .i64 (s : Int), .int .i64 l1, .int .i64 (t : Int)] 97)
      have hbx := BoxAt3.new wr (.int .i64 (s : Int)) (.int .i64 l1) (.int .i64 (t : Int)) 97
      have hz2 := VAt.below Hz.out hal hgw
      have hne1 : wr.heap.size ≠ gr := by omega
      have hne2 : vb ≠ gr := by
        rcases HV.out with h | ⟨vb', vo', he, hlt, _⟩
        · omega
        · cases he; rw [Hgr.out] at hlt; omega
      have hb2 := Hb.out.trans (hal.mono (Nat.le_of_lt hgw))
      have y2 := cell_below hal y0
      obtain ⟨gb, hgb⟩ : ∃ g, wr.heap.size = g := ⟨_, rfl⟩
      rw [hgb] at hbx hne1 ⊢
      clear hgb hal y0 hgw
      generalize wr.alloc (.cells #[.int .i64 (s : Int), .int .i64 l1, .int .i64 (t : Int)] 97) = X at *
      have HXX : Hid (∀ W, Below X.heap.size X W → VAt W gr N (smE (frE E) (toE E) v i) ∧ Below gr W0 W) := Lib.hid (fun W hW => ⟨hz2.below hW hz2.1, hb2.trans (hW.mono (Nat.le_of_lt hz2.1))⟩)
      obtain ⟨SS, hSe⟩ : ∃ SS : World → Prop, SS = fun W => W.cell? ⟨gb, 0, none⟩ = some (.int .i64 (s : Int)) ∧ W.cell? ⟨gb, 2, none⟩ = some (.int .i64 (t : Int)) ∧ W.cell? ⟨vb, vo + t, none⟩ = some (.int .i64 y) := ⟨_, rfl⟩
      have HS : Hid (∀ W, Below X.heap.size X W → SS W) := Lib.hid (fun W hW => by
        obtain ⟨_, b0, b1, b2⟩ := hbx
        rw [hSe]; exact ⟨cell_below hW b0, cell_below hW b2, cell_below hW y2⟩)
      have hd : Below X.heap.size X X.drew := (Below.refl _ _).drew
      clear Hz Hb hbx hz2 hb2 y2
      refine wp_region_held_drew (S := SS) (by kernel_rfl) (HS.out _ hd) (fun hSS => ?_)
      refine wpAnyH_take (i := 0) (v := ?_) rfl (by kernel_rfl) (by kernel_rfl) (by kernel_rfl) (fun _ _ _ h => h) (Or.inl ⟨by rfl, ?_⟩) (HS.out _ hd) ?_
      rotate_left 1
      next => intro w hSw; rw [hSe] at hSw; obtain ⟨s1, s2, s3⟩ := hSw; go_simp; try with_reducible rfl
      try simp only [Act.put, List.getElem_toArray, List.getElem_cons_zero, List.getElem_cons_succ, List.setIfInBounds_toArray, List.set_cons_zero, List.set_cons_succ]
      refine wpAnyH_take (i := 1) (v := ?_) rfl (by kernel_rfl) (by kernel_rfl) (by kernel_rfl) (fun _ _ _ h => h) (Or.inl ⟨by rfl, ?_⟩) (HS.out _ hd) ?_
      rotate_left 1
      next => intro w hSw; rw [hSe] at hSw; obtain ⟨s1, s2, s3⟩ := hSw; go_simp; try with_reducible rfl
      try simp only [Act.put, List.getElem_toArray, List.getElem_cons_zero, List.getElem_cons_succ, List.setIfInBounds_toArray, List.set_cons_zero, List.set_cons_succ]
      refine wpAnyH_take (i := 2) (v := ?_) rfl (by kernel_rfl) (by kernel_rfl) (by kernel_rfl) (fun _ _ _ h => h) (Or.inl ⟨by rfl, ?_⟩) (HS.out _ hd) ?_
      rotate_left 1
      next => intro w hSw; rw [hSe] at hSw; obtain ⟨s1, s2, s3⟩ := hSw; go_simp; try with_reducible rfl
      try simp only [Act.put, List.getElem_toArray, List.getElem_cons_zero, List.getElem_cons_succ, List.setIfInBounds_toArray, List.set_cons_zero, List.set_cons_succ]
      refine wpAnyH_take (i := 3) (v := ?_) rfl (by kernel_rfl) (by kernel_rfl) (by kernel_rfl) (fun _ _ _ h => h) (Or.inl ⟨by rfl, ?_⟩) (HS.out _ hd) ?_
      rotate_left 1
      next => intro w hSw; rw [hSe] at hSw; obtain ⟨s1, s2, s3⟩ := hSw; go_simp; try with_reducible rfl
      try simp only [Act.put, List.getElem_toArray, List.getElem_cons_zero, List.getElem_cons_succ, List.setIfInBounds_toArray, List.set_cons_zero, List.set_cons_succ]
      refine wpAnyH_take (i := 5) (v := ?_) rfl (by kernel_rfl) (by kernel_rfl) (by kernel_rfl) (fun _ _ _ h => h) (Or.inl ⟨by rfl, ?_⟩) (HS.out _ hd) ?_
      rotate_left 1
      next => intro w hSw; rw [hSe] at hSw; obtain ⟨s1, s2, s3⟩ := hSw; go_simp; try with_reducible rfl
      try simp only [Act.put, List.getElem_toArray, List.getElem_cons_zero, List.getElem_cons_succ, List.setIfInBounds_toArray, List.set_cons_zero, List.set_cons_succ]
      refine wpAnyH_take (i := 6) (v := ?_) rfl (by kernel_rfl) (by kernel_rfl) (by kernel_rfl) (fun _ _ _ h => h) (Or.inl ⟨by rfl, ?_⟩) (HS.out _ hd) ?_
      rotate_left 1
      next => intro w hSw; rw [hSe] at hSw; obtain ⟨s1, s2, s3⟩ := hSw; go_simp; try with_reducible rfl
      try simp only [Act.put, List.getElem_toArray, List.getElem_cons_zero, List.getElem_cons_succ, List.setIfInBounds_toArray, List.set_cons_zero, List.set_cons_succ]
      refine wpAnyH_take (i := 7) (v := ?_) rfl (by kernel_rfl) (by kernel_rfl) (by kernel_rfl) (fun _ _ _ h => h) (Or.inl ⟨by rfl, ?_⟩) (HS.out _ hd) ?_
      rotate_left 1
      next => intro w hSw; rw [hSe] at hSw; obtain ⟨s1, s2, s3⟩ := hSw; go_simp; try with_reducible rfl
      try simp only [Act.put, List.getElem_toArray, List.getElem_cons_zero, List.getElem_cons_succ, List.setIfInBounds_toArray, List.set_cons_zero, List.set_cons_succ]
      refine wpAnyH_take (i := 8) (v := ?_) rfl (by kernel_rfl) (by kernel_rfl) (by kernel_rfl) (fun _ _ _ h => h) (Or.inl ⟨by rfl, ?_⟩) (HS.out _ hd) ?_
      rotate_left 1
      next => intro w hSw; rw [hSe] at hSw; obtain ⟨s1, s2, s3⟩ := hSw; go_simp; try with_reducible rfl
      try simp only [Act.put, List.getElem_toArray, List.getElem_cons_zero, List.getElem_cons_succ, List.setIfInBounds_toArray, List.set_cons_zero, List.set_cons_succ]
      refine wpAnyH_take (i := 9) (v := ?_) rfl (by kernel_rfl) (by kernel_rfl) (by kernel_rfl) (fun _ _ _ h => h) (Or.inl ⟨by rfl, ?_⟩) (HS.out _ hd) ?_
      rotate_left 1
      next => intro w hSw; rw [hSe] at hSw; obtain ⟨s1, s2, s3⟩ := hSw; go_simp; try with_reducible rfl
      try simp only [Act.put, List.getElem_toArray, List.getElem_cons_zero, List.getElem_cons_succ, List.setIfInBounds_toArray, List.set_cons_zero, List.set_cons_succ]
      try simp only [Act.put, List.getElem_toArray, List.getElem_cons_zero, List.getElem_cons_succ, List.setIfInBounds_toArray, List.set_cons_zero, List.set_cons_succ]
      refine wpAnyH_ready (rs := [4]) (by kernel_rfl) (by simp) ?_
      refine AllReadyH.cons rfl (fun K hK => ?_) AllReadyH.nil
      obtain ⟨hv1, _⟩ := HXX.out _ hd
      obtain ⟨z0, z1⟩ := hv1.2 s ea
      dsimp only at z0
      rw [HX.out] at z0
      go_simp
      refine hK.out _ _ (HS.out _ hd) (fun _ => ?_)
      clear hK K z0 z1 hv1
      refine wpAnyH_take (i := 10) (v := ?_) rfl (by kernel_rfl) (by kernel_rfl) (by kernel_rfl) (fun _ _ _ h => h) (Or.inl ⟨by rfl, ?_⟩) (HS.out _ hd) ?_
      rotate_left 1
      next => intro w hSw; rw [hSe] at hSw; obtain ⟨s1, s2, s3⟩ := hSw; go_simp; try with_reducible rfl
      try simp only [Act.put, List.getElem_toArray, List.getElem_cons_zero, List.getElem_cons_succ, List.setIfInBounds_toArray, List.set_cons_zero, List.set_cons_succ]
      refine wpAnyH_take (i := 11) (v := ?_) rfl (by kernel_rfl) (by kernel_rfl) (by kernel_rfl) (fun _ _ _ h => h) (Or.inl ⟨by rfl, ?_⟩) (HS.out _ hd) ?_
      rotate_left 1
      next => intro w hSw; rw [hSe] at hSw; obtain ⟨s1, s2, s3⟩ := hSw; go_simp; try with_reducible rfl
      try simp only [Act.put, List.getElem_toArray, List.getElem_cons_zero, List.getElem_cons_succ, List.setIfInBounds_toArray, List.set_cons_zero, List.set_cons_succ]
      try simp only [Act.put, List.getElem_toArray, List.getElem_cons_zero, List.getElem_cons_succ, List.setIfInBounds_toArray, List.set_cons_zero, List.set_cons_succ]
      refine wpAnyH_ready (rs := [12]) (by kernel_rfl) (by simp) ?_
      refine AllReadyH.cons rfl (fun K hK => ?_) AllReadyH.nil
      obtain ⟨hv1, hv2⟩ := HXX.out _ hd
      obtain ⟨z0, z1⟩ := hv1.2 s ea
      have hss := HS.out _ hd
      have hs2 : SS (X.drew.setCell ⟨gr, s, none⟩ (.int .i64 z)) := by
        rw [hSe] at hss ⊢
        obtain ⟨s1, s2, s3⟩ := hss
        refine ⟨?_, ?_, ?_⟩ <;> (rw [World.cell?_setCell_other _ _ _ _ (by intro hh; simp only [Addr.mk.injEq] at hh; omega)]; assumption)
      have F1 := Lib.hid ((hv1.set (k := s) z).congr fun k _ => (HNX.out k).symm)
      have F2 := Lib.hid (hv2.setCell (p := ⟨gr, s, none⟩) (Nat.le_refl _) (.int .i64 z))
      go_simp
      refine hK.out _ _ hs2 (fun _ => ?_)
      clear hK K z0 z1 hss hs2 hv1 hv2
      refine wpAnyH_done (by kernel_rfl) ?_ _
      rw [World.setCell_drew] at F1 F2
      go_wp2_with fail
      go_roundw
      case rel => exact ⟨i + 1, by omega, by go_num, F1, F2⟩
      case measure => simp [intOf]; omega
    · have i3 : ¬ (i : Int) < (n : Int) := by omega
      have hie : i = n := by omega
      rw [hie] at Hz
      clear hie
      go_wp2
      go_ret
      exact ⟨gr, rfl, Hz.out, hsz, Hb0.out.trans (Hb.out.mono hsz)⟩
/-- What holds tells. -/
def hldB (fr te : Nat → Nat) (n N m : Nat) (v : Nat → Int) : Bool := !anyN (fun s => decide (smE fr te v n s < (m : Int) * v s)) N
theorem hldB_iff {fr te : Nat → Nat} {n N m : Nat} {v : Nat → Int} (h0 : ∀ s, s < N → 0 ≤ v s) : hldB fr te n N m v = true ↔ Hld fr te n N m v := by
  unfold hldB
  rw [Bool.not_eq_true', anyN_false]
  constructor
  · intro h s hs
    have := of_decide_eq_false (h s hs)
    exact ⟨h0 s hs, by omega⟩
  · intro h s hs
    have := (h s hs).2
    exact decide_eq_false (by omega)
set_option maxRecDepth 100000 in
set_option maxHeartbeats 4000000 in
theorem holds_any (LL : Int) (N n m : Nat) (E : Nat → Nat → Int) (p : Option Addr) (c : Nat) (v : Nat → Int) (pv : Option Addr) (cv : Nat) (hN : N ≤ 1000000) (hn : n ≤ 1000000) (hm : m ≤ 4096) (hok : EdOk N n E) (hv : ∀ s, s < N → 0 ≤ v s ∧ v s ≤ 1000000) (w : World) (hE : EdgAt w p n E) (hV : VRow w pv N v) :
    Calls Try.prog 23 #[.agg #[.int .i64 LL, .int .i64 (N : Int), .slice p n c], .slice pv N cv, .int .i64 (m : Int)] w (RetB (hldB (frE E) (toE E) n N m v) w) := by
  obtain ⟨W0, hW0⟩ : ∃ W, w.alloc (.cells #[.int .i64 LL, .int .i64 (N : Int), .slice p n c] 24) = W := ⟨_, rfl⟩
  have hb0 : Below w.heap.size w W0 := by rw [← hW0]; exact (Below.refl _ _).alloc (Nat.le_refl _) _
  have hbx : BoxAt3 W0 w.heap.size (.int .i64 LL) (.int .i64 (N : Int)) (.slice p n c) := by rw [← hW0]; exact BoxAt3.new w _ _ _ _
  have hE0 : EdgAt W0 p n E := hE.mono (Nat.le_refl _) hb0
  have hV0 : VRow W0 pv N v := hV.below (Nat.le_refl _) hb0
  have HSm := Lib.hid (lawSums_any LL N n E p c v pv cv hN hn hok hv W0 hE0 hV0)
  have nn : ((N : Int) != (N : Int)) = false := by simp
  have Hb0 := Lib.hid hb0
  have Hv := Lib.hid hv
  have HV := Lib.hid hV0
  obtain ⟨f, hf⟩ : ∃ f, smE (frE E) (toE E) v n = f := ⟨_, rfl⟩
  have Hf := Lib.hid hf
  unfold hldB
  rw [hf] at HSm
  rw [hf]
  obtain ⟨_, c0, c1, c2⟩ := hbx
  clear hE hV hE0 hV0 hb0 hok hv hf
  go_enter Try.func23, Try.ntmps23
  go_wp2_with fail
  try rw [hW0]
  refine HSm.out.mono ?_
  rintro e W1 ⟨gq, rfl, hq, hlo, hb1⟩
  dsimp only
  have HQ := Lib.hid hq
  have HV1 := Lib.hid (HV.out.below (Nat.le_refl _) hb1)
  have Hb1 := Lib.hid (Hb0.out.trans (hb1.mono Hb0.out.size))
  clear HSm hq hlo hb1 HV Hb0 c0 c1 c2 hW0
  go_wp2
  go_loopw [18] (fun i wr => ∃ k : Nat, k ≤ N ∧ i = .int .i64 k ∧ wr = W1 ∧ Hid (∀ j, j < k → (m : Int) * v j ≤ f j)) (fun i _ => N - (intOf i).toNat)
  case atStart => exact ⟨0, by omega, rfl, rfl, Lib.hid (fun j hj => by omega)⟩
  case round =>
    obtain ⟨k, hk, rfl, rfl, He⟩ := hrel
    by_cases hlt : k < N
    · obtain ⟨ab, ao, rfl, hab, hca⟩ := VRow.cells HV1.out hlt
      have hxa := hca k hlt
      obtain ⟨hxb, _⟩ := HQ.out.2 k hlt
      have i0 : (0 : Int) ≤ (k : Int) := by omega
      have i1 : (k : Int) < (N : Int) := by omega
      obtain ⟨v0, v1⟩ := Hv.out k hlt
      have HF := Lib.hid (fun (h : f k < (m : Int) * v k) => show anyN (fun k => decide (f k < (m : Int) * v k)) N = true from anyN_true.2 ⟨k, hlt, decide_eq_true h⟩)
      have HE := Lib.hid (fun (h : (m : Int) * v k ≤ f k) (j : Nat) (hj : j < k + 1) => show (m : Int) * v j ≤ f j from by
        by_cases e : j = k
        · rw [e]; exact h
        · exact He.out j (by omega))
      obtain ⟨x, hx⟩ : ∃ x, v k = x := ⟨_, rfl⟩
      obtain ⟨y, hy⟩ : ∃ x, f k = x := ⟨_, rfl⟩
      rw [hx, hy] at HE HF
      rw [hx] at hxa v0 v1
      dsimp only at hxb
      rw [hy] at hxb
      have hp0 : 0 ≤ (m : Int) * x := Int.mul_nonneg (by omega) v0
      have hp1 : (m : Int) * x ≤ 4096 * 1000000 := Int.mul_le_mul (by omega) v1 v0 (by omega)
      obtain ⟨z, hz⟩ : ∃ z, (m : Int) * x = z := ⟨_, rfl⟩
      have wm1 : wrap64 ((m : Int) * x) = z := by rw [hz]; exact IntWalk.wrap64_in _ (by omega)
      have wm2 : IntKind.i64.wrap ((m : Int) * x) = z := by rw [hz]; exact IntWalk.i64_in _ (by omega)
      rw [hz] at HE HF
      have x0 : ¬ x < 0 := by omega
      clear hca hx hy He hz hp0 hp1 v0 v1
      by_cases hc : y < z
      · have HF2 := Lib.hid (HF.out hc)
        clear HE HF
        go_wp2
        go_ret
        exact ⟨by rw [HF2.out]; rfl, Hb1.out⟩
      · have HE2 := Lib.hid (HE.out (by omega))
        clear HE HF
        go_wp2
        go_roundw
        case rel => exact ⟨k + 1, by omega, by go_num, by first | trivial | rfl, HE2⟩
        case measure => simp [intOf]; omega
    · have HF : Hid (anyN (fun k => decide (f k < (m : Int) * v k)) N = false) := Lib.hid (anyN_false.2 fun j hj => decide_eq_false (by have := He.out j (by omega); omega))
      go_wp2
      go_ret
      exact ⟨by rw [HF.out]; rfl, Hb1.out⟩
end Go.Proofs.Ytlaoijfphkhchaa
