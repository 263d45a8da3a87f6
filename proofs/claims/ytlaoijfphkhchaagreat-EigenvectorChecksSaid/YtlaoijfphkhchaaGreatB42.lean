/- grooveref23.refuses. -/
import Derived.Test.YtlaoijfphkhchaaGreatB35
import Derived.Test.YtlaoijfphkhchaaGreatB40
import Derived.Test.YtlaoijfphkhchaaGreatB41
import Derived.Test.YtlaoijfphkhchaaGreatB28
namespace Go.Proofs.YtlaoijfphkhchaaGreat
open Go.RowKit Go.Shelf
set_option maxRecDepth 100000 in
set_option maxHeartbeats 16000000 in
theorem refuses_any (LL : Int) (N n m : Nat) (E : Nat → Nat → Int) (p : Option Addr) (c : Nat) (v : Nat → Int) (pv : Option Addr) (cv : Nat) (hN : N ≤ 1000000) (hn : n ≤ 1000000) (hm : m ≤ 256) (hok : EdOk N n E) {e : Nat} (he : e ≤ 100000) (hv : ∀ s, s < N → Bn (v s) e) (w : World) (hE : EdgAt w p n E) (hV : RowF w pv N v) :
    Calls Tryz.prog 39 #[.agg #[.int .i64 LL, .int .i64 (N : Int), .slice p n c], .int .i64 (m : Int), .slice pv N cv] w (RetB (rfsB (frE E) (toE E) n N m v) w) := by
  obtain ⟨W0, hW0⟩ : ∃ W, w.alloc (.cells #[.int .i64 LL, .int .i64 (N : Int), .slice p n c] 24) = W := ⟨_, rfl⟩
  have hb0 : Below w.heap.size w W0 := by rw [← hW0]; exact (Below.refl _ _).alloc (Nat.le_refl _) _
  have hbx : BoxAt3 W0 w.heap.size (.int .i64 LL) (.int .i64 (N : Int)) (.slice p n c) := by rw [← hW0]; exact BoxAt3.new w _ _ _ _
  have hE0 : EdgAt W0 p n E := hE.mono (Nat.le_refl _) hb0
  have hV0 : RowF W0 pv N v := hV.below (Nat.le_refl _) hb0
  have hmk := make_zs N hN W0
  have Hz : Hid (RowT (W0.alloc (.cells (madeCells #[.bool false, .string ⟨#[]⟩] (N * 2)) 40)) W0.heap.size N (smE (frE E) (toE E) v 0)) := Lib.hid (RowT.of_made.congr fun _ _ => rfl)
  have Hb : Hid (Below W0.heap.size W0 (W0.alloc (.cells (madeCells #[.bool false, .string ⟨#[]⟩] (N * 2)) 40))) := Lib.hid ((Below.refl _ _).alloc (Nat.le_refl _) _)
  have HBx := Lib.hid hbx
  have HBl := Lib.hid hbx.1
  obtain ⟨_, c0, c1, c2⟩ := hbx
  have hsz : w.heap.size ≤ W0.heap.size := hb0.size
  have Hb0 := Lib.hid hb0
  have HE := Lib.hid hE0
  have HV := Lib.hid hV0
  have Hv := Lib.hid hv
  have Hok := Lib.hid (fun i hi => edOk_nat hok i hi)
  have Hsm : Hid (∀ i, i ≤ n → ∀ s, Bn (smE (frE E) (toE E) v i s) (e + 20)) := Lib.hid (fun i hi s => by
    refine Bn.dot (e := e) (m := 20) i (by omega) fun j hj => ?_
    split
    · exact hv _ (edOk_nat hok j (by omega)).2.2.2
    · exact Bn.zero _)
  have HOf := Lib.hid (fun W => refOfAll_any m (by omega) W)
  have hmb : Bn (m : Int) 8 := by unfold Bn; omega
  have Hmb := Lib.hid hmb
  obtain ⟨r, hr⟩ : ∃ r, rfsB (frE E) (toE E) n N m v = r := ⟨_, rfl⟩
  rw [hr]
  have HF := Lib.hid (show (∃ s, s < N ∧ (v s ≤ 0 ∨ (m : Int) * v s ≤ smE (frE E) (toE E) v n s)) → false = r from fun ⟨s, hs, h⟩ => by
    rw [← hr]; unfold rfsB; rw [anyN_true.2 ⟨s, hs, decide_eq_true h⟩]; rfl)
  have HT := Lib.hid (show (∀ s, s < N → 0 < v s ∧ smE (frE E) (toE E) v n s < (m : Int) * v s) → true = r from fun h => by rw [← hr]; exact (rfsB_true.2 h).symm)
  clear hE hV hE0 hV0 hb0 hok hv hr hmb
  go_enter Tryz.func39, Tryz.ntmps39
  go_wp2_with fail
  clear hmk c0 c1 c2
  obtain ⟨gr, hgr⟩ : ∃ g, W0.heap.size = g := ⟨_, rfl⟩
  rw [hgr] at Hz hsz Hb HBl ⊢
  generalize W0.alloc (.cells (madeCells #[.bool false, .string ⟨#[]⟩] (N * 2)) 40) = V at *
  have Hgr := Lib.hid hgr
  clear hW0 hgr
  obtain ⟨g0, hg0⟩ : ∃ g, w.heap.size = g := ⟨_, rfl⟩
  rw [hg0] at HBx HBl
  try rw [hg0]
  have Hg0 := Lib.hid hg0
  clear hg0
  go_loopw [8] (fun tv wr => ∃ i : Nat, i ≤ n ∧ tv = .int .i64 (i : Nat) ∧ Hid (RowT wr gr N (smE (frE E) (toE E) v i)) ∧ Hid (Below gr W0 wr)) (fun tv _ => n - (intOf tv).toNat)
  case atStart => exact ⟨0, by omega, by go_num, Hz, Hb⟩
  case round =>
    clear Hz Hb
    obtain ⟨i, hi, rfl, Hz, Hb⟩ := hrel
    obtain ⟨_, k0, k1, k2⟩ := HBx.out.below (by rw [Hgr.out]; exact Hb.out)
    by_cases hil : i < n
    · have i3 : (i : Int) < (n : Int) := by omega
      have i4 : (0 : Int) ≤ (i : Int) := by omega
      obtain ⟨e0, e2, ea, eb⟩ := Hok.out i hil
      have hew : EdgAt wr p n E := HE.out.mono (by rw [Hgr.out]; exact Nat.le_refl _) Hb.out
      have hvw : RowF wr pv N v := HV.out.below (by rw [Hgr.out]; exact Nat.le_refl _) Hb.out
      have habn : ∀ ab ao, p = some ⟨ab, ao, none⟩ → ab ≠ gr := by
        intro ab ao hp
        rcases HE.out with h | ⟨ab', ao', he, hlt, _⟩
        · omega
        · rw [hp] at he; cases he; rw [Hgr.out] at hlt; omega
      have hvbn : ∀ ab ao, pv = some ⟨ab, ao, none⟩ → ab ≠ gr := by
        intro ab ao hp
        rcases HV.out with h | ⟨ab', ao', he, hlt, _⟩
        · omega
        · rw [hp] at he; cases he; rw [Hgr.out] at hlt; omega
      rcases hew with h | ⟨ab, ao, rfl, hab, hac⟩
      · omega
      have x0 : wr.cell? ⟨ab, ao + i * 3, none⟩ = some (.int .i64 (E i 0)) := by simpa [edC] using hac i hil 0 (by omega)
      have x2 : wr.cell? ⟨ab, ao + i * 3 + 2, none⟩ = some (.int .i64 (E i 2)) := by simpa [edC] using hac i hil 2 (by omega)
      obtain ⟨vb, vo, rfl, hvb, hvc⟩ := RowF.cells hvw eb
      obtain ⟨y0, y1⟩ := hvc (toE E i) eb
      have Hn1 := Lib.hid (show g0 ≠ gr ∧ ab ≠ gr ∧ vb ≠ gr from ⟨by have := HBl.out; omega, habn _ _ rfl, hvbn _ _ rfl⟩)
      have hs0 := Hsm.out i (by omega) (frE E i)
      have hv0 := Hv.out _ eb
      have hnx : ∀ s, smE (frE E) (toE E) v (i + 1) s = if s = frE E i then smE (frE E) (toE E) v i (frE E i) + v (toE E i) else smE (frE E) (toE E) v i s := fun s => by
        rw [smE_succ]
        by_cases h : s = frE E i
        · rw [if_pos h, if_pos h.symm, h]
        · rw [if_neg h, if_neg (Ne.symm h), Int.add_zero]
      have Hnx := Lib.hid hnx
      rw [e0] at x0
      rw [e2] at x2
      obtain ⟨s, hs⟩ : ∃ s, frE E i = s := ⟨_, rfl⟩
      obtain ⟨t, ht⟩ : ∃ s, toE E i = s := ⟨_, rfl⟩
      obtain ⟨y, hy⟩ : ∃ s, v t = s := ⟨_, rfl⟩
      rw [hs] at x0 ea hs0 Hnx
      rw [ht] at x2 eb y0 y1 hv0 Hnx
      rw [hy] at y0 y1 hv0 Hnx
      obtain ⟨z, hz1⟩ : ∃ z, smE (frE E) (toE E) v i s + y = z := ⟨_, rfl⟩
      obtain ⟨x, hx⟩ : ∃ z, smE (frE E) (toE E) v i s = z := ⟨_, rfl⟩
      rw [hx] at hz1 hs0
      have HNX : Hid (∀ k, smE (frE E) (toE E) v (i + 1) k = if k = s then z else smE (frE E) (toE E) v i k) := Lib.hid (fun k => by rw [Hnx.out k, hx, hz1])
      have HP := Lib.hid (fun W => refAddC_any x y (by have := hs0.size 90000000 (by omega); omega) (by have := hv0.size 90000000 (by omega); omega) W)
      rw [hz1] at HP
      obtain ⟨XX, hXX⟩ : ∃ Z, canon x = Z := ⟨_, rfl⟩
      obtain ⟨YY, hYY⟩ : ∃ Z, canon y = Z := ⟨_, rfl⟩
      obtain ⟨ZZ, hZZ⟩ : ∃ Z, canon z = Z := ⟨_, rfl⟩
      rw [hXX, hYY, hZZ] at HP
      rw [hYY] at y0 y1
      have HXX1 := Lib.hid hXX
      have HZ1 := Lib.hid hZZ
      have HX := Lib.hid hx
      have s1 : (s : Int) < (N : Int) := by omega
      have s0 : (0 : Int) ≤ (s : Int) := by omega
      have t1 : (t : Int) < (N : Int) := by omega
      have t0 : (0 : Int) ≤ (t : Int) := by omega
      have Hgw := Lib.hid Hz.out.z.1
      clear hac hvc hnx Hnx e0 e2 hs ht hy hz1 hx hs0 hv0 habn hvbn hab hvb hXX hYY hZZ
      go_upto_region 5 with (fail)
      obtain ⟨SS, hSe⟩ : ∃ SS : World → Prop, SS = fun W => W.cell? ⟨g0, 2, none⟩ = some (.slice (some ⟨ab, ao, none⟩) n c) ∧ W.cell? ⟨ab, ao + i * 3, none⟩ = some (.int .i64 (s : Int)) ∧ W.cell? ⟨ab, ao + i * 3 + 2, none⟩ = some (.int .i64 (t : Int)) ∧ W.cell? ⟨vb, vo + t * 2, none⟩ = some (.bool YY.neg) ∧ W.cell? ⟨vb, vo + t * 2 + 1, none⟩ = some (.string YY.mag) := ⟨_, rfl⟩
      have HS : Hid (∀ W, Below wr.heap.size wr W → SS W) := Lib.hid (fun W hW => by
        rw [hSe]; exact ⟨cell_below hW k2, cell_below hW x0, cell_below hW x2, cell_below hW y0, cell_below hW y1⟩)
      have HXX : Hid (∀ W, Below wr.heap.size wr W → RowT W gr N (smE (frE E) (toE E) v i) ∧ Below gr W0 W) := Lib.hid (fun W hW => ⟨Hz.out.kept (hW.block _ Hgw.out), Hb.out.trans (hW.mono (Nat.le_of_lt Hgw.out))⟩)
      have hd : Below wr.heap.size wr wr.drew := (Below.refl _ _).drew
      clear x0 x2 y0 y1 k0 k1 k2 Hz Hb Hgw
      refine wp_region_held_drew (S := SS) (by kernel_rfl) (HS.out _ hd) (fun hSS => ?_)
      refine wpAnyH_take (i := 0) (v := ?_) rfl (by kernel_rfl) (by kernel_rfl) (by kernel_rfl) (fun _ _ _ h => h) (Or.inl ⟨by rfl, ?_⟩) (HS.out _ hd) ?_
      rotate_left 1
      next => intro w hSw; rw [hSe] at hSw; obtain ⟨s1, s2, s3, s4, s5⟩ := hSw; go_simp; try with_reducible rfl
      try simp only [Act.put, List.getElem_toArray, List.getElem_cons_zero, List.getElem_cons_succ, List.setIfInBounds_toArray, List.set_cons_zero, List.set_cons_succ]
      refine wpAnyH_take (i := 1) (v := ?_) rfl (by kernel_rfl) (by kernel_rfl) (by kernel_rfl) (fun _ _ _ h => h) (Or.inl ⟨by rfl, ?_⟩) (HS.out _ hd) ?_
      rotate_left 1
      next => intro w hSw; rw [hSe] at hSw; obtain ⟨s1, s2, s3, s4, s5⟩ := hSw; go_simp; try with_reducible rfl
      try simp only [Act.put, List.getElem_toArray, List.getElem_cons_zero, List.getElem_cons_succ, List.setIfInBounds_toArray, List.set_cons_zero, List.set_cons_succ]
      refine wpAnyH_take (i := 2) (v := ?_) rfl (by kernel_rfl) (by kernel_rfl) (by kernel_rfl) (fun _ _ _ h => h) (Or.inl ⟨by rfl, ?_⟩) (HS.out _ hd) ?_
      rotate_left 1
      next => intro w hSw; rw [hSe] at hSw; obtain ⟨s1, s2, s3, s4, s5⟩ := hSw; go_simp; try with_reducible rfl
      try simp only [Act.put, List.getElem_toArray, List.getElem_cons_zero, List.getElem_cons_succ, List.setIfInBounds_toArray, List.set_cons_zero, List.set_cons_succ]
      refine wpAnyH_take (i := 3) (v := ?_) rfl (by kernel_rfl) (by kernel_rfl) (by kernel_rfl) (fun _ _ _ h => h) (Or.inl ⟨by rfl, ?_⟩) (HS.out _ hd) ?_
      rotate_left 1
      next => intro w hSw; rw [hSe] at hSw; obtain ⟨s1, s2, s3, s4, s5⟩ := hSw; go_simp; try with_reducible rfl
      try simp only [Act.put, List.getElem_toArray, List.getElem_cons_zero, List.getElem_cons_succ, List.setIfInBounds_toArray, List.set_cons_zero, List.set_cons_succ]
      refine wpAnyH_take (i := 4) (v := ?_) rfl (by kernel_rfl) (by kernel_rfl) (by kernel_rfl) (fun _ _ _ h => h) (Or.inl ⟨by rfl, ?_⟩) (HS.out _ hd) ?_
      rotate_left 1
      next => intro w hSw; rw [hSe] at hSw; obtain ⟨s1, s2, s3, s4, s5⟩ := hSw; go_simp; try with_reducible rfl
      try simp only [Act.put, List.getElem_toArray, List.getElem_cons_zero, List.getElem_cons_succ, List.setIfInBounds_toArray, List.set_cons_zero, List.set_cons_succ]
      refine wpAnyH_take (i := 5) (v := ?_) rfl (by kernel_rfl) (by kernel_rfl) (by kernel_rfl) (fun _ _ _ h => h) (Or.inl ⟨by rfl, ?_⟩) (HS.out _ hd) ?_
      rotate_left 1
      next => intro w hSw; rw [hSe] at hSw; obtain ⟨s1, s2, s3, s4, s5⟩ := hSw; go_simp; try with_reducible rfl
      try simp only [Act.put, List.getElem_toArray, List.getElem_cons_zero, List.getElem_cons_succ, List.setIfInBounds_toArray, List.set_cons_zero, List.set_cons_succ]
      refine wpAnyH_take (i := 6) (v := ?_) rfl (by kernel_rfl) (by kernel_rfl) (by kernel_rfl) (fun _ _ _ h => h) (Or.inl ⟨by rfl, ?_⟩) (HS.out _ hd) ?_
      rotate_left 1
      next => intro w hSw; rw [hSe] at hSw; obtain ⟨s1, s2, s3, s4, s5⟩ := hSw; go_simp; try with_reducible rfl
      try simp only [Act.put, List.getElem_toArray, List.getElem_cons_zero, List.getElem_cons_succ, List.setIfInBounds_toArray, List.set_cons_zero, List.set_cons_succ]
      refine wpAnyH_take (i := 7) (v := ?_) rfl (by kernel_rfl) (by kernel_rfl) (by kernel_rfl) (fun _ _ _ h => h) (Or.inl ⟨by rfl, ?_⟩) (HS.out _ hd) ?_
      rotate_left 1
      next => intro w hSw; rw [hSe] at hSw; obtain ⟨s1, s2, s3, s4, s5⟩ := hSw; go_simp; try with_reducible rfl
      try simp only [Act.put, List.getElem_toArray, List.getElem_cons_zero, List.getElem_cons_succ, List.setIfInBounds_toArray, List.set_cons_zero, List.set_cons_succ]
      refine wpAnyH_take (i := 8) (v := ?_) rfl (by kernel_rfl) (by kernel_rfl) (by kernel_rfl) (fun _ _ _ h => h) (Or.inl ⟨by rfl, ?_⟩) (HS.out _ hd) ?_
      rotate_left 1
      next => intro w hSw; rw [hSe] at hSw; obtain ⟨s1, s2, s3, s4, s5⟩ := hSw; go_simp; try with_reducible rfl
      try simp only [Act.put, List.getElem_toArray, List.getElem_cons_zero, List.getElem_cons_succ, List.setIfInBounds_toArray, List.set_cons_zero, List.set_cons_succ]
      refine wpAnyH_take (i := 9) (v := ?_) rfl (by kernel_rfl) (by kernel_rfl) (by kernel_rfl) (fun _ _ _ h => h) (Or.inl ⟨by rfl, ?_⟩) (HS.out _ hd) ?_
      rotate_left 1
      next => intro w hSw; rw [hSe] at hSw; obtain ⟨s1, s2, s3, s4, s5⟩ := hSw; go_simp; try with_reducible rfl
      try simp only [Act.put, List.getElem_toArray, List.getElem_cons_zero, List.getElem_cons_succ, List.setIfInBounds_toArray, List.set_cons_zero, List.set_cons_succ]
      refine wpAnyH_take (i := 10) (v := ?_) rfl (by kernel_rfl) (by kernel_rfl) (by kernel_rfl) (fun _ _ _ h => h) (Or.inl ⟨by rfl, ?_⟩) (HS.out _ hd) ?_
      rotate_left 1
      next => intro w hSw; rw [hSe] at hSw; obtain ⟨s1, s2, s3, s4, s5⟩ := hSw; go_simp; try with_reducible rfl
      try simp only [Act.put, List.getElem_toArray, List.getElem_cons_zero, List.getElem_cons_succ, List.setIfInBounds_toArray, List.set_cons_zero, List.set_cons_succ]
      refine wpAnyH_take (i := 11) (v := ?_) rfl (by kernel_rfl) (by kernel_rfl) (by kernel_rfl) (fun _ _ _ h => h) (Or.inl ⟨by rfl, ?_⟩) (HS.out _ hd) ?_
      rotate_left 1
      next => intro w hSw; rw [hSe] at hSw; obtain ⟨s1, s2, s3, s4, s5⟩ := hSw; go_simp; try with_reducible rfl
      try simp only [Act.put, List.getElem_toArray, List.getElem_cons_zero, List.getElem_cons_succ, List.setIfInBounds_toArray, List.set_cons_zero, List.set_cons_succ]
      refine wpAnyH_take (i := 12) (v := ?_) rfl (by kernel_rfl) (by kernel_rfl) (by kernel_rfl) (fun _ _ _ h => h) (Or.inl ⟨by rfl, ?_⟩) (HS.out _ hd) ?_
      rotate_left 1
      next => intro w hSw; rw [hSe] at hSw; obtain ⟨s1, s2, s3, s4, s5⟩ := hSw; go_simp; try with_reducible rfl
      try simp only [Act.put, List.getElem_toArray, List.getElem_cons_zero, List.getElem_cons_succ, List.setIfInBounds_toArray, List.set_cons_zero, List.set_cons_succ]
      refine wpAnyH_take (i := 13) (v := ?_) rfl (by kernel_rfl) (by kernel_rfl) (by kernel_rfl) (fun _ _ _ h => h) (Or.inl ⟨by rfl, ?_⟩) (HS.out _ hd) ?_
      rotate_left 1
      next => intro w hSw; rw [hSe] at hSw; obtain ⟨s1, s2, s3, s4, s5⟩ := hSw; go_simp; try with_reducible rfl
      try simp only [Act.put, List.getElem_toArray, List.getElem_cons_zero, List.getElem_cons_succ, List.setIfInBounds_toArray, List.set_cons_zero, List.set_cons_succ]
      refine wpAnyH_take (i := 14) (v := ?_) rfl (by kernel_rfl) (by kernel_rfl) (by kernel_rfl) (fun _ _ _ h => h) (Or.inl ⟨by rfl, ?_⟩) (HS.out _ hd) ?_
      rotate_left 1
      next => intro w hSw; rw [hSe] at hSw; obtain ⟨s1, s2, s3, s4, s5⟩ := hSw; go_simp; try with_reducible rfl
      try simp only [Act.put, List.getElem_toArray, List.getElem_cons_zero, List.getElem_cons_succ, List.setIfInBounds_toArray, List.set_cons_zero, List.set_cons_succ]
      refine wpAnyH_take (i := 16) (v := ?_) rfl (by kernel_rfl) (by kernel_rfl) (by kernel_rfl) (fun _ _ _ h => h) (Or.inl ⟨by rfl, ?_⟩) (HS.out _ hd) ?_
      rotate_left 1
      next => intro w hSw; rw [hSe] at hSw; obtain ⟨s1, s2, s3, s4, s5⟩ := hSw; go_simp; try with_reducible rfl
      try simp only [Act.put, List.getElem_toArray, List.getElem_cons_zero, List.getElem_cons_succ, List.setIfInBounds_toArray, List.set_cons_zero, List.set_cons_succ]
      refine wpAnyH_take (i := 17) (v := ?_) rfl (by kernel_rfl) (by kernel_rfl) (by kernel_rfl) (fun _ _ _ h => h) (Or.inl ⟨by rfl, ?_⟩) (HS.out _ hd) ?_
      rotate_left 1
      next => intro w hSw; rw [hSe] at hSw; obtain ⟨s1, s2, s3, s4, s5⟩ := hSw; go_simp; try with_reducible rfl
      try simp only [Act.put, List.getElem_toArray, List.getElem_cons_zero, List.getElem_cons_succ, List.setIfInBounds_toArray, List.set_cons_zero, List.set_cons_succ]
      refine wpAnyH_take (i := 18) (v := ?_) rfl (by kernel_rfl) (by kernel_rfl) (by kernel_rfl) (fun _ _ _ h => h) (Or.inl ⟨by rfl, ?_⟩) (HS.out _ hd) ?_
      rotate_left 1
      next => intro w hSw; rw [hSe] at hSw; obtain ⟨s1, s2, s3, s4, s5⟩ := hSw; go_simp; try with_reducible rfl
      try simp only [Act.put, List.getElem_toArray, List.getElem_cons_zero, List.getElem_cons_succ, List.setIfInBounds_toArray, List.set_cons_zero, List.set_cons_succ]
      refine wpAnyH_take (i := 19) (v := ?_) rfl (by kernel_rfl) (by kernel_rfl) (by kernel_rfl) (fun _ _ _ h => h) (Or.inl ⟨by rfl, ?_⟩) (HS.out _ hd) ?_
      rotate_left 1
      next => intro w hSw; rw [hSe] at hSw; obtain ⟨s1, s2, s3, s4, s5⟩ := hSw; go_simp; try with_reducible rfl
      try simp only [Act.put, List.getElem_toArray, List.getElem_cons_zero, List.getElem_cons_succ, List.setIfInBounds_toArray, List.set_cons_zero, List.set_cons_succ]
      refine wpAnyH_take (i := 20) (v := ?_) rfl (by kernel_rfl) (by kernel_rfl) (by kernel_rfl) (fun _ _ _ h => h) (Or.inl ⟨by rfl, ?_⟩) (HS.out _ hd) ?_
      rotate_left 1
      next => intro w hSw; rw [hSe] at hSw; obtain ⟨s1, s2, s3, s4, s5⟩ := hSw; go_simp; try with_reducible rfl
      try simp only [Act.put, List.getElem_toArray, List.getElem_cons_zero, List.getElem_cons_succ, List.setIfInBounds_toArray, List.set_cons_zero, List.set_cons_succ]
      refine wpAnyH_take (i := 21) (v := ?_) rfl (by kernel_rfl) (by kernel_rfl) (by kernel_rfl) (fun _ _ _ h => h) (Or.inl ⟨by rfl, ?_⟩) (HS.out _ hd) ?_
      rotate_left 1
      next => intro w hSw; rw [hSe] at hSw; obtain ⟨s1, s2, s3, s4, s5⟩ := hSw; go_simp; try with_reducible rfl
      try simp only [Act.put, List.getElem_toArray, List.getElem_cons_zero, List.getElem_cons_succ, List.setIfInBounds_toArray, List.set_cons_zero, List.set_cons_succ]
      refine wpAnyH_take (i := 22) (v := ?_) rfl (by kernel_rfl) (by kernel_rfl) (by kernel_rfl) (fun _ _ _ h => h) (Or.inl ⟨by rfl, ?_⟩) (HS.out _ hd) ?_
      rotate_left 1
      next => intro w hSw; rw [hSe] at hSw; obtain ⟨s1, s2, s3, s4, s5⟩ := hSw; go_simp; try with_reducible rfl
      try simp only [Act.put, List.getElem_toArray, List.getElem_cons_zero, List.getElem_cons_succ, List.setIfInBounds_toArray, List.set_cons_zero, List.set_cons_succ]
      refine wpAnyH_take (i := 23) (v := ?_) rfl (by kernel_rfl) (by kernel_rfl) (by kernel_rfl) (fun _ _ _ h => h) (Or.inl ⟨by rfl, ?_⟩) (HS.out _ hd) ?_
      rotate_left 1
      next => intro w hSw; rw [hSe] at hSw; obtain ⟨s1, s2, s3, s4, s5⟩ := hSw; go_simp; try with_reducible rfl
      try simp only [Act.put, List.getElem_toArray, List.getElem_cons_zero, List.getElem_cons_succ, List.setIfInBounds_toArray, List.set_cons_zero, List.set_cons_succ]
      refine wpAnyH_take (i := 24) (v := ?_) rfl (by kernel_rfl) (by kernel_rfl) (by kernel_rfl) (fun _ _ _ h => h) (Or.inl ⟨by rfl, ?_⟩) (HS.out _ hd) ?_
      rotate_left 1
      next => intro w hSw; rw [hSe] at hSw; obtain ⟨s1, s2, s3, s4, s5⟩ := hSw; go_simp; try with_reducible rfl
      try simp only [Act.put, List.getElem_toArray, List.getElem_cons_zero, List.getElem_cons_succ, List.setIfInBounds_toArray, List.set_cons_zero, List.set_cons_succ]
      try simp only [Act.put, List.getElem_toArray, List.getElem_cons_zero, List.getElem_cons_succ, List.setIfInBounds_toArray, List.set_cons_zero, List.set_cons_succ]
      refine wpAnyH_ready (rs := [15]) (by kernel_rfl) (by simp) ?_
      refine AllReadyH.cons rfl (fun K hK => ?_) AllReadyH.nil
      obtain ⟨hv1, _⟩ := HXX.out _ hd
      obtain ⟨⟨z0, z1⟩, z2, z3⟩ := hv1.z.2 s ea
      rw [HX.out, HXX1.out] at z0 z1
      go_simp
      refine hK.out _ _ (HS.out _ hd) (fun _ => ?_)
      clear hK K z0 z1 z2 z3 hv1
      try simp only [Act.put, List.getElem_toArray, List.getElem_cons_zero, List.getElem_cons_succ, List.setIfInBounds_toArray, List.set_cons_zero, List.set_cons_succ]
      refine wpAnyH_ready (rs := [25]) (by kernel_rfl) (by simp) ?_
      refine AllReadyH.cons rfl (fun K hK => ?_) AllReadyH.nil
      go_simp
      refine (HP.out _).mono ?_
      rintro e w1 ⟨rfl, hbc⟩
      have hb1 : Below wr.heap.size wr w1 := hd.trans (hbc.mono hd.size)
      dsimp only
      refine hK.out _ _ (HS.out _ hb1) (fun _ => ?_)
      clear hK K hbc
      refine wpAnyH_take (i := 26) (v := ?_) rfl (by kernel_rfl) (by kernel_rfl) (by kernel_rfl) (fun _ _ _ h => h) (Or.inl ⟨by rfl, ?_⟩) (HS.out _ hb1) ?_
      rotate_left 1
      next => intro w hSw; rw [hSe] at hSw; obtain ⟨s1, s2, s3, s4, s5⟩ := hSw; go_simp; try with_reducible rfl
      try simp only [Act.put, List.getElem_toArray, List.getElem_cons_zero, List.getElem_cons_succ, List.setIfInBounds_toArray, List.set_cons_zero, List.set_cons_succ]
      try simp only [Act.put, List.getElem_toArray, List.getElem_cons_zero, List.getElem_cons_succ, List.setIfInBounds_toArray, List.set_cons_zero, List.set_cons_succ]
      refine wpAnyH_ready (rs := [27]) (by kernel_rfl) (by simp) ?_
      refine AllReadyH.cons rfl (fun K hK => ?_) AllReadyH.nil
      obtain ⟨hv1, hv2⟩ := HXX.out _ hb1
      obtain ⟨⟨z0, z1⟩, z2, z3⟩ := hv1.z.2 s ea
      have hss := HS.out _ hb1
      have hs2 : SS ((w1.setCell ⟨gr, s * 2, none⟩ (.bool ZZ.neg)).setCell ⟨gr, s * 2 + 1, none⟩ (.string ZZ.mag)) := by
        rw [hSe] at hss ⊢
        obtain ⟨s1, s2, s3, s4, s5⟩ := hss
        obtain ⟨n1, n2, n3⟩ := Hn1.out
        refine ⟨?_, ?_, ?_, ?_, ?_⟩ <;> (rw [World.cell?_setCell_other _ _ _ _ (by intro hh; simp only [Addr.mk.injEq] at hh; omega), World.cell?_setCell_other _ _ _ _ (by intro hh; simp only [Addr.mk.injEq] at hh; omega)]; assumption)
      have hrs := hv1.set s z
      rw [HZ1.out] at hrs
      have F1 := Lib.hid (hrs.congr fun k _ => (HNX.out k).symm)
      have F2 := Lib.hid ((hv2.setCell (p := ⟨gr, s * 2, none⟩) (Nat.le_refl _) (.bool ZZ.neg)).setCell (p := ⟨gr, s * 2 + 1, none⟩) (Nat.le_refl _) (.string ZZ.mag))
      go_simp
      refine hK.out _ _ hs2 (fun _ => ?_)
      clear hK K z0 z1 z2 z3 hss hs2 hv1 hv2 hrs
      refine wpAnyH_done (by kernel_rfl) ?_ _
      go_wp2_with fail
      go_roundw
      case rel => exact ⟨i + 1, by omega, by go_num, F1, F2⟩
      case measure => simp [intOf]; omega
    · have i3 : ¬ (i : Int) < (n : Int) := by omega
      have hie : i = n := by omega
      rw [hie] at Hz
      clear hie
      go_wp2_with fail
      have HZ : Hid (∀ W, Below wr.heap.size wr W → RowF W (some ⟨gr, 0, none⟩) N (smE (frE E) (toE E) v n) ∧ Below gr W0 W) := Lib.hid (fun W hW => ⟨(Hz.out.kept (hW.block _ Hz.out.z.1)).z.row, Hb.out.trans (hW.mono (Nat.le_of_lt Hz.out.z.1))⟩)
      have HY : Hid (∀ W, Below wr.heap.size wr W → RowF W pv N v ∧ BoxAt3 W g0 (.int .i64 LL) (.int .i64 (N : Int)) (.slice p n c) ∧ Below w.heap.size w W) := Lib.hid (fun W hW => by
        have h := (HZ.out W hW).2
        refine ⟨HV.out.below (by rw [Hgr.out]; exact Nat.le_refl _) h, HBx.out.below (by rw [Hgr.out]; exact h), Hb0.out.trans (h.mono hsz)⟩)
      have HN : Hid (∀ s, s < 0 → 0 < v s ∧ smE (frE E) (toE E) v n s < (m : Int) * v s) := Lib.hid (fun s hs => by omega)
      have Hw : Hid (Below wr.heap.size wr wr) := Lib.hid (Below.refl _ _)
      obtain ⟨W1, hW1⟩ : ∃ W, wr = W := ⟨_, rfl⟩
      rw [hW1] at HZ HY Hw k0 k1 k2 ⊢
      clear Hz Hb hW1
      go_loopw [9] (fun tv wr => ∃ i : Nat, i ≤ N ∧ tv = .int .i64 (i : Nat) ∧ Hid (∀ s, s < i → 0 < v s ∧ smE (frE E) (toE E) v n s < (m : Int) * v s) ∧ Hid (Below W1.heap.size W1 wr)) (fun tv _ => N - (intOf tv).toNat)
      case atStart => exact ⟨0, by omega, by go_num, HN, Hw⟩
      case round =>
        clear HN Hw k0 k1 k2
        obtain ⟨i, hi, rfl, HN, Hb⟩ := hrel
        obtain ⟨hvr, ⟨_, k0, k1, k2⟩, hbw⟩ := HY.out _ Hb.out
        by_cases hil : i < N
        · have i3 : (i : Int) < (N : Int) := by omega
          have i4 : (0 : Int) ≤ (i : Int) := by omega
          obtain ⟨hzr, _⟩ := HZ.out _ Hb.out
          obtain ⟨zb, zo, he, _, hzc⟩ := RowF.cells hzr hil
          cases he
          obtain ⟨x0, x1⟩ := hzc i hil
          rw [Nat.zero_add] at x0 x1
          obtain ⟨vb, vo, he2, _, hvc⟩ := RowF.cells hvr hil
          obtain ⟨y0, y1⟩ := hvc i hil
          have hvi := Hv.out i hil
          have hsi := Hsm.out n (Nat.le_refl _) i
          have hpr : Bn ((m : Int) * v i) (e + 8) := (Hmb.out.mul hvi).up (by omega)
          have HA := Lib.hid (fun (h : v i ≤ 0 ∨ (m : Int) * v i ≤ smE (frE E) (toE E) v n i) => HF.out ⟨i, hil, h⟩)
          have HNx := Lib.hid (fun (h : 0 < v i ∧ smE (frE E) (toE E) v n i < (m : Int) * v i) (s : Nat) (hs : s < i + 1) => show 0 < v s ∧ smE (frE E) (toE E) v n s < (m : Int) * v s from by
            by_cases e : s = i
            · rw [e]; exact h
            · exact HN.out s (by omega))
          obtain ⟨x, hx⟩ : ∃ x, smE (frE E) (toE E) v n i = x := ⟨_, rfl⟩
          obtain ⟨y, hy⟩ : ∃ y, v i = y := ⟨_, rfl⟩
          rw [hx] at x0 x1 hsi HA HNx
          rw [hy] at y0 y1 hvi hpr HA HNx
          have HC0 := Lib.hid (fun W => refCmpC_any y 0 (by have := hvi.size 90000000 (by omega); omega) (by decide) W)
          have HMl := Lib.hid (fun W => refMulC_any (m : Int) y (by have h1 := Hmb.out.size 90000 (by omega); omega) (by have h2 := hvi.size 900000 (by omega); omega) (by have h1 := Hmb.out.size 90000 (by omega); have h2 := hvi.size 900000 (by omega); omega) W)
          have HC1 := Lib.hid (fun W => refCmpC_any x ((m : Int) * y) (by have := hsi.size 90000000 (by omega); omega) (by have := hpr.size 90000000 (by omega); omega) W)
          rw [show canon 0 = ⟨false, ⟨#[]⟩⟩ from rfl] at HC0
          dsimp only at HC0
          obtain ⟨c0, hc0⟩ : ∃ z, cmpI y 0 = z := ⟨_, rfl⟩
          obtain ⟨c1, hc1⟩ : ∃ z, cmpI x ((m : Int) * y) = z := ⟨_, rfl⟩
          have HQ : Hid ((y ≤ 0 → c0 ≤ 0) ∧ (0 < y → 0 < c0) ∧ (x < (m : Int) * y → c1 < 0) ∧ ((m : Int) * y ≤ x → 0 ≤ c1)) := Lib.hid ⟨fun h => by rw [← hc0]; exact cmpI_le h, fun h => by rw [← hc0]; exact cmpI_gt h, fun h => by rw [← hc1]; exact cmpI_lt h, fun h => by rw [← hc1]; exact cmpI_ge h⟩
          rw [hc0] at HC0
          rw [hc1] at HC1
          obtain ⟨XX, hXX⟩ : ∃ Z, canon x = Z := ⟨_, rfl⟩
          obtain ⟨YY, hYY⟩ : ∃ Z, canon y = Z := ⟨_, rfl⟩
          obtain ⟨PP, hPP⟩ : ∃ Z, canon ((m : Int) * y) = Z := ⟨_, rfl⟩
          obtain ⟨MM, hMM⟩ : ∃ Z, canon (m : Int) = Z := ⟨_, rfl⟩
          rw [hXX] at x0 x1 HC1
          rw [hYY] at y0 y1 HC0 HMl
          rw [hPP] at HC1 HMl
          rw [hMM] at HMl HOf
          subst he2
          have Hbw := Lib.hid hbw
          clear hzr hvr hzc hvc hvi hsi hpr hx hy hc0 hc1 hXX hYY hPP hMM HN hbw
          go_upto_region 9 with (fail)
          obtain ⟨SS, hSe⟩ : ∃ SS : World → Prop, SS = fun W => W.cell? ⟨vb, vo + i * 2, none⟩ = some (.bool YY.neg) ∧ W.cell? ⟨vb, vo + i * 2 + 1, none⟩ = some (.string YY.mag) ∧ W.cell? ⟨gr, i * 2, none⟩ = some (.bool XX.neg) ∧ W.cell? ⟨gr, i * 2 + 1, none⟩ = some (.string XX.mag) := ⟨_, rfl⟩
          have HS : Hid (∀ W, Below wr.heap.size wr W → SS W) := Lib.hid (fun W hW => by
            rw [hSe]; exact ⟨cell_below hW y0, cell_below hW y1, cell_below hW x0, cell_below hW x1⟩)
          have hd : Below wr.heap.size wr wr.drew := (Below.refl _ _).drew
          have HE : Hid (∀ W, Below wr.heap.size wr W → Below W1.heap.size W1 W ∧ Below w.heap.size w W) := Lib.hid (fun W hW => ⟨Hb.out.trans (hW.mono Hb.out.size), Hbw.out.trans (hW.mono Hbw.out.size)⟩)
          clear x0 x1 y0 y1 k0 k1 k2
          by_cases h1 : y ≤ 0
          · have h2 : c0 ≤ 0 := HQ.out.1 h1
            have HR := Lib.hid (HA.out (.inl h1))
            clear h1 HA HNx HQ
            refine wp_region_held_drew (S := SS) (by kernel_rfl) (HS.out _ hd) (fun hSS => ?_)
            refine wpAnyH_take (i := 0) (v := ?_) rfl (by kernel_rfl) (by kernel_rfl) (by kernel_rfl) (fun _ _ _ h => h) (Or.inl ⟨by rfl, ?_⟩) (HS.out _ hd) ?_
            rotate_left 1
            next => intro w hSw; rw [hSe] at hSw; obtain ⟨s1, s2, s3, s4⟩ := hSw; go_simp; try with_reducible rfl
            try simp only [Act.put, List.getElem_toArray, List.getElem_cons_zero, List.getElem_cons_succ, List.setIfInBounds_toArray, List.set_cons_zero, List.set_cons_succ]
            refine wpAnyH_take (i := 1) (v := ?_) rfl (by kernel_rfl) (by kernel_rfl) (by kernel_rfl) (fun _ _ _ h => h) (Or.inl ⟨by rfl, ?_⟩) (HS.out _ hd) ?_
            rotate_left 1
            next => intro w hSw; rw [hSe] at hSw; obtain ⟨s1, s2, s3, s4⟩ := hSw; go_simp; try with_reducible rfl
            try simp only [Act.put, List.getElem_toArray, List.getElem_cons_zero, List.getElem_cons_succ, List.setIfInBounds_toArray, List.set_cons_zero, List.set_cons_succ]
            refine wpAnyH_take (i := 2) (v := ?_) rfl (by kernel_rfl) (by kernel_rfl) (by kernel_rfl) (fun _ _ _ h => h) (Or.inl ⟨by rfl, ?_⟩) (HS.out _ hd) ?_
            rotate_left 1
            next => intro w hSw; rw [hSe] at hSw; obtain ⟨s1, s2, s3, s4⟩ := hSw; go_simp; try with_reducible rfl
            try simp only [Act.put, List.getElem_toArray, List.getElem_cons_zero, List.getElem_cons_succ, List.setIfInBounds_toArray, List.set_cons_zero, List.set_cons_succ]
            refine wpAnyH_take (i := 3) (v := ?_) rfl (by kernel_rfl) (by kernel_rfl) (by kernel_rfl) (fun _ _ _ h => h) (Or.inl ⟨by rfl, ?_⟩) (HS.out _ hd) ?_
            rotate_left 1
            next => intro w hSw; rw [hSe] at hSw; obtain ⟨s1, s2, s3, s4⟩ := hSw; go_simp; try with_reducible rfl
            try simp only [Act.put, List.getElem_toArray, List.getElem_cons_zero, List.getElem_cons_succ, List.setIfInBounds_toArray, List.set_cons_zero, List.set_cons_succ]
            refine wpAnyH_take (i := 4) (v := ?_) rfl (by kernel_rfl) (by kernel_rfl) (by kernel_rfl) (fun _ _ _ h => h) (Or.inl ⟨by rfl, ?_⟩) (HS.out _ hd) ?_
            rotate_left 1
            next => intro w hSw; rw [hSe] at hSw; obtain ⟨s1, s2, s3, s4⟩ := hSw; go_simp; try with_reducible rfl
            try simp only [Act.put, List.getElem_toArray, List.getElem_cons_zero, List.getElem_cons_succ, List.setIfInBounds_toArray, List.set_cons_zero, List.set_cons_succ]
            try simp only [Act.put, List.getElem_toArray, List.getElem_cons_zero, List.getElem_cons_succ, List.setIfInBounds_toArray, List.set_cons_zero, List.set_cons_succ]
            refine wpAnyH_ready (rs := [5]) (by kernel_rfl) (by simp) ?_
            refine AllReadyH.cons rfl (fun K hK => ?_) AllReadyH.nil
            go_simp
            refine (HC0.out _).mono ?_
            rintro e w2 ⟨rfl, hbc⟩
            have hb2 : Below wr.heap.size wr w2 := hd.trans (hbc.mono hd.size)
            dsimp only
            refine hK.out _ _ (HS.out _ hb2) (fun _ => ?_)
            clear hK K hbc
            refine wpAnyH_take (i := 6) (v := ?_) rfl (by kernel_rfl) (by kernel_rfl) (by kernel_rfl) (fun _ _ _ h => h) (Or.inl ⟨by rfl, ?_⟩) (HS.out _ hb2) ?_
            rotate_left 1
            next => intro w hSw; rw [hSe] at hSw; obtain ⟨s1, s2, s3, s4⟩ := hSw; go_simp; try with_reducible rfl
            try simp only [Act.put, List.getElem_toArray, List.getElem_cons_zero, List.getElem_cons_succ, List.setIfInBounds_toArray, List.set_cons_zero, List.set_cons_succ]
            refine wpAnyH_take (i := 7) (v := ?_) rfl (by kernel_rfl) (by kernel_rfl) (by kernel_rfl) (fun _ _ _ h => h) (Or.inl ⟨by rfl, ?_⟩) (HS.out _ hb2) ?_
            rotate_left 1
            next => intro w hSw; rw [hSe] at hSw; obtain ⟨s1, s2, s3, s4⟩ := hSw; go_simp; try with_reducible rfl
            try simp only [Act.put, List.getElem_toArray, List.getElem_cons_zero, List.getElem_cons_succ, List.setIfInBounds_toArray, List.set_cons_zero, List.set_cons_succ]
            refine wpAnyH_take (i := 8) (v := undef) rfl (by kernel_rfl) (by kernel_rfl) (by kernel_rfl) (fun _ _ _ h => h) (Or.inr ⟨by rfl, rfl⟩) (HS.out _ hb2) ?_
            try simp only [Act.put, List.getElem_toArray, List.getElem_cons_zero, List.getElem_cons_succ, List.setIfInBounds_toArray, List.set_cons_zero, List.set_cons_succ]
            refine wpAnyH_take (i := 9) (v := undef) rfl (by kernel_rfl) (by kernel_rfl) (by kernel_rfl) (fun _ _ _ h => h) (Or.inr ⟨by rfl, rfl⟩) (HS.out _ hb2) ?_
            try simp only [Act.put, List.getElem_toArray, List.getElem_cons_zero, List.getElem_cons_succ, List.setIfInBounds_toArray, List.set_cons_zero, List.set_cons_succ]
            refine wpAnyH_take (i := 10) (v := undef) rfl (by kernel_rfl) (by kernel_rfl) (by kernel_rfl) (fun _ _ _ h => h) (Or.inr ⟨by rfl, rfl⟩) (HS.out _ hb2) ?_
            try simp only [Act.put, List.getElem_toArray, List.getElem_cons_zero, List.getElem_cons_succ, List.setIfInBounds_toArray, List.set_cons_zero, List.set_cons_succ]
            refine wpAnyH_take (i := 11) (v := undef) rfl (by kernel_rfl) (by kernel_rfl) (by kernel_rfl) (fun _ _ _ h => h) (Or.inr ⟨by rfl, rfl⟩) (HS.out _ hb2) ?_
            try simp only [Act.put, List.getElem_toArray, List.getElem_cons_zero, List.getElem_cons_succ, List.setIfInBounds_toArray, List.set_cons_zero, List.set_cons_succ]
            refine wpAnyH_take (i := 12) (v := undef) rfl (by kernel_rfl) (by kernel_rfl) (by kernel_rfl) (fun _ _ _ h => h) (Or.inr ⟨by rfl, rfl⟩) (HS.out _ hb2) ?_
            try simp only [Act.put, List.getElem_toArray, List.getElem_cons_zero, List.getElem_cons_succ, List.setIfInBounds_toArray, List.set_cons_zero, List.set_cons_succ]
            refine wpAnyH_take (i := 13) (v := undef) rfl (by kernel_rfl) (by kernel_rfl) (by kernel_rfl) (fun _ _ _ h => h) (Or.inr ⟨by rfl, rfl⟩) (HS.out _ hb2) ?_
            try simp only [Act.put, List.getElem_toArray, List.getElem_cons_zero, List.getElem_cons_succ, List.setIfInBounds_toArray, List.set_cons_zero, List.set_cons_succ]
            refine wpAnyH_take (i := 14) (v := undef) rfl (by kernel_rfl) (by kernel_rfl) (by kernel_rfl) (fun _ _ _ h => h) (Or.inr ⟨by rfl, rfl⟩) (HS.out _ hb2) ?_
            try simp only [Act.put, List.getElem_toArray, List.getElem_cons_zero, List.getElem_cons_succ, List.setIfInBounds_toArray, List.set_cons_zero, List.set_cons_succ]
            refine wpAnyH_take (i := 15) (v := undef) rfl (by kernel_rfl) (by kernel_rfl) (by kernel_rfl) (fun _ _ _ h => h) (Or.inr ⟨by rfl, rfl⟩) (HS.out _ hb2) ?_
            try simp only [Act.put, List.getElem_toArray, List.getElem_cons_zero, List.getElem_cons_succ, List.setIfInBounds_toArray, List.set_cons_zero, List.set_cons_succ]
            refine wpAnyH_take (i := 16) (v := undef) rfl (by kernel_rfl) (by kernel_rfl) (by kernel_rfl) (fun _ _ _ h => h) (Or.inr ⟨by rfl, rfl⟩) (HS.out _ hb2) ?_
            try simp only [Act.put, List.getElem_toArray, List.getElem_cons_zero, List.getElem_cons_succ, List.setIfInBounds_toArray, List.set_cons_zero, List.set_cons_succ]
            refine wpAnyH_take (i := 17) (v := undef) rfl (by kernel_rfl) (by kernel_rfl) (by kernel_rfl) (fun _ _ _ h => h) (Or.inr ⟨by rfl, rfl⟩) (HS.out _ hb2) ?_
            try simp only [Act.put, List.getElem_toArray, List.getElem_cons_zero, List.getElem_cons_succ, List.setIfInBounds_toArray, List.set_cons_zero, List.set_cons_succ]
            refine wpAnyH_take (i := 18) (v := undef) rfl (by kernel_rfl) (by kernel_rfl) (by kernel_rfl) (fun _ _ _ h => h) (Or.inr ⟨by rfl, rfl⟩) (HS.out _ hb2) ?_
            try simp only [Act.put, List.getElem_toArray, List.getElem_cons_zero, List.getElem_cons_succ, List.setIfInBounds_toArray, List.set_cons_zero, List.set_cons_succ]
            refine wpAnyH_take (i := 19) (v := undef) rfl (by kernel_rfl) (by kernel_rfl) (by kernel_rfl) (fun _ _ _ h => h) (Or.inr ⟨by rfl, rfl⟩) (HS.out _ hb2) ?_
            try simp only [Act.put, List.getElem_toArray, List.getElem_cons_zero, List.getElem_cons_succ, List.setIfInBounds_toArray, List.set_cons_zero, List.set_cons_succ]
            refine wpAnyH_take (i := 20) (v := undef) rfl (by kernel_rfl) (by kernel_rfl) (by kernel_rfl) (fun _ _ _ h => h) (Or.inr ⟨by rfl, rfl⟩) (HS.out _ hb2) ?_
            try simp only [Act.put, List.getElem_toArray, List.getElem_cons_zero, List.getElem_cons_succ, List.setIfInBounds_toArray, List.set_cons_zero, List.set_cons_succ]
            refine wpAnyH_take (i := 21) (v := ?_) rfl (by kernel_rfl) (by kernel_rfl) (by kernel_rfl) (fun _ _ _ h => h) (Or.inl ⟨by rfl, ?_⟩) (HS.out _ hb2) ?_
            rotate_left 1
            next => intro w hSw; rw [hSe] at hSw; obtain ⟨s1, s2, s3, s4⟩ := hSw; go_simp; try with_reducible rfl
            try simp only [Act.put, List.getElem_toArray, List.getElem_cons_zero, List.getElem_cons_succ, List.setIfInBounds_toArray, List.set_cons_zero, List.set_cons_succ]
            refine wpAnyH_done (by kernel_rfl) ?_ _
            go_wp2
            go_ret
            try rw [← Hg0.out]
            exact ⟨by rw [← HR.out]; rfl, (HE.out _ hb2).2⟩
          · have h2 : ¬ c0 ≤ 0 := by have := HQ.out.2.1 (by omega); omega
            by_cases h3 : (m : Int) * y ≤ x
            · have h4 : 0 ≤ c1 := HQ.out.2.2.2 h3
              have HR := Lib.hid (HA.out (.inr h3))
              clear h1 h3 HA HNx HQ
              refine wp_region_held_drew (S := SS) (by kernel_rfl) (HS.out _ hd) (fun hSS => ?_)
              refine wpAnyH_take (i := 0) (v := ?_) rfl (by kernel_rfl) (by kernel_rfl) (by kernel_rfl) (fun _ _ _ h => h) (Or.inl ⟨by rfl, ?_⟩) (HS.out _ hd) ?_
              rotate_left 1
              next => intro w hSw; rw [hSe] at hSw; obtain ⟨s1, s2, s3, s4⟩ := hSw; go_simp; try with_reducible rfl
              try simp only [Act.put, List.getElem_toArray, List.getElem_cons_zero, List.getElem_cons_succ, List.setIfInBounds_toArray, List.set_cons_zero, List.set_cons_succ]
              refine wpAnyH_take (i := 1) (v := ?_) rfl (by kernel_rfl) (by kernel_rfl) (by kernel_rfl) (fun _ _ _ h => h) (Or.inl ⟨by rfl, ?_⟩) (HS.out _ hd) ?_
              rotate_left 1
              next => intro w hSw; rw [hSe] at hSw; obtain ⟨s1, s2, s3, s4⟩ := hSw; go_simp; try with_reducible rfl
              try simp only [Act.put, List.getElem_toArray, List.getElem_cons_zero, List.getElem_cons_succ, List.setIfInBounds_toArray, List.set_cons_zero, List.set_cons_succ]
              refine wpAnyH_take (i := 2) (v := ?_) rfl (by kernel_rfl) (by kernel_rfl) (by kernel_rfl) (fun _ _ _ h => h) (Or.inl ⟨by rfl, ?_⟩) (HS.out _ hd) ?_
              rotate_left 1
              next => intro w hSw; rw [hSe] at hSw; obtain ⟨s1, s2, s3, s4⟩ := hSw; go_simp; try with_reducible rfl
              try simp only [Act.put, List.getElem_toArray, List.getElem_cons_zero, List.getElem_cons_succ, List.setIfInBounds_toArray, List.set_cons_zero, List.set_cons_succ]
              refine wpAnyH_take (i := 3) (v := ?_) rfl (by kernel_rfl) (by kernel_rfl) (by kernel_rfl) (fun _ _ _ h => h) (Or.inl ⟨by rfl, ?_⟩) (HS.out _ hd) ?_
              rotate_left 1
              next => intro w hSw; rw [hSe] at hSw; obtain ⟨s1, s2, s3, s4⟩ := hSw; go_simp; try with_reducible rfl
              try simp only [Act.put, List.getElem_toArray, List.getElem_cons_zero, List.getElem_cons_succ, List.setIfInBounds_toArray, List.set_cons_zero, List.set_cons_succ]
              refine wpAnyH_take (i := 4) (v := ?_) rfl (by kernel_rfl) (by kernel_rfl) (by kernel_rfl) (fun _ _ _ h => h) (Or.inl ⟨by rfl, ?_⟩) (HS.out _ hd) ?_
              rotate_left 1
              next => intro w hSw; rw [hSe] at hSw; obtain ⟨s1, s2, s3, s4⟩ := hSw; go_simp; try with_reducible rfl
              try simp only [Act.put, List.getElem_toArray, List.getElem_cons_zero, List.getElem_cons_succ, List.setIfInBounds_toArray, List.set_cons_zero, List.set_cons_succ]
              try simp only [Act.put, List.getElem_toArray, List.getElem_cons_zero, List.getElem_cons_succ, List.setIfInBounds_toArray, List.set_cons_zero, List.set_cons_succ]
              refine wpAnyH_ready (rs := [5]) (by kernel_rfl) (by simp) ?_
              refine AllReadyH.cons rfl (fun K hK => ?_) AllReadyH.nil
              go_simp
              refine (HC0.out _).mono ?_
              rintro e w3 ⟨rfl, hbc⟩
              have hb3 : Below wr.heap.size wr w3 := hd.trans (hbc.mono hd.size)
              dsimp only
              refine hK.out _ _ (HS.out _ hb3) (fun _ => ?_)
              clear hK K hbc
              refine wpAnyH_take (i := 6) (v := ?_) rfl (by kernel_rfl) (by kernel_rfl) (by kernel_rfl) (fun _ _ _ h => h) (Or.inl ⟨by rfl, ?_⟩) (HS.out _ hb3) ?_
              rotate_left 1
              next => intro w hSw; rw [hSe] at hSw; obtain ⟨s1, s2, s3, s4⟩ := hSw; go_simp; try with_reducible rfl
              try simp only [Act.put, List.getElem_toArray, List.getElem_cons_zero, List.getElem_cons_succ, List.setIfInBounds_toArray, List.set_cons_zero, List.set_cons_succ]
              refine wpAnyH_take (i := 7) (v := ?_) rfl (by kernel_rfl) (by kernel_rfl) (by kernel_rfl) (fun _ _ _ h => h) (Or.inl ⟨by rfl, ?_⟩) (HS.out _ hb3) ?_
              rotate_left 1
              next => intro w hSw; rw [hSe] at hSw; obtain ⟨s1, s2, s3, s4⟩ := hSw; go_simp; try with_reducible rfl
              try simp only [Act.put, List.getElem_toArray, List.getElem_cons_zero, List.getElem_cons_succ, List.setIfInBounds_toArray, List.set_cons_zero, List.set_cons_succ]
              refine wpAnyH_take (i := 8) (v := ?_) rfl (by kernel_rfl) (by kernel_rfl) (by kernel_rfl) (fun _ _ _ h => h) (Or.inl ⟨by rfl, ?_⟩) (HS.out _ hb3) ?_
              rotate_left 1
              next => intro w hSw; rw [hSe] at hSw; obtain ⟨s1, s2, s3, s4⟩ := hSw; go_simp; try with_reducible rfl
              try simp only [Act.put, List.getElem_toArray, List.getElem_cons_zero, List.getElem_cons_succ, List.setIfInBounds_toArray, List.set_cons_zero, List.set_cons_succ]
              refine wpAnyH_take (i := 9) (v := ?_) rfl (by kernel_rfl) (by kernel_rfl) (by kernel_rfl) (fun _ _ _ h => h) (Or.inl ⟨by rfl, ?_⟩) (HS.out _ hb3) ?_
              rotate_left 1
              next => intro w hSw; rw [hSe] at hSw; obtain ⟨s1, s2, s3, s4⟩ := hSw; go_simp; try with_reducible rfl
              try simp only [Act.put, List.getElem_toArray, List.getElem_cons_zero, List.getElem_cons_succ, List.setIfInBounds_toArray, List.set_cons_zero, List.set_cons_succ]
              refine wpAnyH_take (i := 10) (v := ?_) rfl (by kernel_rfl) (by kernel_rfl) (by kernel_rfl) (fun _ _ _ h => h) (Or.inl ⟨by rfl, ?_⟩) (HS.out _ hb3) ?_
              rotate_left 1
              next => intro w hSw; rw [hSe] at hSw; obtain ⟨s1, s2, s3, s4⟩ := hSw; go_simp; try with_reducible rfl
              try simp only [Act.put, List.getElem_toArray, List.getElem_cons_zero, List.getElem_cons_succ, List.setIfInBounds_toArray, List.set_cons_zero, List.set_cons_succ]
              refine wpAnyH_take (i := 11) (v := ?_) rfl (by kernel_rfl) (by kernel_rfl) (by kernel_rfl) (fun _ _ _ h => h) (Or.inl ⟨by rfl, ?_⟩) (HS.out _ hb3) ?_
              rotate_left 1
              next => intro w hSw; rw [hSe] at hSw; obtain ⟨s1, s2, s3, s4⟩ := hSw; go_simp; try with_reducible rfl
              try simp only [Act.put, List.getElem_toArray, List.getElem_cons_zero, List.getElem_cons_succ, List.setIfInBounds_toArray, List.set_cons_zero, List.set_cons_succ]
              refine wpAnyH_take (i := 12) (v := ?_) rfl (by kernel_rfl) (by kernel_rfl) (by kernel_rfl) (fun _ _ _ h => h) (Or.inl ⟨by rfl, ?_⟩) (HS.out _ hb3) ?_
              rotate_left 1
              next => intro w hSw; rw [hSe] at hSw; obtain ⟨s1, s2, s3, s4⟩ := hSw; go_simp; try with_reducible rfl
              try simp only [Act.put, List.getElem_toArray, List.getElem_cons_zero, List.getElem_cons_succ, List.setIfInBounds_toArray, List.set_cons_zero, List.set_cons_succ]
              refine wpAnyH_take (i := 14) (v := ?_) rfl (by kernel_rfl) (by kernel_rfl) (by kernel_rfl) (fun _ _ _ h => h) (Or.inl ⟨by rfl, ?_⟩) (HS.out _ hb3) ?_
              rotate_left 1
              next => intro w hSw; rw [hSe] at hSw; obtain ⟨s1, s2, s3, s4⟩ := hSw; go_simp; try with_reducible rfl
              try simp only [Act.put, List.getElem_toArray, List.getElem_cons_zero, List.getElem_cons_succ, List.setIfInBounds_toArray, List.set_cons_zero, List.set_cons_succ]
              refine wpAnyH_take (i := 15) (v := ?_) rfl (by kernel_rfl) (by kernel_rfl) (by kernel_rfl) (fun _ _ _ h => h) (Or.inl ⟨by rfl, ?_⟩) (HS.out _ hb3) ?_
              rotate_left 1
              next => intro w hSw; rw [hSe] at hSw; obtain ⟨s1, s2, s3, s4⟩ := hSw; go_simp; try with_reducible rfl
              try simp only [Act.put, List.getElem_toArray, List.getElem_cons_zero, List.getElem_cons_succ, List.setIfInBounds_toArray, List.set_cons_zero, List.set_cons_succ]
              refine wpAnyH_take (i := 16) (v := ?_) rfl (by kernel_rfl) (by kernel_rfl) (by kernel_rfl) (fun _ _ _ h => h) (Or.inl ⟨by rfl, ?_⟩) (HS.out _ hb3) ?_
              rotate_left 1
              next => intro w hSw; rw [hSe] at hSw; obtain ⟨s1, s2, s3, s4⟩ := hSw; go_simp; try with_reducible rfl
              try simp only [Act.put, List.getElem_toArray, List.getElem_cons_zero, List.getElem_cons_succ, List.setIfInBounds_toArray, List.set_cons_zero, List.set_cons_succ]
              refine wpAnyH_take (i := 17) (v := ?_) rfl (by kernel_rfl) (by kernel_rfl) (by kernel_rfl) (fun _ _ _ h => h) (Or.inl ⟨by rfl, ?_⟩) (HS.out _ hb3) ?_
              rotate_left 1
              next => intro w hSw; rw [hSe] at hSw; obtain ⟨s1, s2, s3, s4⟩ := hSw; go_simp; try with_reducible rfl
              try simp only [Act.put, List.getElem_toArray, List.getElem_cons_zero, List.getElem_cons_succ, List.setIfInBounds_toArray, List.set_cons_zero, List.set_cons_succ]
              try simp only [Act.put, List.getElem_toArray, List.getElem_cons_zero, List.getElem_cons_succ, List.setIfInBounds_toArray, List.set_cons_zero, List.set_cons_succ]
              refine wpAnyH_ready (rs := [13]) (by kernel_rfl) (by simp) ?_
              refine AllReadyH.cons rfl (fun K hK => ?_) AllReadyH.nil
              go_simp
              refine (HOf.out _).mono ?_
              rintro e w4 ⟨rfl, hbc⟩
              have hb4 : Below wr.heap.size wr w4 := hb3.trans (hbc.mono hb3.size)
              dsimp only
              refine hK.out _ _ (HS.out _ hb4) (fun _ => ?_)
              clear hK K hbc
              try simp only [Act.put, List.getElem_toArray, List.getElem_cons_zero, List.getElem_cons_succ, List.setIfInBounds_toArray, List.set_cons_zero, List.set_cons_succ]
              refine wpAnyH_ready (rs := [18]) (by kernel_rfl) (by simp) ?_
              refine AllReadyH.cons rfl (fun K hK => ?_) AllReadyH.nil
              go_simp
              refine (HMl.out _).mono ?_
              rintro e w5 ⟨rfl, hbc⟩
              have hb5 : Below wr.heap.size wr w5 := hb4.trans (hbc.mono hb4.size)
              dsimp only
              refine hK.out _ _ (HS.out _ hb5) (fun _ => ?_)
              clear hK K hbc
              try simp only [Act.put, List.getElem_toArray, List.getElem_cons_zero, List.getElem_cons_succ, List.setIfInBounds_toArray, List.set_cons_zero, List.set_cons_succ]
              refine wpAnyH_ready (rs := [19]) (by kernel_rfl) (by simp) ?_
              refine AllReadyH.cons rfl (fun K hK => ?_) AllReadyH.nil
              go_simp
              refine (HC1.out _).mono ?_
              rintro e w6 ⟨rfl, hbc⟩
              have hb6 : Below wr.heap.size wr w6 := hb5.trans (hbc.mono hb5.size)
              dsimp only
              refine hK.out _ _ (HS.out _ hb6) (fun _ => ?_)
              clear hK K hbc
              refine wpAnyH_take (i := 20) (v := ?_) rfl (by kernel_rfl) (by kernel_rfl) (by kernel_rfl) (fun _ _ _ h => h) (Or.inl ⟨by rfl, ?_⟩) (HS.out _ hb6) ?_
              rotate_left 1
              next => intro w hSw; rw [hSe] at hSw; obtain ⟨s1, s2, s3, s4⟩ := hSw; go_simp; try with_reducible rfl
              try simp only [Act.put, List.getElem_toArray, List.getElem_cons_zero, List.getElem_cons_succ, List.setIfInBounds_toArray, List.set_cons_zero, List.set_cons_succ]
              refine wpAnyH_take (i := 21) (v := ?_) rfl (by kernel_rfl) (by kernel_rfl) (by kernel_rfl) (fun _ _ _ h => h) (Or.inl ⟨by rfl, ?_⟩) (HS.out _ hb6) ?_
              rotate_left 1
              next => intro w hSw; rw [hSe] at hSw; obtain ⟨s1, s2, s3, s4⟩ := hSw; go_simp; try with_reducible rfl
              try simp only [Act.put, List.getElem_toArray, List.getElem_cons_zero, List.getElem_cons_succ, List.setIfInBounds_toArray, List.set_cons_zero, List.set_cons_succ]
              refine wpAnyH_done (by kernel_rfl) ?_ _
              go_wp2
              go_ret
              try rw [← Hg0.out]
              exact ⟨by rw [← HR.out]; rfl, (HE.out _ hb6).2⟩
            · have h4 : ¬ 0 ≤ c1 := by have := HQ.out.2.2.1 (by omega); omega
              have HN2 := Lib.hid (HNx.out ⟨by omega, by omega⟩)
              clear h1 h3 HA HNx HQ
              refine wp_region_held_drew (S := SS) (by kernel_rfl) (HS.out _ hd) (fun hSS => ?_)
              refine wpAnyH_take (i := 0) (v := ?_) rfl (by kernel_rfl) (by kernel_rfl) (by kernel_rfl) (fun _ _ _ h => h) (Or.inl ⟨by rfl, ?_⟩) (HS.out _ hd) ?_
              rotate_left 1
              next => intro w hSw; rw [hSe] at hSw; obtain ⟨s1, s2, s3, s4⟩ := hSw; go_simp; try with_reducible rfl
              try simp only [Act.put, List.getElem_toArray, List.getElem_cons_zero, List.getElem_cons_succ, List.setIfInBounds_toArray, List.set_cons_zero, List.set_cons_succ]
              refine wpAnyH_take (i := 1) (v := ?_) rfl (by kernel_rfl) (by kernel_rfl) (by kernel_rfl) (fun _ _ _ h => h) (Or.inl ⟨by rfl, ?_⟩) (HS.out _ hd) ?_
              rotate_left 1
              next => intro w hSw; rw [hSe] at hSw; obtain ⟨s1, s2, s3, s4⟩ := hSw; go_simp; try with_reducible rfl
              try simp only [Act.put, List.getElem_toArray, List.getElem_cons_zero, List.getElem_cons_succ, List.setIfInBounds_toArray, List.set_cons_zero, List.set_cons_succ]
              refine wpAnyH_take (i := 2) (v := ?_) rfl (by kernel_rfl) (by kernel_rfl) (by kernel_rfl) (fun _ _ _ h => h) (Or.inl ⟨by rfl, ?_⟩) (HS.out _ hd) ?_
              rotate_left 1
              next => intro w hSw; rw [hSe] at hSw; obtain ⟨s1, s2, s3, s4⟩ := hSw; go_simp; try with_reducible rfl
              try simp only [Act.put, List.getElem_toArray, List.getElem_cons_zero, List.getElem_cons_succ, List.setIfInBounds_toArray, List.set_cons_zero, List.set_cons_succ]
              refine wpAnyH_take (i := 3) (v := ?_) rfl (by kernel_rfl) (by kernel_rfl) (by kernel_rfl) (fun _ _ _ h => h) (Or.inl ⟨by rfl, ?_⟩) (HS.out _ hd) ?_
              rotate_left 1
              next => intro w hSw; rw [hSe] at hSw; obtain ⟨s1, s2, s3, s4⟩ := hSw; go_simp; try with_reducible rfl
              try simp only [Act.put, List.getElem_toArray, List.getElem_cons_zero, List.getElem_cons_succ, List.setIfInBounds_toArray, List.set_cons_zero, List.set_cons_succ]
              refine wpAnyH_take (i := 4) (v := ?_) rfl (by kernel_rfl) (by kernel_rfl) (by kernel_rfl) (fun _ _ _ h => h) (Or.inl ⟨by rfl, ?_⟩) (HS.out _ hd) ?_
              rotate_left 1
              next => intro w hSw; rw [hSe] at hSw; obtain ⟨s1, s2, s3, s4⟩ := hSw; go_simp; try with_reducible rfl
              try simp only [Act.put, List.getElem_toArray, List.getElem_cons_zero, List.getElem_cons_succ, List.setIfInBounds_toArray, List.set_cons_zero, List.set_cons_succ]
              try simp only [Act.put, List.getElem_toArray, List.getElem_cons_zero, List.getElem_cons_succ, List.setIfInBounds_toArray, List.set_cons_zero, List.set_cons_succ]
              refine wpAnyH_ready (rs := [5]) (by kernel_rfl) (by simp) ?_
              refine AllReadyH.cons rfl (fun K hK => ?_) AllReadyH.nil
              go_simp
              refine (HC0.out _).mono ?_
              rintro e w7 ⟨rfl, hbc⟩
              have hb7 : Below wr.heap.size wr w7 := hd.trans (hbc.mono hd.size)
              dsimp only
              refine hK.out _ _ (HS.out _ hb7) (fun _ => ?_)
              clear hK K hbc
              refine wpAnyH_take (i := 6) (v := ?_) rfl (by kernel_rfl) (by kernel_rfl) (by kernel_rfl) (fun _ _ _ h => h) (Or.inl ⟨by rfl, ?_⟩) (HS.out _ hb7) ?_
              rotate_left 1
              next => intro w hSw; rw [hSe] at hSw; obtain ⟨s1, s2, s3, s4⟩ := hSw; go_simp; try with_reducible rfl
              try simp only [Act.put, List.getElem_toArray, List.getElem_cons_zero, List.getElem_cons_succ, List.setIfInBounds_toArray, List.set_cons_zero, List.set_cons_succ]
              refine wpAnyH_take (i := 7) (v := ?_) rfl (by kernel_rfl) (by kernel_rfl) (by kernel_rfl) (fun _ _ _ h => h) (Or.inl ⟨by rfl, ?_⟩) (HS.out _ hb7) ?_
              rotate_left 1
              next => intro w hSw; rw [hSe] at hSw; obtain ⟨s1, s2, s3, s4⟩ := hSw; go_simp; try with_reducible rfl
              try simp only [Act.put, List.getElem_toArray, List.getElem_cons_zero, List.getElem_cons_succ, List.setIfInBounds_toArray, List.set_cons_zero, List.set_cons_succ]
              refine wpAnyH_take (i := 8) (v := ?_) rfl (by kernel_rfl) (by kernel_rfl) (by kernel_rfl) (fun _ _ _ h => h) (Or.inl ⟨by rfl, ?_⟩) (HS.out _ hb7) ?_
              rotate_left 1
              next => intro w hSw; rw [hSe] at hSw; obtain ⟨s1, s2, s3, s4⟩ := hSw; go_simp; try with_reducible rfl
              try simp only [Act.put, List.getElem_toArray, List.getElem_cons_zero, List.getElem_cons_succ, List.setIfInBounds_toArray, List.set_cons_zero, List.set_cons_succ]
              refine wpAnyH_take (i := 9) (v := ?_) rfl (by kernel_rfl) (by kernel_rfl) (by kernel_rfl) (fun _ _ _ h => h) (Or.inl ⟨by rfl, ?_⟩) (HS.out _ hb7) ?_
              rotate_left 1
              next => intro w hSw; rw [hSe] at hSw; obtain ⟨s1, s2, s3, s4⟩ := hSw; go_simp; try with_reducible rfl
              try simp only [Act.put, List.getElem_toArray, List.getElem_cons_zero, List.getElem_cons_succ, List.setIfInBounds_toArray, List.set_cons_zero, List.set_cons_succ]
              refine wpAnyH_take (i := 10) (v := ?_) rfl (by kernel_rfl) (by kernel_rfl) (by kernel_rfl) (fun _ _ _ h => h) (Or.inl ⟨by rfl, ?_⟩) (HS.out _ hb7) ?_
              rotate_left 1
              next => intro w hSw; rw [hSe] at hSw; obtain ⟨s1, s2, s3, s4⟩ := hSw; go_simp; try with_reducible rfl
              try simp only [Act.put, List.getElem_toArray, List.getElem_cons_zero, List.getElem_cons_succ, List.setIfInBounds_toArray, List.set_cons_zero, List.set_cons_succ]
              refine wpAnyH_take (i := 11) (v := ?_) rfl (by kernel_rfl) (by kernel_rfl) (by kernel_rfl) (fun _ _ _ h => h) (Or.inl ⟨by rfl, ?_⟩) (HS.out _ hb7) ?_
              rotate_left 1
              next => intro w hSw; rw [hSe] at hSw; obtain ⟨s1, s2, s3, s4⟩ := hSw; go_simp; try with_reducible rfl
              try simp only [Act.put, List.getElem_toArray, List.getElem_cons_zero, List.getElem_cons_succ, List.setIfInBounds_toArray, List.set_cons_zero, List.set_cons_succ]
              refine wpAnyH_take (i := 12) (v := ?_) rfl (by kernel_rfl) (by kernel_rfl) (by kernel_rfl) (fun _ _ _ h => h) (Or.inl ⟨by rfl, ?_⟩) (HS.out _ hb7) ?_
              rotate_left 1
              next => intro w hSw; rw [hSe] at hSw; obtain ⟨s1, s2, s3, s4⟩ := hSw; go_simp; try with_reducible rfl
              try simp only [Act.put, List.getElem_toArray, List.getElem_cons_zero, List.getElem_cons_succ, List.setIfInBounds_toArray, List.set_cons_zero, List.set_cons_succ]
              refine wpAnyH_take (i := 14) (v := ?_) rfl (by kernel_rfl) (by kernel_rfl) (by kernel_rfl) (fun _ _ _ h => h) (Or.inl ⟨by rfl, ?_⟩) (HS.out _ hb7) ?_
              rotate_left 1
              next => intro w hSw; rw [hSe] at hSw; obtain ⟨s1, s2, s3, s4⟩ := hSw; go_simp; try with_reducible rfl
              try simp only [Act.put, List.getElem_toArray, List.getElem_cons_zero, List.getElem_cons_succ, List.setIfInBounds_toArray, List.set_cons_zero, List.set_cons_succ]
              refine wpAnyH_take (i := 15) (v := ?_) rfl (by kernel_rfl) (by kernel_rfl) (by kernel_rfl) (fun _ _ _ h => h) (Or.inl ⟨by rfl, ?_⟩) (HS.out _ hb7) ?_
              rotate_left 1
              next => intro w hSw; rw [hSe] at hSw; obtain ⟨s1, s2, s3, s4⟩ := hSw; go_simp; try with_reducible rfl
              try simp only [Act.put, List.getElem_toArray, List.getElem_cons_zero, List.getElem_cons_succ, List.setIfInBounds_toArray, List.set_cons_zero, List.set_cons_succ]
              refine wpAnyH_take (i := 16) (v := ?_) rfl (by kernel_rfl) (by kernel_rfl) (by kernel_rfl) (fun _ _ _ h => h) (Or.inl ⟨by rfl, ?_⟩) (HS.out _ hb7) ?_
              rotate_left 1
              next => intro w hSw; rw [hSe] at hSw; obtain ⟨s1, s2, s3, s4⟩ := hSw; go_simp; try with_reducible rfl
              try simp only [Act.put, List.getElem_toArray, List.getElem_cons_zero, List.getElem_cons_succ, List.setIfInBounds_toArray, List.set_cons_zero, List.set_cons_succ]
              refine wpAnyH_take (i := 17) (v := ?_) rfl (by kernel_rfl) (by kernel_rfl) (by kernel_rfl) (fun _ _ _ h => h) (Or.inl ⟨by rfl, ?_⟩) (HS.out _ hb7) ?_
              rotate_left 1
              next => intro w hSw; rw [hSe] at hSw; obtain ⟨s1, s2, s3, s4⟩ := hSw; go_simp; try with_reducible rfl
              try simp only [Act.put, List.getElem_toArray, List.getElem_cons_zero, List.getElem_cons_succ, List.setIfInBounds_toArray, List.set_cons_zero, List.set_cons_succ]
              try simp only [Act.put, List.getElem_toArray, List.getElem_cons_zero, List.getElem_cons_succ, List.setIfInBounds_toArray, List.set_cons_zero, List.set_cons_succ]
              refine wpAnyH_ready (rs := [13]) (by kernel_rfl) (by simp) ?_
              refine AllReadyH.cons rfl (fun K hK => ?_) AllReadyH.nil
              go_simp
              refine (HOf.out _).mono ?_
              rintro e w8 ⟨rfl, hbc⟩
              have hb8 : Below wr.heap.size wr w8 := hb7.trans (hbc.mono hb7.size)
              dsimp only
              refine hK.out _ _ (HS.out _ hb8) (fun _ => ?_)
              clear hK K hbc
              try simp only [Act.put, List.getElem_toArray, List.getElem_cons_zero, List.getElem_cons_succ, List.setIfInBounds_toArray, List.set_cons_zero, List.set_cons_succ]
              refine wpAnyH_ready (rs := [18]) (by kernel_rfl) (by simp) ?_
              refine AllReadyH.cons rfl (fun K hK => ?_) AllReadyH.nil
              go_simp
              refine (HMl.out _).mono ?_
              rintro e w9 ⟨rfl, hbc⟩
              have hb9 : Below wr.heap.size wr w9 := hb8.trans (hbc.mono hb8.size)
              dsimp only
              refine hK.out _ _ (HS.out _ hb9) (fun _ => ?_)
              clear hK K hbc
              try simp only [Act.put, List.getElem_toArray, List.getElem_cons_zero, List.getElem_cons_succ, List.setIfInBounds_toArray, List.set_cons_zero, List.set_cons_succ]
              refine wpAnyH_ready (rs := [19]) (by kernel_rfl) (by simp) ?_
              refine AllReadyH.cons rfl (fun K hK => ?_) AllReadyH.nil
              go_simp
              refine (HC1.out _).mono ?_
              rintro e w10 ⟨rfl, hbc⟩
              have hb10 : Below wr.heap.size wr w10 := hb9.trans (hbc.mono hb9.size)
              dsimp only
              refine hK.out _ _ (HS.out _ hb10) (fun _ => ?_)
              clear hK K hbc
              refine wpAnyH_take (i := 20) (v := ?_) rfl (by kernel_rfl) (by kernel_rfl) (by kernel_rfl) (fun _ _ _ h => h) (Or.inl ⟨by rfl, ?_⟩) (HS.out _ hb10) ?_
              rotate_left 1
              next => intro w hSw; rw [hSe] at hSw; obtain ⟨s1, s2, s3, s4⟩ := hSw; go_simp; try with_reducible rfl
              try simp only [Act.put, List.getElem_toArray, List.getElem_cons_zero, List.getElem_cons_succ, List.setIfInBounds_toArray, List.set_cons_zero, List.set_cons_succ]
              refine wpAnyH_take (i := 21) (v := ?_) rfl (by kernel_rfl) (by kernel_rfl) (by kernel_rfl) (fun _ _ _ h => h) (Or.inl ⟨by rfl, ?_⟩) (HS.out _ hb10) ?_
              rotate_left 1
              next => intro w hSw; rw [hSe] at hSw; obtain ⟨s1, s2, s3, s4⟩ := hSw; go_simp; try with_reducible rfl
              try simp only [Act.put, List.getElem_toArray, List.getElem_cons_zero, List.getElem_cons_succ, List.setIfInBounds_toArray, List.set_cons_zero, List.set_cons_succ]
              refine wpAnyH_done (by kernel_rfl) ?_ _
              have F1 := Lib.hid (HE.out _ hb10).1
              go_wp2_with fail
              go_roundw
              case rel => exact ⟨i + 1, by omega, by go_num, HN2, F1⟩
              case measure => simp [intOf]; omega
        · have i3 : ¬ (i : Int) < (N : Int) := by omega
          have HR := Lib.hid (HT.out (fun s hs => HN.out s (by omega)))
          have Hbw := Lib.hid hbw
          clear hbw
          go_wp2
          go_ret
          try rw [← Hg0.out]
          exact ⟨by rw [← HR.out]; rfl, Hbw.out⟩
end Go.Proofs.YtlaoijfphkhchaaGreat
