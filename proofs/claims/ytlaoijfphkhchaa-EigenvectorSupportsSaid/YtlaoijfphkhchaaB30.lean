/- eigenvector: greatest, Greatest, Check. -/
import Derived.Test.YtlaoijfphkhchaaB29
namespace Go.Proofs.Ytlaoijfphkhchaa
open Go.RowKit Go.Shelf
/-- What greatest answers: the greatest vector below v that has the property, in a row of its own. -/
def RetGr (fr te : Nat → Nat) (n N m : Nat) (v : Nat → Int) (w : World) (e : Ending) (w' : World) : Prop := ∃ u, GrO fr te n N m v u ∧ RetVecO N u w e w'
/-- Between two rounds: nothing with the property is lost. -/
def InG (fr te : Nat → Nat) (n N m : Nat) (v x : Nat → Int) : Prop := (∀ s, s < N → 0 ≤ x s ∧ x s ≤ v s) ∧ ∀ y, Hld fr te n N m y → (∀ s, s < N → y s ≤ v s) → ∀ s, s < N → y s ≤ x s
theorem InG.step {fr te : Nat → Nat} {n N m : Nat} {v x : Nat → Int} (h : InG fr te n N m v x) (hm : 0 < m) (ht : ∀ e, e < n → te e < N) : InG fr te n N m v (stE fr te n m x) :=
  ⟨fun s hs => ⟨stE_nonneg ht (fun s hs => (h.1 s hs).1) hs, Int.le_trans (stE_le x s) (h.1 s hs).2⟩, fun y hy hl => stE_keep hm ht hy (h.2 y hy hl)⟩
theorem InG.last {fr te : Nat → Nat} {n N m : Nat} {v x : Nat → Int} (h : InG fr te n N m v x) (hm : 0 < m) (hf : ∀ s, s < N → stE fr te n m x s = x s) : GrO fr te n N m v x :=
  ⟨fun s hs => (h.1 s hs).2, stE_fix hm (fun s hs => (h.1 s hs).1) hf, h.2⟩
def mn2 (a b : Int) : Int := if b < a then b else a
theorem min2 {P : Program} (ts : Array TypeId) (t : TypeId) (w : World) (a b : Int) : (Builtin.min_ ts t #[.int .i64 a, .int .i64 b]).run P w = .ok (.int .i64 (mn2 a b)) w := rfl
set_option maxRecDepth 100000 in
set_option maxHeartbeats 8000000 in
theorem greatest_any (LL : Int) (N n m : Nat) (E : Nat → Nat → Int) (p : Option Addr) (c : Nat) (v : Nat → Int) (pv : Option Addr) (cv : Nat) (hN : N ≤ 1000000) (hn : n ≤ 1000000) (hm0 : 0 < m) (hm : m ≤ 256) (hok : EdOk N n E) (hv : ∀ s, s < N → 0 ≤ v s ∧ v s ≤ 1000000) (w : World) (hE : EdgAt w p n E) (hV : VRow w pv N v) :
    Calls Try.prog 58 #[.agg #[.int .i64 LL, .int .i64 (N : Int), .slice p n c], .slice pv N cv, .int .i64 (m : Int)] w (RetGr (frE E) (toE E) n N m v w) := by
  have ht : ∀ e, e < n → toE E e < N := fun e he => (edOk_nat hok e he).2.2.2
  obtain ⟨W0, hW0⟩ : ∃ W, w.alloc (.cells #[.int .i64 LL, .int .i64 (N : Int), .slice p n c] 24) = W := ⟨_, rfl⟩
  have hb0 : Below w.heap.size w W0 := by rw [← hW0]; exact (Below.refl _ _).alloc (Nat.le_refl _) _
  have hbx : BoxAt3 W0 w.heap.size (.int .i64 LL) (.int .i64 (N : Int)) (.slice p n c) := by rw [← hW0]; exact BoxAt3.new w _ _ _ _
  have hE0 : EdgAt W0 p n E := hE.mono (Nat.le_refl _) hb0
  have HCl := Lib.hid (clone_any N pv cv v hN W0 (hV.below (Nat.le_refl _) hb0))
  have HB : Hid (∀ W, Below W0.heap.size W0 W → BoxAt3 W w.heap.size (.int .i64 LL) (.int .i64 (N : Int)) (.slice p n c) ∧ Below w.heap.size w W) := Lib.hid (fun W hW => ⟨hbx.below hW, hb0.trans (hW.mono hb0.size)⟩)
  have HSu := Lib.hid (show ∀ (W : World) (x : Nat → Int) (q : Option Addr) (cq : Nat), Below W0.heap.size W0 W → (∀ s, s < N → 0 ≤ x s ∧ x s ≤ v s) → VRow W q N x → Calls Try.prog 63 #[.agg #[.int .i64 LL, .int .i64 (N : Int), .slice p n c], .slice q N cq, .func (.func 64) #[] #[]] W (RetVecB N (smE (frE E) (toE E) x n) W) from fun W x q cq hW hx hq =>
    sums_any LL N n E p c x q cq hN hn hok (fun s hs => ⟨(hx s hs).1, Int.le_trans (hx s hs).2 (hv s hs).2⟩) W (hE0.mono (Nat.le_refl _) hW) hq)
  have HI : Hid (InG (frE E) (toE E) n N m v v) := Lib.hid ⟨fun s hs => ⟨(hv s hs).1, Int.le_refl _⟩, fun _ _ hl => hl⟩
  have Hv := Lib.hid hv
  have Ht := Lib.hid ht
  have Hsm : Hid (∀ x : Nat → Int, (∀ s, s < N → 0 ≤ x s ∧ x s ≤ v s) → ∀ s, 0 ≤ smE (frE E) (toE E) x n s ∧ smE (frE E) (toE E) x n s ≤ 1000000000000) := Lib.hid (fun x hx s => by
    refine ⟨smE_nonneg ht (fun s hs => (hx s hs).1) s, ?_⟩
    have := smE_le (B := 1000000) (by omega) ht (fun s hs => Int.le_trans (hx s hs).2 (hv s hs).2) (fr := frE E) s
    omega)
  obtain ⟨_, c0, c1, c2⟩ := hbx
  have hsz : w.heap.size ≤ W0.heap.size := hb0.size
  have m1 : (1 : Int) ≤ (m : Int) := by omega
  clear hE hE0 hV hb0 hok hv ht
  go_enter Try.func58, Try.ntmps58
  go_wp2_with fail
  try rw [hW0]
  refine HCl.out.mono ?_
  rintro e W1 ⟨q, cq, rfl, hq, hb⟩
  dsimp only
  have Hq : Hid (VOwn W1 w.heap.size q N v) := Lib.hid (hq.base hsz)
  have Hb := Lib.hid hb
  clear hq hb HCl c0 c1 c2 hW0
  go_wp2_with fail
  go_loopg [1] (szE v N) (fun g vv wr => ∃ q cq x, vv = .slice q N cq ∧ Hid (VOwn wr w.heap.size q N x) ∧ Hid (InG (frE E) (toE E) n N m v x) ∧ szE x N ≤ g ∧ Hid (Below W0.heap.size W0 wr))
  case atStart => exact ⟨q, cq, v, rfl, Hq, HI, Nat.le_refl _, Hb⟩
  case round =>
    clear Hq Hb HI
    obtain ⟨q, cq, x, rfl, Hq, HI, hg, Hb⟩ := hrel
    have hsu := HSu.out wr x q cq Hb.out HI.out.1 Hq.out.row
    obtain ⟨⟨_, z0, z1, z2⟩, _⟩ := HB.out _ Hb.out
    go_wp2_with fail
    refine hsu.mono ?_
    rintro e w2 ⟨g1, rfl, hz, hg1, hb2⟩
    dsimp only
    have HQ : Hid (∀ W, Below g1 w2 W → VOwn W w.heap.size q N x ∧ Below W0.heap.size W0 W) := Lib.hid (fun W hW => by
      have h3 : Below wr.heap.size wr W := hb2.trans (hW.mono hg1)
      exact ⟨Hq.out.below (Nat.le_refl _) h3, Hb.out.trans (h3.mono Hb.out.size)⟩)
    have Hz : Hid (VAt w2 g1 N (fun s => if s < 0 then stE (frE E) (toE E) n m x s else smE (frE E) (toE E) x n s)) := Lib.hid (hz.congr fun s _ => (if_neg (Nat.not_lt_zero _)).symm)
    have Hb2 : Hid (Below g1 w2 w2) := Lib.hid (Below.refl _ _)
    have hwg : w.heap.size ≤ g1 := Nat.le_trans hsz (Nat.le_trans Hb.out.size hg1)
    have Hg := Lib.hid hg
    have Hlt : Hid (∀ gv : Nat, q = some ⟨gv, 0, none⟩ → 0 < N → gv < g1) := Lib.hid (fun gv hgv h0 => by
      rcases Hq.out with h | ⟨gv', he, _, h3⟩
      · omega
      · rw [hgv] at he; cases he; exact Nat.lt_of_lt_of_le h3.1 hg1)
    clear hsu hz hg1 hb2 Hq Hb z0 z1 z2 hg
    go_wp2_with fail
    go_loopw [16] (fun tv wr => ∃ i : Nat, i ≤ N ∧ tv = .int .i64 (i : Nat) ∧ Hid (VAt wr g1 N (fun s => if s < i then stE (frE E) (toE E) n m x s else smE (frE E) (toE E) x n s)) ∧ Hid (Below g1 w2 wr)) (fun tv _ => N - (intOf tv).toNat)
    case atStart => exact ⟨0, by omega, by go_num, Hz, Hb2⟩
    case round =>
      clear Hz Hb2
      obtain ⟨i, hi, rfl, Hz, Hb2⟩ := hrel
      by_cases hil : i < N
      · have i3 : (i : Int) < (N : Int) := by omega
        have i4 : (0 : Int) ≤ (i : Int) := by omega
        obtain ⟨hvo, _⟩ := HQ.out wr Hb2.out
        obtain ⟨vb, vo, he, hvb, hvc⟩ := VRow.cells hvo.row hil
        have y0 := hvc i hil
        have hne : vb ≠ g1 ∧ vo = 0 := by
          rcases hvo with h | ⟨gv, hgv, h2, h3⟩
          · omega
          · have hl := Hlt.out gv hgv (by omega)
            rw [hgv] at he
            cases he
            exact ⟨by omega, rfl⟩
        have hs0 := Hsm.out x HI.out.1 i
        have hx0 := (HI.out.1 i hil).1
        have hst : stE (frE E) (toE E) n m x i = mn2 (x i) (smE (frE E) (toE E) x n i / (m : Int)) := rfl
        obtain ⟨xi, hxi⟩ : ∃ z, x i = z := ⟨_, rfl⟩
        obtain ⟨si, hsi⟩ : ∃ z, smE (frE E) (toE E) x n i = z := ⟨_, rfl⟩
        rw [hxi] at y0 hst hx0
        rw [hsi] at hs0 hst
        obtain ⟨si0, si1⟩ := hs0
        have hq0 : 0 ≤ si / (m : Int) := Int.ediv_nonneg si0 (by omega)
        have hq1 : si / (m : Int) ≤ si := Int.ediv_le_self _ si0
        have hqw : IntKind.i64.wrap (si.tdiv (m : Int)) = si / (m : Int) := by
          rw [Int.tdiv_eq_ediv_of_nonneg si0]; exact IntWalk.i64_in _ (by omega)
        have hmz : ¬ m = 0 := by omega
        obtain ⟨qv, hqv⟩ : ∃ z, si / (m : Int) = z := ⟨_, rfl⟩
        rw [hqv] at hqw hst hq0 hq1
        have Hst := Lib.hid hst
        have Hsi := Lib.hid hsi
        have HZZ : Hid (∀ W, Below wr.heap.size wr W → VAt W g1 N (fun s => if s < i then stE (frE E) (toE E) n m x s else smE (frE E) (toE E) x n s) ∧ Below g1 w2 W) := Lib.hid (fun W hW => ⟨Hz.out.below hW Hz.out.1, Hb2.out.trans (hW.mono (Nat.le_of_lt Hz.out.1))⟩)
        obtain ⟨SS, hSe⟩ : ∃ SS : World → Prop, SS = fun W => W.cell? ⟨vb, vo + i, none⟩ = some (.int .i64 xi) := ⟨_, rfl⟩
        have HS : Hid (∀ W, Below wr.heap.size wr W → SS W) := Lib.hid (fun W hW => by rw [hSe]; exact cell_below hW y0)
        have hd : Below wr.heap.size wr wr.drew := (Below.refl _ _).drew
        subst he
        have Hne := Lib.hid hne.1
        clear hvo hvc y0 hne hxi hst hsi Hz Hb2 hvb hqv
        go_upto_region 6 with (fail)
        have hmin := @min2 Try.prog
        refine wp_region_held_drew (S := SS) (by kernel_rfl) (HS.out _ hd) (fun hSS => ?_)
        refine wpAnyH_take (i := 0) (v := ?_) rfl (by kernel_rfl) (by kernel_rfl) (by kernel_rfl) (fun _ _ _ h => h) (Or.inl ⟨by rfl, ?_⟩) (HS.out _ hd) ?_
        rotate_left 1
        next => intro w hSw; rw [hSe] at hSw; have s1 := hSw; go_simp; try with_reducible rfl
        try simp only [Act.put, List.getElem_toArray, List.getElem_cons_zero, List.getElem_cons_succ, List.setIfInBounds_toArray, List.set_cons_zero, List.set_cons_succ]
        refine wpAnyH_take (i := 1) (v := ?_) rfl (by kernel_rfl) (by kernel_rfl) (by kernel_rfl) (fun _ _ _ h => h) (Or.inl ⟨by rfl, ?_⟩) (HS.out _ hd) ?_
        rotate_left 1
        next => intro w hSw; rw [hSe] at hSw; have s1 := hSw; go_simp; try with_reducible rfl
        try simp only [Act.put, List.getElem_toArray, List.getElem_cons_zero, List.getElem_cons_succ, List.setIfInBounds_toArray, List.set_cons_zero, List.set_cons_succ]
        refine wpAnyH_take (i := 2) (v := ?_) rfl (by kernel_rfl) (by kernel_rfl) (by kernel_rfl) (fun _ _ _ h => h) (Or.inl ⟨by rfl, ?_⟩) (HS.out _ hd) ?_
        rotate_left 1
        next => intro w hSw; rw [hSe] at hSw; have s1 := hSw; go_simp; try with_reducible rfl
        try simp only [Act.put, List.getElem_toArray, List.getElem_cons_zero, List.getElem_cons_succ, List.setIfInBounds_toArray, List.set_cons_zero, List.set_cons_succ]
        refine wpAnyH_take (i := 3) (v := ?_) rfl (by kernel_rfl) (by kernel_rfl) (by kernel_rfl) (fun _ _ _ h => h) (Or.inl ⟨by rfl, ?_⟩) (HS.out _ hd) ?_
        rotate_left 1
        next => intro w hSw; rw [hSe] at hSw; have s1 := hSw; go_simp; try with_reducible rfl
        try simp only [Act.put, List.getElem_toArray, List.getElem_cons_zero, List.getElem_cons_succ, List.setIfInBounds_toArray, List.set_cons_zero, List.set_cons_succ]
        refine wpAnyH_take (i := 4) (v := ?_) rfl (by kernel_rfl) (by kernel_rfl) (by kernel_rfl) (fun _ _ _ h => h) (Or.inl ⟨by rfl, ?_⟩) (HS.out _ hd) ?_
        rotate_left 1
        next => intro w hSw; rw [hSe] at hSw; have s1 := hSw; go_simp; try with_reducible rfl
        try simp only [Act.put, List.getElem_toArray, List.getElem_cons_zero, List.getElem_cons_succ, List.setIfInBounds_toArray, List.set_cons_zero, List.set_cons_succ]
        refine wpAnyH_take (i := 5) (v := ?_) rfl (by kernel_rfl) (by kernel_rfl) (by kernel_rfl) (fun _ _ _ h => h) (Or.inl ⟨by rfl, ?_⟩) (HS.out _ hd) ?_
        rotate_left 1
        next => intro w hSw; rw [hSe] at hSw; have s1 := hSw; go_simp; try with_reducible rfl
        try simp only [Act.put, List.getElem_toArray, List.getElem_cons_zero, List.getElem_cons_succ, List.setIfInBounds_toArray, List.set_cons_zero, List.set_cons_succ]
        refine wpAnyH_take (i := 6) (v := ?_) rfl (by kernel_rfl) (by kernel_rfl) (by kernel_rfl) (fun _ _ _ h => h) (Or.inl ⟨by rfl, ?_⟩) (HS.out _ hd) ?_
        rotate_left 1
        next => intro w hSw; rw [hSe] at hSw; have s1 := hSw; go_simp; try with_reducible rfl
        try simp only [Act.put, List.getElem_toArray, List.getElem_cons_zero, List.getElem_cons_succ, List.setIfInBounds_toArray, List.set_cons_zero, List.set_cons_succ]
        refine wpAnyH_take (i := 7) (v := ?_) rfl (by kernel_rfl) (by kernel_rfl) (by kernel_rfl) (fun _ _ _ h => h) (Or.inl ⟨by rfl, ?_⟩) (HS.out _ hd) ?_
        rotate_left 1
        next => intro w hSw; rw [hSe] at hSw; have s1 := hSw; go_simp; try with_reducible rfl
        try simp only [Act.put, List.getElem_toArray, List.getElem_cons_zero, List.getElem_cons_succ, List.setIfInBounds_toArray, List.set_cons_zero, List.set_cons_succ]
        refine wpAnyH_take (i := 8) (v := ?_) rfl (by kernel_rfl) (by kernel_rfl) (by kernel_rfl) (fun _ _ _ h => h) (Or.inl ⟨by rfl, ?_⟩) (HS.out _ hd) ?_
        rotate_left 1
        next => intro w hSw; rw [hSe] at hSw; have s1 := hSw; go_simp; try with_reducible rfl
        try simp only [Act.put, List.getElem_toArray, List.getElem_cons_zero, List.getElem_cons_succ, List.setIfInBounds_toArray, List.set_cons_zero, List.set_cons_succ]
        refine wpAnyH_take (i := 10) (v := ?_) rfl (by kernel_rfl) (by kernel_rfl) (by kernel_rfl) (fun _ _ _ h => h) (Or.inl ⟨by rfl, ?_⟩) (HS.out _ hd) ?_
        rotate_left 1
        next => intro w hSw; rw [hSe] at hSw; have s1 := hSw; go_simp; try with_reducible rfl
        try simp only [Act.put, List.getElem_toArray, List.getElem_cons_zero, List.getElem_cons_succ, List.setIfInBounds_toArray, List.set_cons_zero, List.set_cons_succ]
        try simp only [Act.put, List.getElem_toArray, List.getElem_cons_zero, List.getElem_cons_succ, List.setIfInBounds_toArray, List.set_cons_zero, List.set_cons_succ]
        refine wpAnyH_ready (rs := [9]) (by kernel_rfl) (by simp) ?_
        refine AllReadyH.cons rfl (fun K hK => ?_) AllReadyH.nil
        obtain ⟨hv1, _⟩ := HZZ.out _ hd
        obtain ⟨z0, z1⟩ := hv1.2 i hil
        dsimp only at z0
        rw [if_neg (Nat.lt_irrefl i), Hsi.out] at z0
        go_simp
        refine hK.out _ _ (HS.out _ hd) (fun _ => ?_)
        clear hK K z0 z1 hv1
        refine wpAnyH_take (i := 11) (v := ?_) rfl (by kernel_rfl) (by kernel_rfl) (by kernel_rfl) (fun _ _ _ h => h) (Or.inl ⟨by rfl, ?_⟩) (HS.out _ hd) ?_
        rotate_left 1
        next => intro w hSw; rw [hSe] at hSw; have s1 := hSw; go_simp; try with_reducible rfl
        try simp only [Act.put, List.getElem_toArray, List.getElem_cons_zero, List.getElem_cons_succ, List.setIfInBounds_toArray, List.set_cons_zero, List.set_cons_succ]
        try simp only [Act.put, List.getElem_toArray, List.getElem_cons_zero, List.getElem_cons_succ, List.setIfInBounds_toArray, List.set_cons_zero, List.set_cons_succ]
        refine wpAnyH_ready (rs := [12]) (by kernel_rfl) (by simp) ?_
        refine AllReadyH.cons rfl (fun K hK => ?_) AllReadyH.nil
        go_simp
        refine hK.out _ _ (HS.out _ hd) (fun _ => ?_)
        clear hK K
        refine wpAnyH_take (i := 13) (v := ?_) rfl (by kernel_rfl) (by kernel_rfl) (by kernel_rfl) (fun _ _ _ h => h) (Or.inl ⟨by rfl, ?_⟩) (HS.out _ hd) ?_
        rotate_left 1
        next => intro w hSw; rw [hSe] at hSw; have s1 := hSw; go_simp; try with_reducible rfl
        try simp only [Act.put, List.getElem_toArray, List.getElem_cons_zero, List.getElem_cons_succ, List.setIfInBounds_toArray, List.set_cons_zero, List.set_cons_succ]
        try simp only [Act.put, List.getElem_toArray, List.getElem_cons_zero, List.getElem_cons_succ, List.setIfInBounds_toArray, List.set_cons_zero, List.set_cons_succ]
        refine wpAnyH_ready (rs := [14]) (by kernel_rfl) (by simp) ?_
        refine AllReadyH.cons rfl (fun K hK => ?_) AllReadyH.nil
        obtain ⟨hv1, hv2⟩ := HZZ.out _ hd
        obtain ⟨z0, z1⟩ := hv1.2 i hil
        have hss := HS.out _ hd
        have hs2 : SS (wr.drew.setCell ⟨g1, i, none⟩ (.int .i64 (mn2 xi qv))) := by
          rw [hSe] at hss ⊢
          dsimp only at hss ⊢
          rw [World.cell?_setCell_other _ _ _ _ (by intro hh; injection hh with h1 _; exact Hne.out (by first | exact h1 | exact h1.symm))]
          exact hss
        have F1 : Hid (VAt (wr.drew.setCell ⟨g1, i, none⟩ (.int .i64 (mn2 xi qv))) g1 N (fun s => if s < i + 1 then stE (frE E) (toE E) n m x s else smE (frE E) (toE E) x n s)) := Lib.hid ((hv1.set (k := i) _).congr fun k _ => by
          by_cases e : k = i
          · rw [if_pos e, if_pos (by omega), e, Hst.out]
          · rw [if_neg e]
            by_cases e2 : k < i
            · rw [if_pos e2, if_pos (by omega)]
            · rw [if_neg e2, if_neg (by omega)])
        have F2 := Lib.hid (hv2.setCell (p := ⟨g1, i, none⟩) (Nat.le_refl _) (.int .i64 (mn2 xi qv)))
        go_simp
        refine hK.out _ _ hs2 (fun _ => ?_)
        clear hK K z0 z1 hss hs2 hv1 hv2
        refine wpAnyH_done (by kernel_rfl) ?_ _
        clear hmin hqw
        go_wp2_with fail
        go_roundw
        case rel => exact ⟨i + 1, by omega, by go_num, F1, F2⟩
        case measure => simp [intOf]; omega
      · have i3 : ¬ (i : Int) < (N : Int) := by omega
        have hie : i = N := by omega
        rw [hie] at Hz
        have Hz2 : Hid (VAt wr g1 N (stE (frE E) (toE E) n m x)) := Lib.hid (Hz.out.congr fun s hs => if_pos hs)
        obtain ⟨hvo, hbw⟩ := HQ.out wr Hb2.out
        have HEq := Lib.hid (sameV_any N (stE (frE E) (toE E) n m x) x (some ⟨g1, 0, none⟩) q N cq wr Hz2.out.row hvo.row (by omega))
        have Hvo := Lib.hid hvo
        have Hbw := Lib.hid hbw
        clear hie Hz hvo hbw HQ Hb2
        by_cases hf : ∀ s, s < N → stE (frE E) (toE E) n m x s = x s
        · have ha : anyN (fun k => stE (frE E) (toE E) n m x k != x k) N = false := anyN_false.2 fun k hk => by rw [hf k hk]; exact bne_self_eq_false _
          rw [ha] at HEq
          have Hl := Lib.hid (HI.out.last hm0 hf)
          clear ha hf
          go_wp2_with fail
          refine HEq.out.mono ?_
          rintro e w3 ⟨rfl, hb3⟩
          dsimp only
          have Hvo3 := Lib.hid (Hvo.out.below (Nat.le_refl _) hb3)
          have Hbw3 := Lib.hid (Hbw.out.trans (hb3.mono Hbw.out.size))
          clear hb3 HEq Hvo Hbw
          go_wp2
          go_ret
          exact ⟨x, Hl.out, q, cq, rfl, Hvo3.out, (HB.out _ Hbw3.out).2⟩
        · have ha : anyN (fun k => stE (frE E) (toE E) n m x k != x k) N = true := by
            refine anyN_true.2 (Classical.byContradiction fun hn => hf fun s hs => Classical.byContradiction fun hne => hn ⟨s, hs, ?_⟩)
            rw [bne_iff_ne]; exact hne
          rw [ha] at HEq
          have hless := stE_less Ht.out (fun s hs => (HI.out.1 s hs).1) hf
          have HL := Lib.hid (Nat.lt_of_lt_of_le hless Hg.out)
          have HI2 := Lib.hid (HI.out.step hm0 Ht.out)
          clear ha hf hless Hg
          go_wp2_with fail
          refine HEq.out.mono ?_
          rintro e w3 ⟨rfl, hb3⟩
          dsimp only
          have Hvo3 : Hid (VOwn w3 w.heap.size (some ⟨g1, 0, none⟩) N (stE (frE E) (toE E) n m x)) := Lib.hid (.inr ⟨g1, rfl, hwg, Hz2.out.below hb3 Hz2.out.1⟩)
          have Hbw3 := Lib.hid (Hbw.out.trans (hb3.mono Hbw.out.size))
          clear hb3 HEq Hvo Hbw
          go_wp2_with fail
          go_roundg (szE (stE (frE E) (toE E) n m x) N)
          case measure => exact HL.out
          case rel => exact ⟨_, _, _, rfl, Hvo3, HI2, Nat.le_refl _, Hbw3⟩
end Go.Proofs.Ytlaoijfphkhchaa
