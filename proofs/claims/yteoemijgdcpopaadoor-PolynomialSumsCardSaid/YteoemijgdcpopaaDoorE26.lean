/- polynomial.derivative, Derivative, large, Divide, Gcd, Squarefree: the walks. -/
import Derived.Test.YteoemijgdcpopaaDoorE25
namespace Go.Proofs.YteoemijgdcpopaaDoor
open Go.RowKit Go.Shelf

theorem step_append_z1 {ops : Array Oper} {o : Oper} {a : Act} {w : World} {K : Act → World → Prop} {Q : Exit → Act → World → Prop} {E : Prop} (hgd : o.guard = none) (s x : Operand)
    (hop : o.op = .call { callee := .builtin .append, args := #[s, x], argTypes := #[22, 22] })
    (base : Nat) (v : Value) (xs : List Int) (hs : a.eval s = v) (hown : OwnZ w base v xs) (g c : Nat) (y : Int) (hx : a.eval x = .slice (some ⟨g, 0, none⟩) 1 c)
    (h0 : w.cell? ⟨g, 0, none⟩ = some (.bool (canon y).neg)) (h1 : w.cell? ⟨g, 1, none⟩ = some (.string (canon y).mag)) (hn : xs.length < 1000000000) (hbase : base ≤ w.heap.size)
    (h : ∀ v' w', OwnZ w' base v' (xs ++ [y]) → w.grownBy w' v.ownBlock → K (a.put o.dst v') w') :
    if Region.wanted o (yielded ops a.tmps) = true then Oper.wp Tryd.prog o a w K Q else E := by
  have hw : Region.wanted o (yielded ops a.tmps) = true := by simp [Region.wanted, hgd]
  rw [if_pos hw]
  obtain ⟨i0, hi, hzz⟩ := Option.map_eq_some_iff.1 zInfo
  simp only [Prod.mk.injEq] at hzz
  obtain ⟨hz0, hz1, hz2⟩ := hzz
  refine wp_append_own w s x _ hop base 35 i0 (.agg #[.bool false, .string ⟨#[]⟩]) 2 24 Tryd.underlying22 hi hz0 hz1 hz2 rfl (by decide) v xs.length (zL xs) hs hown ⟨g, 0, none⟩ 1 c (zL [y]) hx rfl ?_ (zL_one [y]) ?_ ?_ hbase ?_
  · intro j u hj
    match j, hj with
    | 0, hj => simp [zL] at hj; subst hj; simpa [Addr.add] using h0
    | 1, hj => simp [zL] at hj; subst hj; simpa [Addr.add] using h1
  · unfold maxLen; omega
  · omega
  · intro v' w' h3 h4 _
    exact h v' w' (by unfold OwnZ; rw [List.length_append, zL_append]; exact h3) h4
/-- The coefficients of the derivative. -/
def deC (f : Nat → Int) (k : Nat) : Int := f (k + 1) * ((k : Int) + 1)
theorem deC_bn {f : Nat → Int} {e : Nat} (hf : ∀ k, Bn (f k) e) {k : Nat} (hk : k < 1000) : Bn (deC f k) (e + 10) := by
  unfold deC
  refine Bn.mul (hf _) ?_
  show ((k : Int) + 1).natAbs ≤ 2 ^ 10
  omega
set_option maxRecDepth 100000 in
set_option maxHeartbeats 8000000 in
theorem deriv_any (n : Nat) (f : Nat → Int) (p : Option Addr) (c : Nat) {e : Nat} (hn : n ≤ 1000) (he : e ≤ 100000000) (hf : ∀ k, Bn (f k) e) (w : World) (hX : RowF w p n f) :
    Calls Tryd.prog 65 #[.slice p n c] w (RetPol (n - 1) (deC f) w) := by
  have HX := Lib.hid hX
  have Hf := Lib.hid hf
  clear hX hf
  go_enter Tryd.func65, Tryd.ntmps65
  go_wp2_with fail
  go_loopw [3, 8] (fun ov iv wr => ∃ i : Nat, i ≤ n ∧ iv = .int .i64 (i : Nat) ∧ Hid (OwnZ wr w.heap.size ov (zsF (deC f) (i - 1))) ∧ Hid (Below w.heap.size w wr)) (fun _ iv _ => n - (intOf iv).toNat)
  case atStart => exact ⟨0, by omega, by go_num, Lib.hid (World.ownsRow_nil _ _ _ _), Lib.hid (Below.refl _ _)⟩
  case round =>
    obtain ⟨i, hi, rfl, HO, HB⟩ := hrel
    by_cases hil : i < n
    · have i0 : (0 : Int) ≤ (i : Int) := by omega
      have i1 : (i : Int) < (n : Int) := by omega
      obtain ⟨pb, po, rfl, hpl, hpc⟩ := RowF.cells HX.out hil
      obtain ⟨a0, a1⟩ := hpc i hil
      have a0 := (HB.out.cell (p := ⟨pb, po + i * 2, none⟩) hpl).trans a0
      have a1 := (HB.out.cell (p := ⟨pb, po + i * 2 + 1, none⟩) hpl).trans a1
      have hpw : pb < wr.heap.size := Nat.lt_of_lt_of_le hpl HB.out.size
      obtain ⟨CX, hCX⟩ : ∃ z, canon (f i) = z := ⟨_, rfl⟩
      rw [hCX] at a0 a1
      have HCX := Lib.hid hCX
      clear hpc hpl hCX
      by_cases hz : i = 0
      · have k0 : decide ((i : Int) > 0) = false := by rw [decide_eq_false_iff_not]; omega
        have k1 : decide (0 < i) = false := by rw [decide_eq_false_iff_not]; omega
        have k2 : ¬ (i : Int) > 0 := by omega
        have HO2 : Hid (OwnZ wr w.heap.size u3 (zsF (deC f) (i + 1 - 1))) := Lib.hid (by
          have h := HO.out
          rw [show i - 1 = i + 1 - 1 from by omega] at h
          exact h)
        clear hz HO
        go_upto_region 5 with (fail)
        clear a0 a1 hpw
        have hal := (Below.refl wr.heap.size wr).alloc (Nat.le_refl _) (.cells #[.bool CX.neg, .string CX.mag] 35)
        have HO3 := Lib.hid (HO2.out.below (Nat.le_refl _) hal)
        have HB3 := Lib.hid (HB.out.trans (hal.mono HB.out.size))
        clear hal HO2 HB
        generalize wr.alloc (.cells #[.bool CX.neg, .string CX.mag] 35) = V at *
        go_wp2_with fail
        go_roundw
        case rel => exact ⟨i + 1, by omega, by go_num, HO3, HB3⟩
        case measure => simp [intOf]; omega
      · have k0 : decide ((i : Int) > 0) = true := by rw [decide_eq_true_eq]; omega
        have k1 : decide (0 < i) = true := by rw [decide_eq_true_eq]; omega
        have k2 : (i : Int) > 0 := by omega
        have hof := fun W => of_any (i : Int) (by omega) (by omega) W
        have hmu := fun W => mulc_any (f i) (i : Int) ((Hf.out i).size 100000000 (by omega)) (Bn.size (e := 10) (show (i : Int).natAbs ≤ 2 ^ 10 by omega) 100000000 (by omega)) W
        have hde : deC f (i - 1) = f i * (i : Int) := by unfold deC; rw [show i - 1 + 1 = i from by omega, show ((i - 1 : Nat) : Int) + 1 = (i : Int) from by omega]
        have Hnx : Hid (zsF (deC f) (i + 1 - 1) = zsF (deC f) (i - 1) ++ [f i * (i : Int)]) := Lib.hid (by
          rw [show i + 1 - 1 = i - 1 + 1 from by omega, zsF_snoc, hde])
        obtain ⟨y, hy⟩ : ∃ y, f i * (i : Int) = y := ⟨_, rfl⟩
        obtain ⟨CI, hCI⟩ : ∃ z, canon (i : Int) = z := ⟨_, rfl⟩
        obtain ⟨CY, hCY⟩ : ∃ z, canon y = z := ⟨_, rfl⟩
        rw [hCI] at hof
        rw [hy, hCI, hCY, HCX.out] at hmu
        rw [hy] at Hnx
        have HOf := Lib.hid hof
        have HMu := Lib.hid hmu
        have HCY := Lib.hid hCY
        have HL : Hid ((zsF (deC f) (i - 1)).length < 1000000000) := Lib.hid (by rw [zsF_len]; omega)
        clear hof hmu hde hy hCI hCY hz
        go_upto_region 6 with (fail)
        clear a0 a1 hpw
        have hal := (Below.refl wr.heap.size wr).alloc (Nat.le_refl _) (.cells #[.bool CX.neg, .string CX.mag] 35)
        have hbx := BoxAt.new wr (.bool CX.neg) (.string CX.mag) 35
        have HO3 := Lib.hid (HO.out.below (Nat.le_refl _) hal)
        have HB3 := Lib.hid (HB.out.trans (hal.mono HB.out.size))
        obtain ⟨gx, hgx⟩ : ∃ k, wr.heap.size = k := ⟨_, rfl⟩
        have Hown := Lib.hid (show ∀ k, u3.ownBlock = some k → k < gx from fun k hk => by rw [← hgx]; exact (HO.out.lt k hk).2)
        rw [hgx] at hbx ⊢
        clear hal HO HB hgx
        generalize wr.alloc (.cells #[.bool CX.neg, .string CX.mag] 35) = X at *
        obtain ⟨SS, hSe⟩ : ∃ SS : World → Prop, SS = fun W => W.cell? ⟨gx, 0, none⟩ = some (.bool CX.neg) ∧ W.cell? ⟨gx, 1, none⟩ = some (.string CX.mag) := ⟨_, rfl⟩
        have HS : Hid (∀ W, Below X.heap.size X W → SS W) := Lib.hid (fun W hW => by
          obtain ⟨d0, d1, _, _, _⟩ := hbx
          rw [hSe]; exact ⟨cell_below hW d0, cell_below hW d1⟩)
        have hd : Below X.heap.size X X.drew := (Below.refl _ _).drew
        have hgxl : gx < X.heap.size := hbx.2.2.2.2
        clear hbx
        refine wp_region_held_drew (S := SS) (by kernel_rfl) (HS.out _ hd) (fun hSS => ?_)
        refine wpAnyH_take (i := 0) (v := ?_) rfl (by kernel_rfl) (by kernel_rfl) (by kernel_rfl) (fun _ _ _ h => h) (Or.inl ⟨by rfl, ?_⟩) (HS.out _ hd) ?_
        rotate_left 1
        next => intro w hSw; rw [hSe] at hSw; obtain ⟨s1, s2⟩ := hSw; go_simp; try with_reducible rfl
        try simp only [Act.put, List.getElem_toArray, List.getElem_cons_zero, List.getElem_cons_succ, List.setIfInBounds_toArray, List.set_cons_zero, List.set_cons_succ]
        refine wpAnyH_take (i := 1) (v := ?_) rfl (by kernel_rfl) (by kernel_rfl) (by kernel_rfl) (fun _ _ _ h => h) (Or.inl ⟨by rfl, ?_⟩) (HS.out _ hd) ?_
        rotate_left 1
        next => intro w hSw; rw [hSe] at hSw; obtain ⟨s1, s2⟩ := hSw; go_simp; try with_reducible rfl
        try simp only [Act.put, List.getElem_toArray, List.getElem_cons_zero, List.getElem_cons_succ, List.setIfInBounds_toArray, List.set_cons_zero, List.set_cons_succ]
        refine wpAnyH_take (i := 2) (v := ?_) rfl (by kernel_rfl) (by kernel_rfl) (by kernel_rfl) (fun _ _ _ h => h) (Or.inl ⟨by rfl, ?_⟩) (HS.out _ hd) ?_
        rotate_left 1
        next => intro w hSw; rw [hSe] at hSw; obtain ⟨s1, s2⟩ := hSw; go_simp; try with_reducible rfl
        try simp only [Act.put, List.getElem_toArray, List.getElem_cons_zero, List.getElem_cons_succ, List.setIfInBounds_toArray, List.set_cons_zero, List.set_cons_succ]
        try simp only [Act.put, List.getElem_toArray, List.getElem_cons_zero, List.getElem_cons_succ, List.setIfInBounds_toArray, List.set_cons_zero, List.set_cons_succ]
        refine wpAnyH_ready (rs := [3]) (by kernel_rfl) (by simp) ?_
        refine AllReadyH.cons rfl (fun K hK => ?_) AllReadyH.nil
        go_simp
        refine (HOf.out _).mono ?_
        rintro e w1 ⟨rfl, hbc⟩
        have hb1 : Below X.heap.size X w1 := hd.trans (hbc.mono hd.size)
        dsimp only
        refine hK.out _ _ (HS.out _ hb1) (fun _ => ?_)
        clear hK K hbc
        try simp only [Act.put, List.getElem_toArray, List.getElem_cons_zero, List.getElem_cons_succ, List.setIfInBounds_toArray, List.set_cons_zero, List.set_cons_succ]
        refine wpAnyH_ready (rs := [4]) (by kernel_rfl) (by simp) ?_
        refine AllReadyH.cons rfl (fun K hK => ?_) AllReadyH.nil
        go_simp
        refine (HMu.out _).mono ?_
        rintro e w2 ⟨rfl, hbc⟩
        have hb2 : Below X.heap.size X w2 := hb1.trans (hbc.mono hb1.size)
        dsimp only
        refine hK.out _ _ (HS.out _ hb2) (fun _ => ?_)
        clear hK K hbc
        try simp only [Act.put, List.getElem_toArray, List.getElem_cons_zero, List.getElem_cons_succ, List.setIfInBounds_toArray, List.set_cons_zero, List.set_cons_succ]
        refine wpAnyH_ready (rs := [5]) (by kernel_rfl) (by simp) ?_
        refine AllReadyH.cons rfl (fun K hK => ?_) AllReadyH.nil
        go_simp
        have hal := (Below.refl w2.heap.size w2).alloc (Nat.le_refl _) (.cells #[.bool CY.neg, .string CY.mag] 35)
        have hb3 := hb2.alloc hb2.size (.cells #[.bool CY.neg, .string CY.mag] 35)
        have hbx := BoxAt.new w2 (.bool CY.neg) (.string CY.mag) 35
        obtain ⟨gz, hgz⟩ : ∃ k, w2.heap.size = k := ⟨_, rfl⟩
        rw [hgz] at hbx ⊢
        clear hal hgz
        generalize w2.alloc (.cells #[.bool CY.neg, .string CY.mag] 35) = w3 at *
        refine hK.out _ _ (HS.out _ hb3) (fun _ => ?_)
        clear hK K
        try simp only [Act.put, List.getElem_toArray, List.getElem_cons_zero, List.getElem_cons_succ, List.setIfInBounds_toArray, List.set_cons_zero, List.set_cons_succ]
        refine wpAnyH_ready (rs := [6]) (by kernel_rfl) (by simp) ?_
        refine AllReadyH.cons rfl (fun K hK => ?_) AllReadyH.nil
        have hO := HO3.out.below (Nat.le_refl _) hb3
        refine step_append_z1 rfl _ _ rfl w.heap.size _ _ rfl hO gz 1 y rfl (by rw [HCY.out]; exact hbx.1) (by rw [HCY.out]; exact hbx.2.1) HL.out (Nat.le_trans HB3.out.size hb3.size) ?_
        intro v9 w4 hown9 hgr9
        have hb9 : Below w.heap.size w w4 := below_append (HB3.out.trans (hb3.mono HB3.out.size)) hO hgr9 (Nat.le_trans HB3.out.size hb3.size) (Nat.le_refl _)
        rw [← Hnx.out] at hown9
        have HZ9 := Lib.hid hown9
        have HY9 := Lib.hid hb9
        have hSw : SS w4 := by
          have hss := HS.out _ hb3
          rw [hSe] at hss ⊢
          have hgl : gx < w3.heap.size := by
            have h1 := hb3.size
            have h2 := hgxl
            omega
          have hblk : w4.heap[gx]? = w3.heap[gx]? := hgr9.block gx hgl (fun h => by have := Hown.out gx h.symm; omega)
          exact ⟨(World.cell?_of_block (a := ⟨gx, 0, none⟩) hblk).trans hss.1, (World.cell?_of_block (a := ⟨gx, 1, none⟩) hblk).trans hss.2⟩
        have HS := Lib.hid (fun W (h : SS W) => h)
        refine hK.out _ _ hSw (fun _ => ?_)
        clear hK K hown9 hgr9 hb9 hO
        refine wpAnyH_take (i := 7) (v := ?_) rfl (by kernel_rfl) (by kernel_rfl) (by kernel_rfl) (fun _ _ _ h => h) (Or.inl ⟨by rfl, ?_⟩) (HS.out _ hSw) ?_
        rotate_left 1
        next => intro w hSw; rw [hSe] at hSw; obtain ⟨s1, s2⟩ := hSw; go_simp; try with_reducible rfl
        try simp only [Act.put, List.getElem_toArray, List.getElem_cons_zero, List.getElem_cons_succ, List.setIfInBounds_toArray, List.set_cons_zero, List.set_cons_succ]
        refine wpAnyH_done (by kernel_rfl) ?_ _
        go_wp2_with fail
        go_roundw
        case rel => exact ⟨i + 1, by omega, by go_num, HZ9, HY9⟩
        case measure => simp [intOf]; omega
    · have i1 : ¬ (i : Int) < (n : Int) := by omega
      have hie : i = n := by omega
      have hz9 := HO.out
      rw [hie] at hz9
      obtain ⟨q, cap, rfl, _, hrow, _⟩ := hz9.rowF
      have Hrow := Lib.hid hrow
      clear hz9 hrow hie HO
      go_wp2_with fail
      go_ret
      exact ⟨q, cap, rfl, Hrow.out, HB.out⟩
end Go.Proofs.YteoemijgdcpopaaDoor
