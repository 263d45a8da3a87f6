/- polynomial.divide: the walk. -/
import Derived.Test.YtmbamcpndbimaaaGreatDoorJ9
import Derived.Deep.RegionLawGrows
namespace Go.Proofs.YtmbamcpndbimaaaGreatDoor
open List renaming getElem_toArray → ny1, getElem_cons_zero → ny2, getElem_cons_succ → ny3, setIfInBounds_toArray → ny4, set_cons_zero → ny5, set_cons_succ → ny6
open Go.RowKit Go.Shelf
theorem step_clone_zs {ops : Array Oper} {o : Oper} {a : Act} {w : World} {K : Act → World → Prop} {Q : Exit → Act → World → Prop} {E : Prop} (hgd : o.guard = none) (s x : Operand)
  (hop : o.op = .call { callee := .builtin .append, args := #[s, x], argTypes := #[22, 22] })
  (b : Addr) (hs : a.eval s = .slice (some b) 0 0) (g off c m : Nat) (f : Nat → Int) (hx : a.eval x = .slice (some ⟨g, off, none⟩) m c) (h0 : 0 < m) (hm : m ≤ 1000000)
  (hc : ∀ k, k < m → w.cell? ⟨g, off + k * 2, none⟩ = some (.bool (canon (f k)).neg) ∧ w.cell? ⟨g, off + k * 2 + 1, none⟩ = some (.string (canon (f k)).mag))
  (hK : ∀ q cap w', ZAt w' q m f → w.heap.size ≤ q → Below w.heap.size w w' → K (a.put o.dst (.slice (some ⟨q, 0, none⟩) m cap)) w') :
  if Region.wanted o (yielded ops a.tmps) = true then Oper.wp Tryz.prog o a w K Q else E := by
 obtain ⟨i0, hi, hzz⟩ := Option.map_eq_some_iff.1 zInfo
 simp only [Prod.mk.injEq] at hzz
 obtain ⟨hz0, hz1, hz2⟩ := hzz
 have hzl : (zL (zsF f m)).length = m * 2 := by rw [zL_length, zsF_len]
 refine step_append_grows hgd s x _ hop 24 i0 (.agg #[.bool false, .string ⟨#[]⟩]) 2 24 Tryz.underlying22 hi hz0 hz1 hz2 rfl (by decide) (some b) 0 0 [] hs (by intro h; cases h) rfl (by intro b' _ j u h; simp at h) ⟨g, off, none⟩ m c (zL (zsF f m)) hx hzl ?_ (zL_one _) (by omega) ?_ ?_ ?_
 ·intro j u hj
  have hjl : j < (zL (zsF f m)).length := (List.getElem?_eq_some_iff.1 hj).1
  rw [hzl] at hjl
  have hk : j / 2 < m := by omega
  obtain ⟨c0, c1⟩ := hc (j / 2) hk
  obtain ⟨z0, z1⟩ := zL_get (zsF f m) (j / 2) (by rw [zsF_len]; exact hk)
  rw [zsF_get f m hk] at z0 z1
  rw [Addr.add_lit]
  by_cases hp : j % 2 = 0
  ·have e : j = j / 2 * 2 := by omega
   rw [e] at hj ⊢
   rw [z0] at hj
   rw [c0]; exact hj
  ·have e : j = j / 2 * 2 + 1 := by omega
   rw [e] at hj ⊢
   rw [z1] at hj
   rw [show off + (j / 2 * 2 + 1) = off + j / 2 * 2 + 1 from by omega, c1]; exact hj
 ·unfold maxLen; omega
 ·omega
 ·intro v' w' h2 h3
  have hb : Below w.heap.size w w' := (Below.refl _ _).grown h3 (Nat.le_refl _) (fun k hk => by cases hk)
  have h4 : OwnZ w' w.heap.size v' ([] ++ zsF f m) := by unfold OwnZ; rw [List.nil_append, zsF_len]; simpa using h2
  obtain ⟨q, cap, rfl, hq, hr⟩ := h4.mkRow h0
  exact hK q cap w' hr.z hq hb
def dvS (f g : Nat → Int) (n m : Nat) : Nat → (Nat → Int) × (Nat → Int)
 | 0 => (fun _ => 0, f)
 | j + 1 => ((fun i => (dvS f g n m j).1 i * g (m - 1) + (if i = n - m - j then (dvS f g n m j).2 (n - m - j + m - 1) else 0)),
   (fun i => (dvS f g n m j).2 i * g (m - 1) - (if n - m - j ≤ i ∧ i < n - m - j + m then (dvS f g n m j).2 (n - m - j + m - 1) * g (i - (n - m - j)) else 0)))
theorem dvS_bn {f g : Nat → Int} {n m e e' : Nat} (hf : ∀ i, Bn (f i) e) (hg : ∀ i, Bn (g i) e') : ∀ j, (∀ i, Bn ((dvS f g n m j).1 i) (e + j * (e' + 1))) ∧ ∀ i, Bn ((dvS f g n m j).2 i) (e + j * (e' + 1))
 | 0 => ⟨fun _ => Bn.zero _, fun i => (hf i).up (Nat.le_add_right _ _)⟩
 | j + 1 => by
  obtain ⟨h1, h2⟩ := dvS_bn hf hg j
  have he : e + (j + 1) * (e' + 1) = e + j * (e' + 1) + e' + 1 := by rw [Nat.add_mul]; omega
  rw [he]
  refine ⟨fun i => ?_, fun i => ?_⟩
  ·refine Bn.add ((h1 i).mul (hg _)) ?_
   split
   ·exact (h2 _).up (Nat.le_add_right _ _)
   ·exact Bn.zero _
  ·dsimp only [dvS]
   rw [Int.sub_eq_add_neg]
   refine Bn.add ((h2 i).mul (hg _)) (Bn.neg ?_)
   split
   ·exact (h2 _).mul (hg _)
   ·exact Bn.zero _
def dvLQ (f g : Nat → Int) (n m : Nat) : Nat := if n < m then 0 else dgN (dvS f g n m (n - m + 1)).1 (n - m + 1)
def dvLR (f g : Nat → Int) (n m : Nat) : Nat := if n < m then n else dgN (dvS f g n m (n - m + 1)).2 n
def dvQ (f g : Nat → Int) (n m : Nat) : Nat → Int := (dvS f g n m (n - m + 1)).1
def dvR (f g : Nat → Int) (n m : Nat) : Nat → Int := if n < m then f else (dvS f g n m (n - m + 1)).2
def RetDv (a b : Nat) (f g : Nat → Int) (w : World) (e : Ending) (w' : World) : Prop := ∃ q c p d, e = .returned (.tuple #[.slice q a c, .slice p b d]) ∧ RowF w' q a f ∧ RowF w' p b g ∧ Below w.heap.size w w'
set_option maxRecDepth 100000 in
set_option maxHeartbeats 16000000 in
theorem pdiv_any (n m : Nat) (f g : Nat → Int) (p q : Option Addr) (c d : Nat) {e e' : Nat} (hn : n ≤ 1000) (hm : m ≤ 1000) (hm0 : 0 < m) (hB : e + (n - m + 1) * (e' + 1) ≤ 100000000) (hf : ∀ k, Bn (f k) e) (hg : ∀ k, Bn (g k) e') (w : World) (hX : RowF w p n f) (hY : RowF w q m g) :
  Calls Tryz.prog 28 #[.slice p n c, .slice q m d] w (RetDv (dvLQ f g n m) (dvLR f g n m) (dvQ f g n m) (dvR f g n m) w) := by
 have HX := lhd hX
 have HY := lhd hY
 by_cases hnm : n < m
 ·have h1 : dvLQ f g n m = 0 := if_pos hnm
  have h2 : dvLR f g n m = n := if_pos hnm
  have h3 : dvR f g n m = f := if_pos hnm
  rw [h1, h2, h3]
  have b0 : (n : Int) - (m : Int) < 0 := by omega
  clear h1 h2 h3 hX hY
  go_enter Tryz.func28, Tryz.ntmps28
  go_wp2_with fail
  go_ret2
  exact ⟨none, 0, p, c, rfl, .inl rfl, HX.out, Below.refl _ _⟩
 have h1 : dvLQ f g n m = dgN (dvS f g n m (n - m + 1)).1 (n - m + 1) := if_neg hnm
 have h2 : dvLR f g n m = dgN (dvS f g n m (n - m + 1)).2 n := if_neg hnm
 have h3 : dvR f g n m = (dvS f g n m (n - m + 1)).2 := if_neg hnm
 rw [h1, h2, h3]
 unfold dvQ
 obtain ⟨D, hD⟩ : ∃ D, n - m = D := ⟨_, rfl⟩
 obtain ⟨D1, hD1⟩ : ∃ k, D + 1 = k := ⟨_, rfl⟩
 rw [hD, hD1]
 obtain ⟨S, hS⟩ : ∃ S, dvS f g n m = S := ⟨_, rfl⟩
 rw [hS]
 have hS0 : S 0 = (fun _ => 0, f) := by rw [← hS]; rfl
 have hS1 : ∀ j, S (j + 1) = ((fun i => (S j).1 i * g (m - 1) + (if i = D - j then (S j).2 (D - j + m - 1) else 0)),
   (fun i => (S j).2 i * g (m - 1) - (if D - j ≤ i ∧ i < D - j + m then (S j).2 (D - j + m - 1) * g (i - (D - j)) else 0))) := fun j => by rw [← hS, ← hD]; rfl
 rw [hD, hD1] at hB
 have hSb : ∀ j, j ≤ D1 → (∀ i, Bn ((S j).1 i) 100000000) ∧ ∀ i, Bn ((S j).2 i) 100000000 := fun j hj => by
  rw [← hS]
  obtain ⟨x, y⟩ := dvS_bn (n := n) (m := m) hf hg j
  have hh : e + j * (e' + 1) ≤ 100000000 := by
   have : j * (e' + 1) ≤ D1 * (e' + 1) := Nat.mul_le_mul_right _ hj
   omega
  exact ⟨fun i => (x i).up hh, fun i => (y i).up hh⟩
 have he9 : e' ≤ 100000000 := by
  have : 1 * (e' + 1) ≤ D1 * (e' + 1) := Nat.mul_le_mul_right _ (by omega)
  omega
 clear hB
 have Hg := lhd (fun k => (hg k).up he9)
 have HS0 := lhd hS0
 have HS1 := lhd hS1
 have HSb := lhd hSb
 have HDn := lhd (show D + m = n by omega)
 obtain ⟨m1, hm1⟩ : ∃ k, m - 1 = k := ⟨_, rfl⟩
 have m1e : (m : Int) - 1 = (m1 : Int) := by omega
 have m1l : (0 : Int) ≤ (m1 : Int) := by omega
 have m1u : (m1 : Int) < (m : Int) := by omega
 have m1n : m1 < m := by omega
 have hn0 : 0 < n := by omega
 have nme : (n : Int) - (m : Int) = (D : Int) := by omega
 have D1e : (D : Int) + 1 = (D1 : Int) := by omega
 have D0 : ¬ (D : Int) < 0 := by omega
 have hD6 : D1 ≤ 1000000 := by omega
 have Hm1 := lhd hm1
 have HD1 := lhd hD1
 obtain ⟨qb, qo, rfl, hql, hqc⟩ := RowF.cells hY m1n
 obtain ⟨y0, y1⟩ := hqc m1 m1n
 obtain ⟨pb, po, rfl, hpl, hpc⟩ := RowF.cells hX hn0
 obtain ⟨C, hC⟩ : ∃ z, canon (g m1) = z := ⟨_, rfl⟩
 rw [hC] at y0 y1
 have HCc := lhd hC
 clear hX hY hf hg h1 h2 h3 hnm hD hS hS0 hS1 hSb hm1 hqc hpc hC hD1
 go_enter Tryz.func28, Tryz.ntmps28
 go_upto_region 5 with (fail)
 clear y0 y1
 have hal0 := (Below.refl w.heap.size w).alloc (Nat.le_refl _) (.cells #[.bool C.neg, .string C.mag] 24)
 have hbx := BoxAt.new w (.bool C.neg) (.string C.mag) 24
 obtain ⟨gc, hgc⟩ : ∃ k, w.heap.size = k := ⟨_, rfl⟩
 have HA := lhd hal0
 have HXx := lhd (RowF.below HX.out (Nat.le_refl _) hal0)
 have HYx := lhd (RowF.below HY.out (Nat.le_refl _) hal0)
 have Hgc := lhd hgc
 rw [hgc] at hbx hql hpl ⊢
 have HC0 := lhd hbx
 clear hal0 hbx hgc HX HY
 generalize w.alloc (.cells #[.bool C.neg, .string C.mag] 24) = X at *
 have hgX : gc < X.heap.size := HC0.out.2.2.2.2
 go_cut [8, 9] (fun qv rv wx => ∃ gq gr cr, qv = .slice (some ⟨gq, 0, none⟩) D1 D1 ∧ rv = .slice (some ⟨gr, 0, none⟩) n cr ∧ X.heap.size ≤ gq ∧ X.heap.size ≤ gr ∧ gq ≠ gr ∧ Hid (ZAt wx gq D1 (fun _ => 0)) ∧ Hid (ZAt wx gr n f) ∧ Hid (Below X.heap.size X wx))
 case first =>
  have hd : Below X.heap.size X X.drew := (Below.refl _ _).drew
  have hmk := make_zs D1 hD6
  have D1w : IntKind.i64.wrap (D1 : Int) = (D1 : Int) := IntWalk.i64_in _ (by omega)
  obtain ⟨SS, hSe⟩ : ∃ SS : World → Prop, SS = fun _ => True := ⟨_, rfl⟩
  have HS : Hid (∀ W, Below X.heap.size X W → SS W) := lhd (fun W _ => by rw [hSe]; trivial)
  refine wp_region_held_drew (S := SS) (by kernel_rfl) (HS.out _ hd) (fun hSS => ?_)
  generalize X.drew = V0 at *
  refine wpAnyH_take (i := 0) (v := ?_) rfl (by kernel_rfl) (by kernel_rfl) (by kernel_rfl) (fun _ _ _ h => h) (Or.inl ⟨by rfl, ?_⟩) (HS.out _ hd) ?_
  rotate_left 1
  next => intro w hSw; rw [hSe] at hSw; have s1 := hSw; go_simp; try with_reducible rfl
  try simp only [Act.put, ny1, ny2, ny3, ny4, ny5, ny6]
  refine wpAnyH_take (i := 1) (v := ?_) rfl (by kernel_rfl) (by kernel_rfl) (by kernel_rfl) (fun _ _ _ h => h) (Or.inl ⟨by rfl, ?_⟩) (HS.out _ hd) ?_
  rotate_left 1
  next => intro w hSw; rw [hSe] at hSw; have s1 := hSw; go_simp; try with_reducible rfl
  try simp only [Act.put, ny1, ny2, ny3, ny4, ny5, ny6]
  refine wpAnyH_take (i := 4) (v := ?_) rfl (by kernel_rfl) (by kernel_rfl) (by kernel_rfl) (fun _ _ _ h => h) (Or.inl ⟨by rfl, ?_⟩) (HS.out _ hd) ?_
  rotate_left 1
  next => intro w hSw; rw [hSe] at hSw; have s1 := hSw; go_simp; try with_reducible rfl
  try simp only [Act.put, ny1, ny2, ny3, ny4, ny5, ny6]
  refine wpAnyH_ready (rs := [2, 3]) (by kernel_rfl) (by simp) ?_
  refine AllReadyH.cons rfl (fun K hK => ?_) (AllReadyH.cons rfl (fun K hK => ?_) AllReadyH.nil)
  ·go_simp
   have hal := (Below.refl V0.heap.size V0).alloc (Nat.le_refl _) (.cells (madeCells #[.bool false, .string ⟨#[]⟩] (D1 * 2)) 24)
   have hb1 := hd.alloc hd.size (.cells (madeCells #[.bool false, .string ⟨#[]⟩] (D1 * 2)) 24)
   have Hq := lhd (made_zero V0 D1 24)
   obtain ⟨gq, hgq⟩ : ∃ k, V0.heap.size = k := ⟨_, rfl⟩
   have hgqX : X.heap.size ≤ gq := by rw [← hgq]; exact hd.size
   rw [hgq] at Hq ⊢
   clear hal hgq
   generalize V0.alloc (.cells (madeCells #[.bool false, .string ⟨#[]⟩] (D1 * 2)) 24) = w1 at *
   refine hK.out _ _ (HS.out _ hb1) (fun _ => ?_)
   clear hK K
   try simp only [Act.put, ny1, ny2, ny3, ny4, ny5, ny6]
   refine wpAnyH_ready (rs := [3]) (by kernel_rfl) (by simp) ?_
   refine AllReadyH.cons rfl (fun K hK => ?_) AllReadyH.nil
   go_simp
   have hal := (Below.refl w1.heap.size w1).alloc (Nat.le_refl _) (.cells #[] 24)
   have hb2 := hb1.alloc hb1.size (.cells #[] 24)
   have Hq := lhd (Hq.out.below hal Hq.out.1)
   obtain ⟨ge, hge⟩ : ∃ k, w1.heap.size = k := ⟨_, rfl⟩
   rw [hge]
   clear hal hge
   generalize w1.alloc (.cells #[] 24) = w2 at *
   refine hK.out _ _ (HS.out _ hb2) (fun _ => ?_)
   clear hK K
   try simp only [Act.put, ny1, ny2, ny3, ny4, ny5, ny6]
   refine wpAnyH_ready (rs := [5]) (by kernel_rfl) (by simp) ?_
   refine AllReadyH.cons rfl (fun K hK => ?_) AllReadyH.nil
   refine step_clone_zs rfl _ _ rfl ⟨ge, 0, none⟩ rfl pb po c n f rfl hn0 (by omega) ?_ ?_
   ·intro k hk
    obtain ⟨b', o', he, _, hcc⟩ := RowF.cells (RowF.below HXx.out (Nat.le_refl _) hb2) hn0
    cases he
    exact hcc k hk
   intro gr cr w3 hr hgr hbc
   have hb3 := hb2.trans (hbc.mono hb2.size)
   have hgrX : X.heap.size ≤ gr := Nat.le_trans hb2.size hgr
   have Hr := lhd hr
   have hne : gq ≠ gr := by have := Hq.out.1; omega
   have Hq := lhd (Hq.out.below hbc Hq.out.1)
   refine hK.out _ _ (HS.out _ hb3) (fun _ => ?_)
   clear hK K hr hbc hgr
   refine wpAnyH_take (i := 6) (v := ?_) rfl (by kernel_rfl) (by kernel_rfl) (by kernel_rfl) (fun _ _ _ h => h) (Or.inl ⟨by rfl, ?_⟩) (HS.out _ hb3) ?_
   rotate_left 1
   next => intro w hSw; rw [hSe] at hSw; have s1 := hSw; go_simp; try with_reducible rfl
   try simp only [Act.put, ny1, ny2, ny3, ny4, ny5, ny6]
   refine wpAnyH_take (i := 7) (v := ?_) rfl (by kernel_rfl) (by kernel_rfl) (by kernel_rfl) (fun _ _ _ h => h) (Or.inl ⟨by rfl, ?_⟩) (HS.out _ hb3) ?_
   rotate_left 1
   next => intro w hSw; rw [hSe] at hSw; have s1 := hSw; go_simp; try with_reducible rfl
   try simp only [Act.put, ny1, ny2, ny3, ny4, ny5, ny6]
   refine wpAnyH_done (by kernel_rfl) ?_ _
   go_wp2_with fail
   go_meet
   exact ⟨gq, gr, cr, rfl, rfl, hgqX, hgrX, hne, Hq, Hr, lhd hb3⟩
  ·go_simp
   have hal := (Below.refl V0.heap.size V0).alloc (Nat.le_refl _) (.cells #[] 24)
   have hb4 := hd.alloc hd.size (.cells #[] 24)
   obtain ⟨ge, hge⟩ : ∃ k, V0.heap.size = k := ⟨_, rfl⟩
   rw [hge]
   clear hal hge
   generalize V0.alloc (.cells #[] 24) = w4 at *
   refine hK.out _ _ (HS.out _ hb4) (fun _ => ?_)
   clear hK K
   try simp only [Act.put, ny1, ny2, ny3, ny4, ny5, ny6]
   refine wpAnyH_ready (rs := [2, 5]) (by kernel_rfl) (by simp) ?_
   refine AllReadyH.cons rfl (fun K hK => ?_) (AllReadyH.cons rfl (fun K hK => ?_) AllReadyH.nil)
   ·go_simp
    have hal := (Below.refl w4.heap.size w4).alloc (Nat.le_refl _) (.cells (madeCells #[.bool false, .string ⟨#[]⟩] (D1 * 2)) 24)
    have hb5 := hb4.alloc hb4.size (.cells (madeCells #[.bool false, .string ⟨#[]⟩] (D1 * 2)) 24)
    have Hq := lhd (made_zero w4 D1 24)
    obtain ⟨gq, hgq⟩ : ∃ k, w4.heap.size = k := ⟨_, rfl⟩
    have hgqX : X.heap.size ≤ gq := by rw [← hgq]; exact hb4.size
    rw [hgq] at Hq ⊢
    clear hal hgq
    generalize w4.alloc (.cells (madeCells #[.bool false, .string ⟨#[]⟩] (D1 * 2)) 24) = w5 at *
    refine hK.out _ _ (HS.out _ hb5) (fun _ => ?_)
    clear hK K
    try simp only [Act.put, ny1, ny2, ny3, ny4, ny5, ny6]
    refine wpAnyH_ready (rs := [5]) (by kernel_rfl) (by simp) ?_
    refine AllReadyH.cons rfl (fun K hK => ?_) AllReadyH.nil
    refine step_clone_zs rfl _ _ rfl ⟨ge, 0, none⟩ rfl pb po c n f rfl hn0 (by omega) ?_ ?_
    ·intro k hk
     obtain ⟨b', o', he, _, hcc⟩ := RowF.cells (RowF.below HXx.out (Nat.le_refl _) hb5) hn0
     cases he
     exact hcc k hk
    intro gr cr w6 hr hgr hbc
    have hb6 := hb5.trans (hbc.mono hb5.size)
    have hgrX : X.heap.size ≤ gr := Nat.le_trans hb5.size hgr
    have Hr := lhd hr
    have hne : gq ≠ gr := by have := Hq.out.1; omega
    have Hq := lhd (Hq.out.below hbc Hq.out.1)
    refine hK.out _ _ (HS.out _ hb6) (fun _ => ?_)
    clear hK K hr hbc hgr
    refine wpAnyH_take (i := 6) (v := ?_) rfl (by kernel_rfl) (by kernel_rfl) (by kernel_rfl) (fun _ _ _ h => h) (Or.inl ⟨by rfl, ?_⟩) (HS.out _ hb6) ?_
    rotate_left 1
    next => intro w hSw; rw [hSe] at hSw; have s1 := hSw; go_simp; try with_reducible rfl
    try simp only [Act.put, ny1, ny2, ny3, ny4, ny5, ny6]
    refine wpAnyH_take (i := 7) (v := ?_) rfl (by kernel_rfl) (by kernel_rfl) (by kernel_rfl) (fun _ _ _ h => h) (Or.inl ⟨by rfl, ?_⟩) (HS.out _ hb6) ?_
    rotate_left 1
    next => intro w hSw; rw [hSe] at hSw; have s1 := hSw; go_simp; try with_reducible rfl
    try simp only [Act.put, ny1, ny2, ny3, ny4, ny5, ny6]
    refine wpAnyH_done (by kernel_rfl) ?_ _
    go_wp2_with fail
    go_meet
    exact ⟨gq, gr, cr, rfl, rfl, hgqX, hgrX, hne, Hq, Hr, lhd hb6⟩
   ·refine step_clone_zs rfl _ _ rfl ⟨ge, 0, none⟩ rfl pb po c n f rfl hn0 (by omega) ?_ ?_
    ·intro k hk
     obtain ⟨b', o', he, _, hcc⟩ := RowF.cells (RowF.below HXx.out (Nat.le_refl _) hb4) hn0
     cases he
     exact hcc k hk
    intro gr cr w7 hr hgr hbc
    have hb7 := hb4.trans (hbc.mono hb4.size)
    have hgrX : X.heap.size ≤ gr := Nat.le_trans hb4.size hgr
    have Hr := lhd hr
    refine hK.out _ _ (HS.out _ hb7) (fun _ => ?_)
    clear hK K hr hbc hgr
    try simp only [Act.put, ny1, ny2, ny3, ny4, ny5, ny6]
    refine wpAnyH_ready (rs := [2]) (by kernel_rfl) (by simp) ?_
    refine AllReadyH.cons rfl (fun K hK => ?_) AllReadyH.nil
    go_simp
    have hal := (Below.refl w7.heap.size w7).alloc (Nat.le_refl _) (.cells (madeCells #[.bool false, .string ⟨#[]⟩] (D1 * 2)) 24)
    have hb8 := hb7.alloc hb7.size (.cells (madeCells #[.bool false, .string ⟨#[]⟩] (D1 * 2)) 24)
    have Hq := lhd (made_zero w7 D1 24)
    obtain ⟨gq, hgq⟩ : ∃ k, w7.heap.size = k := ⟨_, rfl⟩
    have hgqX : X.heap.size ≤ gq := by rw [← hgq]; exact hb7.size
    have hne : gq ≠ gr := by have := Hr.out.1; omega
    have Hr := lhd (Hr.out.below hal Hr.out.1)
    rw [hgq] at Hq ⊢
    clear hal hgq
    generalize w7.alloc (.cells (madeCells #[.bool false, .string ⟨#[]⟩] (D1 * 2)) 24) = w8 at *
    refine hK.out _ _ (HS.out _ hb8) (fun _ => ?_)
    clear hK K
    refine wpAnyH_take (i := 6) (v := ?_) rfl (by kernel_rfl) (by kernel_rfl) (by kernel_rfl) (fun _ _ _ h => h) (Or.inl ⟨by rfl, ?_⟩) (HS.out _ hb8) ?_
    rotate_left 1
    next => intro w hSw; rw [hSe] at hSw; have s1 := hSw; go_simp; try with_reducible rfl
    try simp only [Act.put, ny1, ny2, ny3, ny4, ny5, ny6]
    refine wpAnyH_take (i := 7) (v := ?_) rfl (by kernel_rfl) (by kernel_rfl) (by kernel_rfl) (fun _ _ _ h => h) (Or.inl ⟨by rfl, ?_⟩) (HS.out _ hb8) ?_
    rotate_left 1
    next => intro w hSw; rw [hSe] at hSw; have s1 := hSw; go_simp; try with_reducible rfl
    try simp only [Act.put, ny1, ny2, ny3, ny4, ny5, ny6]
    refine wpAnyH_done (by kernel_rfl) ?_ _
    go_wp2_with fail
    go_meet
    exact ⟨gq, gr, cr, rfl, rfl, hgqX, hgrX, hne, Hq, Hr, lhd hb8⟩
 case rest =>
  obtain ⟨gq, gr, cr, rfl, rfl, hgq, hgr, hne, Hq, Hr, HB⟩ := hcut
  have HYw := lhd (RowF.below HYx.out (Nat.le_refl _) HB.out)
  have Hcw := lhd (HC0.out.below HB.out hgX)
  have HBX := lhd (show w.heap.size ≤ X.heap.size from by rw [Hgc.out]; exact Nat.le_of_lt hgX)
  obtain ⟨gX, hgXe⟩ : ∃ k, X.heap.size = k := ⟨_, rfl⟩
  have HXs := lhd hgXe
  rw [hgXe] at hgq hgr hgX
  have HBc := lhd (show Below gX X wc from by rw [← hgXe]; exact HB.out)
  obtain ⟨c0, hc0⟩ : ∃ z, g m1 = z := ⟨_, rfl⟩
  have Hc0 := lhd hc0
  have Hc0b : Hid (Bn c0 100000000) := lhd (by rw [← hc0]; exact Hg.out m1)
  have HCe : Hid (canon c0 = C) := lhd (by rw [← hc0]; exact HCc.out)
  have ncq : ¬ gc = gq := by omega
  have ncr : ¬ gc = gr := by omega
  have HK : Hid (∀ wr, Below gX X wr → RowF wr (some ⟨qb, qo, none⟩) m g ∧ BoxAt wr gc (.bool C.neg) (.string C.mag)) := lhd (fun wr hW => by
   rw [← HXs.out] at hW
   exact ⟨RowF.below HYx.out (Nat.le_refl _) hW, HC0.out.below hW (by rw [HXs.out]; exact hgX)⟩)
  have D1u : D1 ≤ 1001 := by have := HD1.out; have := HDn.out; omega
  clear hgXe hc0 HYw Hcw HB HXx HC0 HYx
  go_wp2_with fail
  go_loopw [10] (fun kv wr => ∃ i : Nat, i ≤ D1 ∧ kv = .int .i64 ((i : Int) - 1) ∧ Hid (ZAt wr gq D1 (S (D1 - i)).1) ∧ Hid (ZAt wr gr n (S (D1 - i)).2) ∧ Hid (Below gX X wr)) (fun v _ => (intOf v + 1).toNat)
  case atStart =>
   refine ⟨D1, Nat.le_refl _, ?_, lhd ?_, lhd ?_, HBc⟩
   ·have := HD1.out; go_num
   ·rw [Nat.sub_self, HS0.out]; exact Hq.out
   ·rw [Nat.sub_self, HS0.out]; exact Hr.out
  case round =>
   clear Hq Hr HBc
   obtain ⟨i, hi, rfl, Hq, Hr, HB⟩ := hrel
   by_cases hi0 : 0 < i
   ·obtain ⟨k, rfl⟩ : ∃ k, i = k + 1 := ⟨i - 1, by omega⟩
    rw [show ((k + 1 : Nat) : Int) - 1 = (k : Int) from by omega]
    have hkD : k < D1 := by omega
    have k0 : (0 : Int) ≤ (k : Int) := by omega
    have k1 : (k : Int) < (D1 : Int) := by omega
    obtain ⟨j, hj⟩ : ∃ j, D1 - (k + 1) = j := ⟨_, rfl⟩
    have hDj : D - j = k := by have := HD1.out; omega
    have hjn : D1 - k = j + 1 := by omega
    have hst := HS1.out j
    obtain ⟨hb1, hb2⟩ := HSb.out j (by omega)
    rw [hj] at Hq Hr
    obtain ⟨Q, hQ⟩ : ∃ Q, (S j).1 = Q := ⟨_, rfl⟩
    obtain ⟨R, hR⟩ : ∃ Q, (S j).2 = Q := ⟨_, rfl⟩
    rw [hQ] at Hq hb1
    rw [hR] at Hr hb2
    obtain ⟨a1, ha1⟩ : ∃ a, k + m1 = a := ⟨_, rfl⟩
    have hm1e := Hm1.out
    have hDne := HDn.out
    have hD1e := HD1.out
    rw [hQ, hR, hDj, show k + m - 1 = a1 from by omega, show m - 1 = m1 from hm1e, Hc0.out] at hst
    obtain ⟨t, ht⟩ : ∃ t, R a1 = t := ⟨_, rfl⟩
    rw [ht] at hst
    have a1n : a1 < n := by omega
    obtain ⟨a2, ha2⟩ : ∃ a, k + m = a := ⟨_, rfl⟩
    have a2e : (k : Int) + (m : Int) = (a2 : Int) := by omega
    have a2m : (a2 : Int) - 1 = (a1 : Int) := by omega
    have a2u : a2 ≤ 3000 := by omega
    have a1i : (a1 : Int) < (n : Int) := by omega
    have a10 : (0 : Int) ≤ (a1 : Int) := by omega
    have a1w : IntKind.i64.wrap (a1 : Int) = (a1 : Int) := IntWalk.i64_in _ (by omega)
    have a2w : IntKind.i64.wrap (a2 : Int) = (a2 : Int) := IntWalk.i64_in _ (by omega)
    obtain ⟨⟨x0, x1⟩, _, _⟩ := Hr.out.2 a1 a1n
    rw [ht] at x0 x1
    obtain ⟨CT, hCT⟩ : ∃ z, canon t = z := ⟨_, rfl⟩
    rw [hCT] at x0 x1
    have HCT := lhd hCT
    have Htb : Hid (Bn t 100000000) := lhd (by rw [← ht]; exact hb2 a1)
    have HQb := lhd hb1
    have HRb := lhd hb2
    have Hst := lhd (show S (j + 1) = (fun i => Q i * c0 + (if i = k then t else 0), fun i => R i * c0 - (if k ≤ i ∧ i < k + m then t * g (i - k) else 0)) from hst)
    have Hj := lhd (show D1 - k = j + 1 from hjn)
    clear hj hDj hst hb1 hb2 hQ hR ha1 hm1e hDne hD1e ht ha2 hCT hjn hi hi0
    go_upto_region 10 with (fail)
    clear x0 x1
    have hal := (Below.refl wr.heap.size wr).alloc (Nat.le_refl _) (.cells #[.bool CT.neg, .string CT.mag] 24)
    have hbx := BoxAt.new wr (.bool CT.neg) (.string CT.mag) 24
    obtain ⟨gt, hgt⟩ : ∃ k, wr.heap.size = k := ⟨_, rfl⟩
    have Hq2 := lhd (Hq.out.below hal Hq.out.1)
    have Hr2 := lhd (Hr.out.below hal Hr.out.1)
    have hgt1 : gq < gt ∧ gr < gt := by rw [← hgt]; exact ⟨Hq.out.1, Hr.out.1⟩
    obtain ⟨hgtq, hgtr⟩ := hgt1
    have HB2 := lhd (HB.out.trans (hal.mono (by omega)))
    rw [hgt] at hbx ⊢
    have HT2 := lhd hbx
    clear hal hbx Hq Hr HB hgt
    generalize wr.alloc (.cells #[.bool CT.neg, .string CT.mag] 24) = V1 at *
    go_wp2_with fail
    go_loopw [51] (fun iv wr => ∃ i : Nat, i ≤ D1 ∧ iv = .int .i64 (i : Nat) ∧ Hid (ZAt wr gq D1 (fun x => if x < i then Q x * c0 else Q x)) ∧ Hid (ZAt wr gr n R) ∧ Hid (BoxAt wr gt (.bool CT.neg) (.string CT.mag)) ∧ Hid (Below gX X wr)) (fun iv _ => D1 - (intOf iv).toNat)
    case atStart => exact ⟨0, by omega, by go_num, lhd (Hq2.out.congr fun k _ => by rw [if_neg (Nat.not_lt_zero k)]), Hr2, HT2, HB2⟩
    case round =>
     clear Hq2 Hr2 HT2 HB2
     obtain ⟨i, hi, rfl, Ha, Ho, HT, HB⟩ := hrel
     by_cases hil : i < D1
     ·have i0 : (0 : Int) ≤ (i : Int) := by omega
      have i1 : (i : Int) < (D1 : Int) := by omega
      obtain ⟨_, hcb⟩ := HK.out _ HB.out
      obtain ⟨x, hx⟩ : ∃ x, Q i = x := ⟨_, rfl⟩
      obtain ⟨z, hz⟩ : ∃ z, x * c0 = z := ⟨_, rfl⟩
      have hxb : Bn x 100000000 := by rw [← hx]; exact HQb.out i
      have hP := fun W => mulc_any x c0 (hxb.size 100000000 (by omega)) (Hc0b.out.size 100000000 (by omega)) W
      obtain ⟨XX, hXX⟩ : ∃ Z, canon x = Z := ⟨_, rfl⟩
      obtain ⟨ZZ, hZZ⟩ : ∃ Z, canon z = Z := ⟨_, rfl⟩
      rw [hz, hXX, HCe.out, hZZ] at hP
      have HP := lhd hP
      have HNX : Hid (∀ y, (if y < i + 1 then Q y * c0 else Q y) = if y = i then z else if y < i then Q y * c0 else Q y) := lhd (fun y => by
       by_cases e : y = i
       ·have h1 : y < i + 1 := by omega
        rw [if_pos h1, if_pos e, e, hx, hz]
       ·rw [if_neg e]
        by_cases e2 : y < i
        ·have h1 : y < i + 1 := by omega
         rw [if_pos h1, if_pos e2]
        ·have h1 : ¬ y < i + 1 := by omega
         rw [if_neg h1, if_neg e2])
      have HXe : Hid ((if i < i then Q i * c0 else Q i) = x) := lhd (by rw [if_neg (Nat.lt_irrefl i), hx])
      have HXX1 := lhd hXX
      have HZ1 := lhd hZZ
      have hgal : gq < wr.heap.size := Ha.out.1
      have hgol : gr < wr.heap.size := Ho.out.1
      have hgtl : gt < wr.heap.size := HT.out.2.2.2.2
      obtain ⟨X1, hX1⟩ : ∃ Z, wr = Z := ⟨_, rfl⟩
      rw [hX1] at Ha Ho HT HB hcb hgal hgol hgtl ⊢
      clear hx hz hxb hP hXX hZZ hX1
      go_upto_region 13 with (fail)
      have HXX : Hid (∀ W, Below X1.heap.size X1 W → ZAt W gq D1 (fun x => if x < i then Q x * c0 else Q x) ∧ ZAt W gr n R ∧ BoxAt W gt (.bool CT.neg) (.string CT.mag) ∧ Below gX X W) := lhd (fun W hW => ⟨Ha.out.below hW hgal, Ho.out.below hW hgol, HT.out.below hW hgtl, HB.out.trans (hW.mono (by omega))⟩)
      obtain ⟨SS, hSe⟩ : ∃ SS : World → Prop, SS = fun W => W.cell? ⟨gc, 0, none⟩ = some (.bool C.neg) ∧ W.cell? ⟨gc, 1, none⟩ = some (.string C.mag) := ⟨_, rfl⟩
      have HS : Hid (∀ W, Below X1.heap.size X1 W → SS W) := lhd (fun W hW => by
       obtain ⟨d0, d1, _, _, _⟩ := hcb
       rw [hSe]; exact ⟨cell_below hW d0, cell_below hW d1⟩)
      clear hcb Ha Ho HT HB
      have hd : Below X1.heap.size X1 X1.drew := (Below.refl _ _).drew
      refine wp_region_held_drew (S := SS) (by kernel_rfl) (HS.out _ hd) (fun hSS => ?_)
      refine wpAnyH_take (i := 0) (v := ?_) rfl (by kernel_rfl) (by kernel_rfl) (by kernel_rfl) (fun _ _ _ h => h) (Or.inl ⟨by rfl, ?_⟩) (HS.out _ hd) ?_
      rotate_left 1
      next => intro w hSw; rw [hSe] at hSw; obtain ⟨s1, s2⟩ := hSw; go_simp; try with_reducible rfl
      try simp only [Act.put, ny1, ny2, ny3, ny4, ny5, ny6]
      refine wpAnyH_take (i := 1) (v := ?_) rfl (by kernel_rfl) (by kernel_rfl) (by kernel_rfl) (fun _ _ _ h => h) (Or.inl ⟨by rfl, ?_⟩) (HS.out _ hd) ?_
      rotate_left 1
      next => intro w hSw; rw [hSe] at hSw; obtain ⟨s1, s2⟩ := hSw; go_simp; try with_reducible rfl
      try simp only [Act.put, ny1, ny2, ny3, ny4, ny5, ny6]
      refine wpAnyH_take (i := 2) (v := ?_) rfl (by kernel_rfl) (by kernel_rfl) (by kernel_rfl) (fun _ _ _ h => h) (Or.inl ⟨by rfl, ?_⟩) (HS.out _ hd) ?_
      rotate_left 1
      next => intro w hSw; rw [hSe] at hSw; obtain ⟨s1, s2⟩ := hSw; go_simp; try with_reducible rfl
      try simp only [Act.put, ny1, ny2, ny3, ny4, ny5, ny6]
      refine wpAnyH_take (i := 3) (v := ?_) rfl (by kernel_rfl) (by kernel_rfl) (by kernel_rfl) (fun _ _ _ h => h) (Or.inl ⟨by rfl, ?_⟩) (HS.out _ hd) ?_
      rotate_left 1
      next => intro w hSw; rw [hSe] at hSw; obtain ⟨s1, s2⟩ := hSw; go_simp; try with_reducible rfl
      try simp only [Act.put, ny1, ny2, ny3, ny4, ny5, ny6]
      refine wpAnyH_take (i := 4) (v := ?_) rfl (by kernel_rfl) (by kernel_rfl) (by kernel_rfl) (fun _ _ _ h => h) (Or.inl ⟨by rfl, ?_⟩) (HS.out _ hd) ?_
      rotate_left 1
      next => intro w hSw; rw [hSe] at hSw; obtain ⟨s1, s2⟩ := hSw; go_simp; try with_reducible rfl
      try simp only [Act.put, ny1, ny2, ny3, ny4, ny5, ny6]
      refine wpAnyH_take (i := 6) (v := ?_) rfl (by kernel_rfl) (by kernel_rfl) (by kernel_rfl) (fun _ _ _ h => h) (Or.inl ⟨by rfl, ?_⟩) (HS.out _ hd) ?_
      rotate_left 1
      next => intro w hSw; rw [hSe] at hSw; obtain ⟨s1, s2⟩ := hSw; go_simp; try with_reducible rfl
      try simp only [Act.put, ny1, ny2, ny3, ny4, ny5, ny6]
      refine wpAnyH_ready (rs := [5]) (by kernel_rfl) (by simp) ?_
      refine AllReadyH.cons rfl (fun K hK => ?_) AllReadyH.nil
      obtain ⟨hv1, hv2, hv3, hv4⟩ := HXX.out _ hd
      obtain ⟨⟨z0, z1⟩, z2, z3⟩ := hv1.2 i hil
      try dsimp only at z0 z1
      rw [HXe.out, HXX1.out] at z0 z1
      go_simp
      refine hK.out _ _ (HS.out _ hd) (fun _ => ?_)
      clear hK K z0 z1 z2 z3 hv1
      try simp only [Act.put, ny1, ny2, ny3, ny4, ny5, ny6]
      refine wpAnyH_ready (rs := [7]) (by kernel_rfl) (by simp) ?_
      refine AllReadyH.cons rfl (fun K hK => ?_) AllReadyH.nil
      go_simp
      refine (HP.out _).mono ?_
      rintro e w9 ⟨rfl, hbc⟩
      have hb9 : Below X1.heap.size X1 w9 := hd.trans (hbc.mono hd.size)
      dsimp only
      refine hK.out _ _ (HS.out _ hb9) (fun _ => ?_)
      clear hK K hbc
      refine wpAnyH_take (i := 8) (v := ?_) rfl (by kernel_rfl) (by kernel_rfl) (by kernel_rfl) (fun _ _ _ h => h) (Or.inl ⟨by rfl, ?_⟩) (HS.out _ hb9) ?_
      rotate_left 1
      next => intro w hSw; rw [hSe] at hSw; obtain ⟨s1, s2⟩ := hSw; go_simp; try with_reducible rfl
      try simp only [Act.put, ny1, ny2, ny3, ny4, ny5, ny6]
      refine wpAnyH_ready (rs := [9]) (by kernel_rfl) (by simp) ?_
      refine AllReadyH.cons rfl (fun K hK => ?_) AllReadyH.nil
      obtain ⟨hv1, hv2, hv3, hv4⟩ := HXX.out _ hb9
      obtain ⟨⟨z0, z1⟩, z2, z3⟩ := hv1.2 i hil
      have hss := HS.out _ hb9
      have hs2 : SS ((w9.setCell ⟨gq, i * 2, none⟩ (.bool ZZ.neg)).setCell ⟨gq, i * 2 + 1, none⟩ (.string ZZ.mag)) := by
       rw [hSe] at hss ⊢
       obtain ⟨s1, s2⟩ := hss
       refine ⟨?_, ?_⟩ <;> (rw [World.cell?_setCell_other _ _ _ _ (by intro hh; simp only [Addr.mk.injEq] at hh; omega), World.cell?_setCell_other _ _ _ _ (by intro hh; simp only [Addr.mk.injEq] at hh; omega)]; assumption)
      have hrs := hv1.set (k := i) z
      rw [HZ1.out] at hrs
      have F1 := lhd (hrs.congr fun k _ => (HNX.out k).symm)
      have F2 := lhd ((hv2.other ⟨gq, i * 2, none⟩ (.bool ZZ.neg) (by dsimp only; omega)).other ⟨gq, i * 2 + 1, none⟩ (.string ZZ.mag) (by dsimp only; omega))
      have F3 := lhd ((hv3.far ⟨gq, i * 2, none⟩ (.bool ZZ.neg) (by dsimp only; omega)).far ⟨gq, i * 2 + 1, none⟩ (.string ZZ.mag) (by dsimp only; omega))
      have F4 := lhd ((hv4.setCell (p := ⟨gq, i * 2, none⟩) (by first | assumption | omega | (dsimp only; omega)) (.bool ZZ.neg)).setCell (p := ⟨gq, i * 2 + 1, none⟩) (by first | assumption | omega | (dsimp only; omega)) (.string ZZ.mag))
      go_simp
      refine hK.out _ _ hs2 (fun _ => ?_)
      clear hK K z0 z1 z2 z3 hss hs2 hrs hv1 hv2 hv3 hv4
      refine wpAnyH_done (by kernel_rfl) ?_ _
      go_wp2_with fail
      go_roundw
      case rel => exact ⟨i + 1, by omega, by go_num, F1, F2, F3, F4⟩
      case measure => simp [intOf]; omega
     ·have i1 : ¬ (i : Int) < (D1 : Int) := by omega
      have hie : i = D1 := by omega
      rw [hie] at Ha
      have Hq3 := lhd (Ha.out.congr (h := fun x => Q x * c0) fun x hx => if_pos hx)
      clear hie Ha hi hil
      obtain ⟨x, hx⟩ : ∃ x, Q k * c0 = x := ⟨_, rfl⟩
      obtain ⟨z, hz⟩ : ∃ z, x + t = z := ⟨_, rfl⟩
      have hxb : Bn x 200000000 := by rw [← hx]; exact ((HQb.out k).mul Hc0b.out).up (by omega)
      have hP := fun W => addc_any x t (hxb.size 100000000 (by omega)) (Htb.out.size 100000000 (by omega)) W
      obtain ⟨XX, hXX⟩ : ∃ Z, canon x = Z := ⟨_, rfl⟩
      obtain ⟨ZZ, hZZ⟩ : ∃ Z, canon z = Z := ⟨_, rfl⟩
      rw [hz, hXX, HCT.out, hZZ] at hP
      have HP := lhd hP
      have HNX : Hid (∀ y, Q y * c0 + (if y = k then t else 0) = if y = k then z else Q y * c0) := lhd (fun y => by
       by_cases e : y = k
       ·rw [if_pos e, if_pos e, e, hx, hz]
       ·rw [if_neg e, if_neg e]; omega)
      have HXe : Hid (Q k * c0 = x) := lhd hx
      have HXX1 := lhd hXX
      have HZ1 := lhd hZZ
      have hgal : gq < wr.heap.size := Hq3.out.1
      have hgol : gr < wr.heap.size := Ho.out.1
      have hgtl : gt < wr.heap.size := HT.out.2.2.2.2
      obtain ⟨X1, hX1⟩ : ∃ Z, wr = Z := ⟨_, rfl⟩
      rw [hX1] at Hq3 Ho HT HB hgal hgol hgtl ⊢
      clear hx hz hxb hP hXX hZZ hX1
      go_upto_region 15 with (fail)
      have HXX : Hid (∀ W, Below X1.heap.size X1 W → ZAt W gq D1 (fun x => Q x * c0) ∧ ZAt W gr n R ∧ BoxAt W gt (.bool CT.neg) (.string CT.mag) ∧ Below gX X W) := lhd (fun W hW => ⟨Hq3.out.below hW hgal, Ho.out.below hW hgol, HT.out.below hW hgtl, HB.out.trans (hW.mono (by omega))⟩)
      obtain ⟨SS, hSe⟩ : ∃ SS : World → Prop, SS = fun W => W.cell? ⟨gt, 0, none⟩ = some (.bool CT.neg) ∧ W.cell? ⟨gt, 1, none⟩ = some (.string CT.mag) := ⟨_, rfl⟩
      have HS : Hid (∀ W, Below X1.heap.size X1 W → SS W) := lhd (fun W hW => by
       obtain ⟨d0, d1, _, _, _⟩ := HT.out
       rw [hSe]; exact ⟨cell_below hW d0, cell_below hW d1⟩)
      clear Hq3 Ho HT HB
      have hd : Below X1.heap.size X1 X1.drew := (Below.refl _ _).drew
      refine wp_region_held_drew (S := SS) (by kernel_rfl) (HS.out _ hd) (fun hSS => ?_)
      refine wpAnyH_take (i := 0) (v := ?_) rfl (by kernel_rfl) (by kernel_rfl) (by kernel_rfl) (fun _ _ _ h => h) (Or.inl ⟨by rfl, ?_⟩) (HS.out _ hd) ?_
      rotate_left 1
      next => intro w hSw; rw [hSe] at hSw; obtain ⟨s1, s2⟩ := hSw; go_simp; try with_reducible rfl
      try simp only [Act.put, ny1, ny2, ny3, ny4, ny5, ny6]
      refine wpAnyH_take (i := 1) (v := ?_) rfl (by kernel_rfl) (by kernel_rfl) (by kernel_rfl) (fun _ _ _ h => h) (Or.inl ⟨by rfl, ?_⟩) (HS.out _ hd) ?_
      rotate_left 1
      next => intro w hSw; rw [hSe] at hSw; obtain ⟨s1, s2⟩ := hSw; go_simp; try with_reducible rfl
      try simp only [Act.put, ny1, ny2, ny3, ny4, ny5, ny6]
      refine wpAnyH_take (i := 2) (v := ?_) rfl (by kernel_rfl) (by kernel_rfl) (by kernel_rfl) (fun _ _ _ h => h) (Or.inl ⟨by rfl, ?_⟩) (HS.out _ hd) ?_
      rotate_left 1
      next => intro w hSw; rw [hSe] at hSw; obtain ⟨s1, s2⟩ := hSw; go_simp; try with_reducible rfl
      try simp only [Act.put, ny1, ny2, ny3, ny4, ny5, ny6]
      refine wpAnyH_take (i := 3) (v := ?_) rfl (by kernel_rfl) (by kernel_rfl) (by kernel_rfl) (fun _ _ _ h => h) (Or.inl ⟨by rfl, ?_⟩) (HS.out _ hd) ?_
      rotate_left 1
      next => intro w hSw; rw [hSe] at hSw; obtain ⟨s1, s2⟩ := hSw; go_simp; try with_reducible rfl
      try simp only [Act.put, ny1, ny2, ny3, ny4, ny5, ny6]
      refine wpAnyH_take (i := 4) (v := ?_) rfl (by kernel_rfl) (by kernel_rfl) (by kernel_rfl) (fun _ _ _ h => h) (Or.inl ⟨by rfl, ?_⟩) (HS.out _ hd) ?_
      rotate_left 1
      next => intro w hSw; rw [hSe] at hSw; obtain ⟨s1, s2⟩ := hSw; go_simp; try with_reducible rfl
      try simp only [Act.put, ny1, ny2, ny3, ny4, ny5, ny6]
      refine wpAnyH_take (i := 6) (v := ?_) rfl (by kernel_rfl) (by kernel_rfl) (by kernel_rfl) (fun _ _ _ h => h) (Or.inl ⟨by rfl, ?_⟩) (HS.out _ hd) ?_
      rotate_left 1
      next => intro w hSw; rw [hSe] at hSw; obtain ⟨s1, s2⟩ := hSw; go_simp; try with_reducible rfl
      try simp only [Act.put, ny1, ny2, ny3, ny4, ny5, ny6]
      refine wpAnyH_ready (rs := [5]) (by kernel_rfl) (by simp) ?_
      refine AllReadyH.cons rfl (fun K hK => ?_) AllReadyH.nil
      obtain ⟨hv1, hv2, hv3, hv4⟩ := HXX.out _ hd
      obtain ⟨⟨z0, z1⟩, z2, z3⟩ := hv1.2 k hkD
      try dsimp only at z0 z1
      rw [HXe.out, HXX1.out] at z0 z1
      go_simp
      refine hK.out _ _ (HS.out _ hd) (fun _ => ?_)
      clear hK K z0 z1 z2 z3 hv1
      try simp only [Act.put, ny1, ny2, ny3, ny4, ny5, ny6]
      refine wpAnyH_ready (rs := [7]) (by kernel_rfl) (by simp) ?_
      refine AllReadyH.cons rfl (fun K hK => ?_) AllReadyH.nil
      go_simp
      refine (HP.out _).mono ?_
      rintro e w10 ⟨rfl, hbc⟩
      have hb10 : Below X1.heap.size X1 w10 := hd.trans (hbc.mono hd.size)
      dsimp only
      refine hK.out _ _ (HS.out _ hb10) (fun _ => ?_)
      clear hK K hbc
      refine wpAnyH_take (i := 8) (v := ?_) rfl (by kernel_rfl) (by kernel_rfl) (by kernel_rfl) (fun _ _ _ h => h) (Or.inl ⟨by rfl, ?_⟩) (HS.out _ hb10) ?_
      rotate_left 1
      next => intro w hSw; rw [hSe] at hSw; obtain ⟨s1, s2⟩ := hSw; go_simp; try with_reducible rfl
      try simp only [Act.put, ny1, ny2, ny3, ny4, ny5, ny6]
      refine wpAnyH_ready (rs := [9]) (by kernel_rfl) (by simp) ?_
      refine AllReadyH.cons rfl (fun K hK => ?_) AllReadyH.nil
      obtain ⟨hv1, hv2, hv3, hv4⟩ := HXX.out _ hb10
      obtain ⟨⟨z0, z1⟩, z2, z3⟩ := hv1.2 k hkD
      have hss := HS.out _ hb10
      have hs2 : SS ((w10.setCell ⟨gq, k * 2, none⟩ (.bool ZZ.neg)).setCell ⟨gq, k * 2 + 1, none⟩ (.string ZZ.mag)) := by
       rw [hSe] at hss ⊢
       obtain ⟨s1, s2⟩ := hss
       refine ⟨?_, ?_⟩ <;> (rw [World.cell?_setCell_other _ _ _ _ (by intro hh; simp only [Addr.mk.injEq] at hh; omega), World.cell?_setCell_other _ _ _ _ (by intro hh; simp only [Addr.mk.injEq] at hh; omega)]; assumption)
      have hrs := hv1.set (k := k) z
      rw [HZ1.out] at hrs
      have F1 := lhd (hrs.congr fun k _ => (HNX.out k).symm)
      have F2 := lhd ((hv2.other ⟨gq, k * 2, none⟩ (.bool ZZ.neg) (by dsimp only; omega)).other ⟨gq, k * 2 + 1, none⟩ (.string ZZ.mag) (by dsimp only; omega))
      have F3 := lhd ((hv3.far ⟨gq, k * 2, none⟩ (.bool ZZ.neg) (by dsimp only; omega)).far ⟨gq, k * 2 + 1, none⟩ (.string ZZ.mag) (by dsimp only; omega))
      have F4 := lhd ((hv4.setCell (p := ⟨gq, k * 2, none⟩) (by first | assumption | omega | (dsimp only; omega)) (.bool ZZ.neg)).setCell (p := ⟨gq, k * 2 + 1, none⟩) (by first | assumption | omega | (dsimp only; omega)) (.string ZZ.mag))
      go_simp
      refine hK.out _ _ hs2 (fun _ => ?_)
      clear hK K z0 z1 z2 z3 hss hs2 hrs hv1 hv2 hv3 hv4
      refine wpAnyH_done (by kernel_rfl) ?_ _
      clear HP HXX1 HXe HZ1 HNX HXX HS hSe hSS hd hgal hgol hgtl
      have Hq2 := F1
      have Hr2 := F2
      have HT2 := F3
      have HB2 := F4
      clear F1 F2 F3 F4
      go_wp2_with fail
      go_loopw [75] (fun iv wr => ∃ i : Nat, i ≤ n ∧ iv = .int .i64 (i : Nat) ∧ Hid (ZAt wr gr n (fun x => if x < i then R x * c0 else R x)) ∧ Hid (ZAt wr gq D1 (fun x => Q x * c0 + (if x = k then t else 0))) ∧ Hid (BoxAt wr gt (.bool CT.neg) (.string CT.mag)) ∧ Hid (Below gX X wr)) (fun iv _ => n - (intOf iv).toNat)
      case atStart => exact ⟨0, by omega, by go_num, lhd (Hr2.out.congr fun k _ => by rw [if_neg (Nat.not_lt_zero k)]), Hq2, HT2, HB2⟩
      case round =>
       clear Hr2 Hq2 HT2 HB2
       obtain ⟨i, hi, rfl, Ha, Ho, HT, HB⟩ := hrel
       by_cases hil : i < n
       ·have i0 : (0 : Int) ≤ (i : Int) := by omega
        have i1 : (i : Int) < (n : Int) := by omega
        obtain ⟨_, hcb⟩ := HK.out _ HB.out
        obtain ⟨x, hx⟩ : ∃ x, R i = x := ⟨_, rfl⟩
        obtain ⟨z, hz⟩ : ∃ z, x * c0 = z := ⟨_, rfl⟩
        have hxb : Bn x 100000000 := by rw [← hx]; exact HRb.out i
        have hP := fun W => mulc_any x c0 (hxb.size 100000000 (by omega)) (Hc0b.out.size 100000000 (by omega)) W
        obtain ⟨XX, hXX⟩ : ∃ Z, canon x = Z := ⟨_, rfl⟩
        obtain ⟨ZZ, hZZ⟩ : ∃ Z, canon z = Z := ⟨_, rfl⟩
        rw [hz, hXX, HCe.out, hZZ] at hP
        have HP := lhd hP
        have HNX : Hid (∀ y, (if y < i + 1 then R y * c0 else R y) = if y = i then z else if y < i then R y * c0 else R y) := lhd (fun y => by
         by_cases e : y = i
         ·have h1 : y < i + 1 := by omega
          rw [if_pos h1, if_pos e, e, hx, hz]
         ·rw [if_neg e]
          by_cases e2 : y < i
          ·have h1 : y < i + 1 := by omega
           rw [if_pos h1, if_pos e2]
          ·have h1 : ¬ y < i + 1 := by omega
           rw [if_neg h1, if_neg e2])
        have HXe : Hid ((if i < i then R i * c0 else R i) = x) := lhd (by rw [if_neg (Nat.lt_irrefl i), hx])
        have HXX1 := lhd hXX
        have HZ1 := lhd hZZ
        have hgal : gr < wr.heap.size := Ha.out.1
        have hgol : gq < wr.heap.size := Ho.out.1
        have hgtl : gt < wr.heap.size := HT.out.2.2.2.2
        obtain ⟨X1, hX1⟩ : ∃ Z, wr = Z := ⟨_, rfl⟩
        rw [hX1] at Ha Ho HT HB hcb hgal hgol hgtl ⊢
        clear hx hz hxb hP hXX hZZ hX1
        go_upto_region 19 with (fail)
        have HXX : Hid (∀ W, Below X1.heap.size X1 W → ZAt W gr n (fun x => if x < i then R x * c0 else R x) ∧ ZAt W gq D1 (fun x => Q x * c0 + (if x = k then t else 0)) ∧ BoxAt W gt (.bool CT.neg) (.string CT.mag) ∧ Below gX X W) := lhd (fun W hW => ⟨Ha.out.below hW hgal, Ho.out.below hW hgol, HT.out.below hW hgtl, HB.out.trans (hW.mono (by omega))⟩)
        obtain ⟨SS, hSe⟩ : ∃ SS : World → Prop, SS = fun W => W.cell? ⟨gc, 0, none⟩ = some (.bool C.neg) ∧ W.cell? ⟨gc, 1, none⟩ = some (.string C.mag) := ⟨_, rfl⟩
        have HS : Hid (∀ W, Below X1.heap.size X1 W → SS W) := lhd (fun W hW => by
         obtain ⟨d0, d1, _, _, _⟩ := hcb
         rw [hSe]; exact ⟨cell_below hW d0, cell_below hW d1⟩)
        clear hcb Ha Ho HT HB
        have hd : Below X1.heap.size X1 X1.drew := (Below.refl _ _).drew
        refine wp_region_held_drew (S := SS) (by kernel_rfl) (HS.out _ hd) (fun hSS => ?_)
        refine wpAnyH_take (i := 0) (v := ?_) rfl (by kernel_rfl) (by kernel_rfl) (by kernel_rfl) (fun _ _ _ h => h) (Or.inl ⟨by rfl, ?_⟩) (HS.out _ hd) ?_
        rotate_left 1
        next => intro w hSw; rw [hSe] at hSw; obtain ⟨s1, s2⟩ := hSw; go_simp; try with_reducible rfl
        try simp only [Act.put, ny1, ny2, ny3, ny4, ny5, ny6]
        refine wpAnyH_take (i := 1) (v := ?_) rfl (by kernel_rfl) (by kernel_rfl) (by kernel_rfl) (fun _ _ _ h => h) (Or.inl ⟨by rfl, ?_⟩) (HS.out _ hd) ?_
        rotate_left 1
        next => intro w hSw; rw [hSe] at hSw; obtain ⟨s1, s2⟩ := hSw; go_simp; try with_reducible rfl
        try simp only [Act.put, ny1, ny2, ny3, ny4, ny5, ny6]
        refine wpAnyH_take (i := 2) (v := ?_) rfl (by kernel_rfl) (by kernel_rfl) (by kernel_rfl) (fun _ _ _ h => h) (Or.inl ⟨by rfl, ?_⟩) (HS.out _ hd) ?_
        rotate_left 1
        next => intro w hSw; rw [hSe] at hSw; obtain ⟨s1, s2⟩ := hSw; go_simp; try with_reducible rfl
        try simp only [Act.put, ny1, ny2, ny3, ny4, ny5, ny6]
        refine wpAnyH_take (i := 3) (v := ?_) rfl (by kernel_rfl) (by kernel_rfl) (by kernel_rfl) (fun _ _ _ h => h) (Or.inl ⟨by rfl, ?_⟩) (HS.out _ hd) ?_
        rotate_left 1
        next => intro w hSw; rw [hSe] at hSw; obtain ⟨s1, s2⟩ := hSw; go_simp; try with_reducible rfl
        try simp only [Act.put, ny1, ny2, ny3, ny4, ny5, ny6]
        refine wpAnyH_take (i := 4) (v := ?_) rfl (by kernel_rfl) (by kernel_rfl) (by kernel_rfl) (fun _ _ _ h => h) (Or.inl ⟨by rfl, ?_⟩) (HS.out _ hd) ?_
        rotate_left 1
        next => intro w hSw; rw [hSe] at hSw; obtain ⟨s1, s2⟩ := hSw; go_simp; try with_reducible rfl
        try simp only [Act.put, ny1, ny2, ny3, ny4, ny5, ny6]
        refine wpAnyH_take (i := 6) (v := ?_) rfl (by kernel_rfl) (by kernel_rfl) (by kernel_rfl) (fun _ _ _ h => h) (Or.inl ⟨by rfl, ?_⟩) (HS.out _ hd) ?_
        rotate_left 1
        next => intro w hSw; rw [hSe] at hSw; obtain ⟨s1, s2⟩ := hSw; go_simp; try with_reducible rfl
        try simp only [Act.put, ny1, ny2, ny3, ny4, ny5, ny6]
        refine wpAnyH_ready (rs := [5]) (by kernel_rfl) (by simp) ?_
        refine AllReadyH.cons rfl (fun K hK => ?_) AllReadyH.nil
        obtain ⟨hv1, hv2, hv3, hv4⟩ := HXX.out _ hd
        obtain ⟨⟨z0, z1⟩, z2, z3⟩ := hv1.2 i hil
        try dsimp only at z0 z1
        rw [HXe.out, HXX1.out] at z0 z1
        go_simp
        refine hK.out _ _ (HS.out _ hd) (fun _ => ?_)
        clear hK K z0 z1 z2 z3 hv1
        try simp only [Act.put, ny1, ny2, ny3, ny4, ny5, ny6]
        refine wpAnyH_ready (rs := [7]) (by kernel_rfl) (by simp) ?_
        refine AllReadyH.cons rfl (fun K hK => ?_) AllReadyH.nil
        go_simp
        refine (HP.out _).mono ?_
        rintro e w11 ⟨rfl, hbc⟩
        have hb11 : Below X1.heap.size X1 w11 := hd.trans (hbc.mono hd.size)
        dsimp only
        refine hK.out _ _ (HS.out _ hb11) (fun _ => ?_)
        clear hK K hbc
        refine wpAnyH_take (i := 8) (v := ?_) rfl (by kernel_rfl) (by kernel_rfl) (by kernel_rfl) (fun _ _ _ h => h) (Or.inl ⟨by rfl, ?_⟩) (HS.out _ hb11) ?_
        rotate_left 1
        next => intro w hSw; rw [hSe] at hSw; obtain ⟨s1, s2⟩ := hSw; go_simp; try with_reducible rfl
        try simp only [Act.put, ny1, ny2, ny3, ny4, ny5, ny6]
        refine wpAnyH_ready (rs := [9]) (by kernel_rfl) (by simp) ?_
        refine AllReadyH.cons rfl (fun K hK => ?_) AllReadyH.nil
        obtain ⟨hv1, hv2, hv3, hv4⟩ := HXX.out _ hb11
        obtain ⟨⟨z0, z1⟩, z2, z3⟩ := hv1.2 i hil
        have hss := HS.out _ hb11
        have hs2 : SS ((w11.setCell ⟨gr, i * 2, none⟩ (.bool ZZ.neg)).setCell ⟨gr, i * 2 + 1, none⟩ (.string ZZ.mag)) := by
         rw [hSe] at hss ⊢
         obtain ⟨s1, s2⟩ := hss
         refine ⟨?_, ?_⟩ <;> (rw [World.cell?_setCell_other _ _ _ _ (by intro hh; simp only [Addr.mk.injEq] at hh; omega), World.cell?_setCell_other _ _ _ _ (by intro hh; simp only [Addr.mk.injEq] at hh; omega)]; assumption)
        have hrs := hv1.set (k := i) z
        rw [HZ1.out] at hrs
        have F1 := lhd (hrs.congr fun k _ => (HNX.out k).symm)
        have F2 := lhd ((hv2.other ⟨gr, i * 2, none⟩ (.bool ZZ.neg) (by dsimp only; omega)).other ⟨gr, i * 2 + 1, none⟩ (.string ZZ.mag) (by dsimp only; omega))
        have F3 := lhd ((hv3.far ⟨gr, i * 2, none⟩ (.bool ZZ.neg) (by dsimp only; omega)).far ⟨gr, i * 2 + 1, none⟩ (.string ZZ.mag) (by dsimp only; omega))
        have F4 := lhd ((hv4.setCell (p := ⟨gr, i * 2, none⟩) (by first | assumption | omega | (dsimp only; omega)) (.bool ZZ.neg)).setCell (p := ⟨gr, i * 2 + 1, none⟩) (by first | assumption | omega | (dsimp only; omega)) (.string ZZ.mag))
        go_simp
        refine hK.out _ _ hs2 (fun _ => ?_)
        clear hK K z0 z1 z2 z3 hss hs2 hrs hv1 hv2 hv3 hv4
        refine wpAnyH_done (by kernel_rfl) ?_ _
        go_wp2_with fail
        go_roundw
        case rel => exact ⟨i + 1, by omega, by go_num, F1, F2, F3, F4⟩
        case measure => simp [intOf]; omega
       ·have i1 : ¬ (i : Int) < (n : Int) := by omega
        have hie : i = n := by omega
        rw [hie] at Ha
        have Hr3 := lhd (Ha.out.congr (h := fun x => R x * c0 - (if k ≤ x ∧ x < k + 0 then t * g (x - k) else 0)) fun x hx => by
         have h0 : ¬ (k ≤ x ∧ x < k + 0) := by omega
         rw [if_pos hx, if_neg h0]; omega)
        clear hie Ha hi hil
        go_wp2_with fail
        go_loopw [90] (fun iv wr => ∃ i : Nat, i ≤ m ∧ iv = .int .i64 (i : Nat) ∧ Hid (ZAt wr gr n (fun x => R x * c0 - (if k ≤ x ∧ x < k + i then t * g (x - k) else 0))) ∧ Hid (ZAt wr gq D1 (fun x => Q x * c0 + (if x = k then t else 0))) ∧ Hid (BoxAt wr gt (.bool CT.neg) (.string CT.mag)) ∧ Hid (Below gX X wr)) (fun iv _ => m - (intOf iv).toNat)
        case atStart => exact ⟨0, by omega, by go_num, Hr3, Ho, HT, HB⟩
        case round =>
         clear Hr3 Ho HT HB
         obtain ⟨i, hi, rfl, Ha, Ho, HT, HB⟩ := hrel
         by_cases hil : i < m
         ·have i0 : (0 : Int) ≤ (i : Int) := by omega
          have i1 : (i : Int) < (m : Int) := by omega
          obtain ⟨hrb, _⟩ := HK.out _ HB.out
          obtain ⟨qb', qo', heq, _, hqc⟩ := RowF.cells hrb hil
          cases heq
          obtain ⟨b0, b1⟩ := hqc i hil
          obtain ⟨s, hse⟩ : ∃ s, k + i = s := ⟨_, rfl⟩
          have ea : s < n := by have := HDn.out; have := HD1.out; omega
          have s1 : (k : Int) + (i : Int) = (s : Int) := by omega
          have s2 : (s : Int) < (n : Int) := by omega
          have s0 : (0 : Int) ≤ (s : Int) := by omega
          have s7 : IntKind.i64.wrap (s : Int) = (s : Int) := IntWalk.i64_in _ (by omega)
          obtain ⟨CY, hCY⟩ : ∃ z, canon (g i) = z := ⟨_, rfl⟩
          rw [hCY] at b0 b1
          have hM := fun W => mulc_any t (g i) (Htb.out.size 100000000 (by omega)) ((Hg.out i).size 100000000 (by omega)) W
          obtain ⟨x, hx⟩ : ∃ x, R s * c0 = x := ⟨_, rfl⟩
          obtain ⟨y, hy⟩ : ∃ x, t * g i = x := ⟨_, rfl⟩
          obtain ⟨z, hz⟩ : ∃ z, x - y = z := ⟨_, rfl⟩
          have hxb : Bn x 200000000 := by rw [← hx]; exact ((HRb.out s).mul Hc0b.out).up (by omega)
          have hyb : Bn y 200000000 := by rw [← hy]; exact (Htb.out.mul (Hg.out i)).up (by omega)
          have hP := fun W => sub_any (canon x) (canon y) (hxb.size 100000000 (by omega)) (hyb.size 100000000 (by omega)) W
          simp only [valZ_canon] at hP
          obtain ⟨XX, hXX⟩ : ∃ Z, canon x = Z := ⟨_, rfl⟩
          obtain ⟨YY, hYY⟩ : ∃ Z, canon y = Z := ⟨_, rfl⟩
          obtain ⟨ZZ, hZZ⟩ : ∃ Z, canon z = Z := ⟨_, rfl⟩
          rw [hz, hXX, hYY, hZZ] at hP
          rw [hy, hYY, HCT.out, hCY] at hM
          have HP := lhd hP
          have HM := lhd hM
          have HNX : Hid (∀ v, R v * c0 - (if k ≤ v ∧ v < k + (i + 1) then t * g (v - k) else 0) = if v = s then z else R v * c0 - (if k ≤ v ∧ v < k + i then t * g (v - k) else 0)) := lhd (fun v => by
           by_cases e : v = s
           ·have h1 : k ≤ v ∧ v < k + (i + 1) := by omega
            rw [if_pos h1, if_pos e, e, hx, show s - k = i from by omega, hy, hz]
           ·rw [if_neg e]
            by_cases e2 : k ≤ v ∧ v < k + i
            ·have h1 : k ≤ v ∧ v < k + (i + 1) := by omega
             rw [if_pos h1, if_pos e2]
            ·have h1 : ¬ (k ≤ v ∧ v < k + (i + 1)) := by omega
             rw [if_neg h1, if_neg e2])
          have HXe : Hid (R s * c0 - (if k ≤ s ∧ s < k + i then t * g (s - k) else 0) = x) := lhd (by
           have h1 : ¬ (k ≤ s ∧ s < k + i) := by omega
           rw [if_neg h1, hx]; omega)
          have HXX1 := lhd hXX
          have HZ1 := lhd hZZ
          clear hrb hqc hse hCY hM hx hy hz hxb hyb hP hXX hYY hZZ
          go_upto_region 24 with (fail)
          clear b0 b1
          have hal := (Below.refl wr.heap.size wr).alloc (Nat.le_refl _) (.cells #[.bool CY.neg, .string CY.mag] 24)
          have hbx := BoxAt.new wr (.bool CY.neg) (.string CY.mag) 24
          obtain ⟨gy, hgy⟩ : ∃ k, wr.heap.size = k := ⟨_, rfl⟩
          have ha2 := Ha.out.below hal Ha.out.1
          have ho2 := Ho.out.below hal Ho.out.1
          have ht2 := HT.out.below hal HT.out.2.2.2.2
          have hgyt : gt < gy := by rw [← hgy]; exact HT.out.2.2.2.2
          have hb2 := HB.out.trans (hal.mono (by omega))
          rw [hgy] at hbx ⊢
          clear hal Ha Ho HT HB hgy
          generalize wr.alloc (.cells #[.bool CY.neg, .string CY.mag] 24) = X1 at *
          have HXX : Hid (∀ W, Below X1.heap.size X1 W → ZAt W gr n (fun x => R x * c0 - (if k ≤ x ∧ x < k + i then t * g (x - k) else 0)) ∧ ZAt W gq D1 (fun x => Q x * c0 + (if x = k then t else 0)) ∧ BoxAt W gt (.bool CT.neg) (.string CT.mag) ∧ Below gX X W) := lhd (fun W hW => ⟨ha2.below hW ha2.1, ho2.below hW ho2.1, ht2.below hW ht2.2.2.2.2, hb2.trans (hW.mono (by have := ha2.1; omega))⟩)
          obtain ⟨SS, hSe⟩ : ∃ SS : World → Prop, SS = fun W => W.cell? ⟨gt, 0, none⟩ = some (.bool CT.neg) ∧ W.cell? ⟨gt, 1, none⟩ = some (.string CT.mag) ∧ W.cell? ⟨gy, 0, none⟩ = some (.bool CY.neg) ∧ W.cell? ⟨gy, 1, none⟩ = some (.string CY.mag) := ⟨_, rfl⟩
          have HS : Hid (∀ W, Below X1.heap.size X1 W → SS W) := lhd (fun W hW => by
           obtain ⟨d0, d1, _, _, _⟩ := ht2
           obtain ⟨e0, e1, _, _, _⟩ := hbx
           rw [hSe]; exact ⟨cell_below hW d0, cell_below hW d1, cell_below hW e0, cell_below hW e1⟩)
          clear hbx ha2 ho2 ht2 hb2
          have hd : Below X1.heap.size X1 X1.drew := (Below.refl _ _).drew
          refine wp_region_held_drew (S := SS) (by kernel_rfl) (HS.out _ hd) (fun hSS => ?_)
          refine wpAnyH_take (i := 0) (v := ?_) rfl (by kernel_rfl) (by kernel_rfl) (by kernel_rfl) (fun _ _ _ h => h) (Or.inl ⟨by rfl, ?_⟩) (HS.out _ hd) ?_
          rotate_left 1
          next => intro w hSw; rw [hSe] at hSw; obtain ⟨s1, s2, s3, s4⟩ := hSw; go_simp; try with_reducible rfl
          try simp only [Act.put, ny1, ny2, ny3, ny4, ny5, ny6]
          refine wpAnyH_take (i := 1) (v := ?_) rfl (by kernel_rfl) (by kernel_rfl) (by kernel_rfl) (fun _ _ _ h => h) (Or.inl ⟨by rfl, ?_⟩) (HS.out _ hd) ?_
          rotate_left 1
          next => intro w hSw; rw [hSe] at hSw; obtain ⟨s1, s2, s3, s4⟩ := hSw; go_simp; try with_reducible rfl
          try simp only [Act.put, ny1, ny2, ny3, ny4, ny5, ny6]
          refine wpAnyH_take (i := 2) (v := ?_) rfl (by kernel_rfl) (by kernel_rfl) (by kernel_rfl) (fun _ _ _ h => h) (Or.inl ⟨by rfl, ?_⟩) (HS.out _ hd) ?_
          rotate_left 1
          next => intro w hSw; rw [hSe] at hSw; obtain ⟨s1, s2, s3, s4⟩ := hSw; go_simp; try with_reducible rfl
          try simp only [Act.put, ny1, ny2, ny3, ny4, ny5, ny6]
          refine wpAnyH_take (i := 3) (v := ?_) rfl (by kernel_rfl) (by kernel_rfl) (by kernel_rfl) (fun _ _ _ h => h) (Or.inl ⟨by rfl, ?_⟩) (HS.out _ hd) ?_
          rotate_left 1
          next => intro w hSw; rw [hSe] at hSw; obtain ⟨s1, s2, s3, s4⟩ := hSw; go_simp; try with_reducible rfl
          try simp only [Act.put, ny1, ny2, ny3, ny4, ny5, ny6]
          refine wpAnyH_take (i := 4) (v := ?_) rfl (by kernel_rfl) (by kernel_rfl) (by kernel_rfl) (fun _ _ _ h => h) (Or.inl ⟨by rfl, ?_⟩) (HS.out _ hd) ?_
          rotate_left 1
          next => intro w hSw; rw [hSe] at hSw; obtain ⟨s1, s2, s3, s4⟩ := hSw; go_simp; try with_reducible rfl
          try simp only [Act.put, ny1, ny2, ny3, ny4, ny5, ny6]
          refine wpAnyH_take (i := 5) (v := ?_) rfl (by kernel_rfl) (by kernel_rfl) (by kernel_rfl) (fun _ _ _ h => h) (Or.inl ⟨by rfl, ?_⟩) (HS.out _ hd) ?_
          rotate_left 1
          next => intro w hSw; rw [hSe] at hSw; obtain ⟨s1, s2, s3, s4⟩ := hSw; go_simp; try with_reducible rfl
          try simp only [Act.put, ny1, ny2, ny3, ny4, ny5, ny6]
          refine wpAnyH_take (i := 6) (v := ?_) rfl (by kernel_rfl) (by kernel_rfl) (by kernel_rfl) (fun _ _ _ h => h) (Or.inl ⟨by rfl, ?_⟩) (HS.out _ hd) ?_
          rotate_left 1
          next => intro w hSw; rw [hSe] at hSw; obtain ⟨s1, s2, s3, s4⟩ := hSw; go_simp; try with_reducible rfl
          try simp only [Act.put, ny1, ny2, ny3, ny4, ny5, ny6]
          refine wpAnyH_take (i := 7) (v := ?_) rfl (by kernel_rfl) (by kernel_rfl) (by kernel_rfl) (fun _ _ _ h => h) (Or.inl ⟨by rfl, ?_⟩) (HS.out _ hd) ?_
          rotate_left 1
          next => intro w hSw; rw [hSe] at hSw; obtain ⟨s1, s2, s3, s4⟩ := hSw; go_simp; try with_reducible rfl
          try simp only [Act.put, ny1, ny2, ny3, ny4, ny5, ny6]
          refine wpAnyH_take (i := 8) (v := ?_) rfl (by kernel_rfl) (by kernel_rfl) (by kernel_rfl) (fun _ _ _ h => h) (Or.inl ⟨by rfl, ?_⟩) (HS.out _ hd) ?_
          rotate_left 1
          next => intro w hSw; rw [hSe] at hSw; obtain ⟨s1, s2, s3, s4⟩ := hSw; go_simp; try with_reducible rfl
          try simp only [Act.put, ny1, ny2, ny3, ny4, ny5, ny6]
          refine wpAnyH_take (i := 10) (v := ?_) rfl (by kernel_rfl) (by kernel_rfl) (by kernel_rfl) (fun _ _ _ h => h) (Or.inl ⟨by rfl, ?_⟩) (HS.out _ hd) ?_
          rotate_left 1
          next => intro w hSw; rw [hSe] at hSw; obtain ⟨s1, s2, s3, s4⟩ := hSw; go_simp; try with_reducible rfl
          try simp only [Act.put, ny1, ny2, ny3, ny4, ny5, ny6]
          refine wpAnyH_take (i := 11) (v := ?_) rfl (by kernel_rfl) (by kernel_rfl) (by kernel_rfl) (fun _ _ _ h => h) (Or.inl ⟨by rfl, ?_⟩) (HS.out _ hd) ?_
          rotate_left 1
          next => intro w hSw; rw [hSe] at hSw; obtain ⟨s1, s2, s3, s4⟩ := hSw; go_simp; try with_reducible rfl
          try simp only [Act.put, ny1, ny2, ny3, ny4, ny5, ny6]
          refine wpAnyH_ready (rs := [9, 12]) (by kernel_rfl) (by simp) ?_
          refine AllReadyH.cons rfl (fun K hK => ?_) (AllReadyH.cons rfl (fun K hK => ?_) AllReadyH.nil)
          ·obtain ⟨hv1, hv2, hv3, hv4⟩ := HXX.out _ hd
           obtain ⟨⟨z0, z1⟩, z2, z3⟩ := hv1.2 s ea
           try dsimp only at z0 z1
           rw [HXe.out, HXX1.out] at z0 z1
           go_simp
           refine hK.out _ _ (HS.out _ hd) (fun _ => ?_)
           clear hK K z0 z1 z2 z3 hv1
           try simp only [Act.put, ny1, ny2, ny3, ny4, ny5, ny6]
           refine wpAnyH_ready (rs := [12]) (by kernel_rfl) (by simp) ?_
           refine AllReadyH.cons rfl (fun K hK => ?_) AllReadyH.nil
           go_simp
           refine (HM.out _).mono ?_
           rintro e w12 ⟨rfl, hbc⟩
           have hb12 : Below X1.heap.size X1 w12 := hd.trans (hbc.mono hd.size)
           dsimp only
           refine hK.out _ _ (HS.out _ hb12) (fun _ => ?_)
           clear hK K hbc
           try simp only [Act.put, ny1, ny2, ny3, ny4, ny5, ny6]
           refine wpAnyH_ready (rs := [13]) (by kernel_rfl) (by simp) ?_
           refine AllReadyH.cons rfl (fun K hK => ?_) AllReadyH.nil
           go_simp
           refine (HP.out _).mono ?_
           rintro e w13 ⟨rfl, hbc⟩
           have hb13 : Below X1.heap.size X1 w13 := hb12.trans (hbc.mono hb12.size)
           dsimp only
           refine hK.out _ _ (HS.out _ hb13) (fun _ => ?_)
           clear hK K hbc
           refine wpAnyH_take (i := 14) (v := ?_) rfl (by kernel_rfl) (by kernel_rfl) (by kernel_rfl) (fun _ _ _ h => h) (Or.inl ⟨by rfl, ?_⟩) (HS.out _ hb13) ?_
           rotate_left 1
           next => intro w hSw; rw [hSe] at hSw; obtain ⟨s1, s2, s3, s4⟩ := hSw; go_simp; try with_reducible rfl
           try simp only [Act.put, ny1, ny2, ny3, ny4, ny5, ny6]
           refine wpAnyH_ready (rs := [15]) (by kernel_rfl) (by simp) ?_
           refine AllReadyH.cons rfl (fun K hK => ?_) AllReadyH.nil
           obtain ⟨hv1, hv2, hv3, hv4⟩ := HXX.out _ hb13
           obtain ⟨⟨z0, z1⟩, z2, z3⟩ := hv1.2 s ea
           have hss := HS.out _ hb13
           have hs2 : SS ((w13.setCell ⟨gr, s * 2, none⟩ (.bool ZZ.neg)).setCell ⟨gr, s * 2 + 1, none⟩ (.string ZZ.mag)) := by
            rw [hSe] at hss ⊢
            obtain ⟨s1, s2, s3, s4⟩ := hss
            refine ⟨?_, ?_, ?_, ?_⟩ <;> (rw [World.cell?_setCell_other _ _ _ _ (by intro hh; simp only [Addr.mk.injEq] at hh; omega), World.cell?_setCell_other _ _ _ _ (by intro hh; simp only [Addr.mk.injEq] at hh; omega)]; assumption)
           have hrs := hv1.set (k := s) z
           rw [HZ1.out] at hrs
           have F1 := lhd (hrs.congr fun k _ => (HNX.out k).symm)
           have F2 := lhd ((hv2.other ⟨gr, s * 2, none⟩ (.bool ZZ.neg) (by dsimp only; omega)).other ⟨gr, s * 2 + 1, none⟩ (.string ZZ.mag) (by dsimp only; omega))
           have F3 := lhd ((hv3.far ⟨gr, s * 2, none⟩ (.bool ZZ.neg) (by dsimp only; omega)).far ⟨gr, s * 2 + 1, none⟩ (.string ZZ.mag) (by dsimp only; omega))
           have F4 := lhd ((hv4.setCell (p := ⟨gr, s * 2, none⟩) (by first | assumption | omega | (dsimp only; omega)) (.bool ZZ.neg)).setCell (p := ⟨gr, s * 2 + 1, none⟩) (by first | assumption | omega | (dsimp only; omega)) (.string ZZ.mag))
           go_simp
           refine hK.out _ _ hs2 (fun _ => ?_)
           clear hK K z0 z1 z2 z3 hss hs2 hrs hv1 hv2 hv3 hv4
           refine wpAnyH_done (by kernel_rfl) ?_ _
           go_wp2_with fail
           go_roundw
           case rel => exact ⟨i + 1, by omega, by go_num, F1, F2, F3, F4⟩
           case measure => simp [intOf]; omega
          ·go_simp
           refine (HM.out _).mono ?_
           rintro e w14 ⟨rfl, hbc⟩
           have hb14 : Below X1.heap.size X1 w14 := hd.trans (hbc.mono hd.size)
           dsimp only
           refine hK.out _ _ (HS.out _ hb14) (fun _ => ?_)
           clear hK K hbc
           try simp only [Act.put, ny1, ny2, ny3, ny4, ny5, ny6]
           refine wpAnyH_ready (rs := [9]) (by kernel_rfl) (by simp) ?_
           refine AllReadyH.cons rfl (fun K hK => ?_) AllReadyH.nil
           obtain ⟨hv1, hv2, hv3, hv4⟩ := HXX.out _ hb14
           obtain ⟨⟨z0, z1⟩, z2, z3⟩ := hv1.2 s ea
           try dsimp only at z0 z1
           rw [HXe.out, HXX1.out] at z0 z1
           go_simp
           refine hK.out _ _ (HS.out _ hb14) (fun _ => ?_)
           clear hK K z0 z1 z2 z3 hv1
           try simp only [Act.put, ny1, ny2, ny3, ny4, ny5, ny6]
           refine wpAnyH_ready (rs := [13]) (by kernel_rfl) (by simp) ?_
           refine AllReadyH.cons rfl (fun K hK => ?_) AllReadyH.nil
           go_simp
           refine (HP.out _).mono ?_
           rintro e w15 ⟨rfl, hbc⟩
           have hb15 : Below X1.heap.size X1 w15 := hb14.trans (hbc.mono hb14.size)
           dsimp only
           refine hK.out _ _ (HS.out _ hb15) (fun _ => ?_)
           clear hK K hbc
           refine wpAnyH_take (i := 14) (v := ?_) rfl (by kernel_rfl) (by kernel_rfl) (by kernel_rfl) (fun _ _ _ h => h) (Or.inl ⟨by rfl, ?_⟩) (HS.out _ hb15) ?_
           rotate_left 1
           next => intro w hSw; rw [hSe] at hSw; obtain ⟨s1, s2, s3, s4⟩ := hSw; go_simp; try with_reducible rfl
           try simp only [Act.put, ny1, ny2, ny3, ny4, ny5, ny6]
           refine wpAnyH_ready (rs := [15]) (by kernel_rfl) (by simp) ?_
           refine AllReadyH.cons rfl (fun K hK => ?_) AllReadyH.nil
           obtain ⟨hv1, hv2, hv3, hv4⟩ := HXX.out _ hb15
           obtain ⟨⟨z0, z1⟩, z2, z3⟩ := hv1.2 s ea
           have hss := HS.out _ hb15
           have hs2 : SS ((w15.setCell ⟨gr, s * 2, none⟩ (.bool ZZ.neg)).setCell ⟨gr, s * 2 + 1, none⟩ (.string ZZ.mag)) := by
            rw [hSe] at hss ⊢
            obtain ⟨s1, s2, s3, s4⟩ := hss
            refine ⟨?_, ?_, ?_, ?_⟩ <;> (rw [World.cell?_setCell_other _ _ _ _ (by intro hh; simp only [Addr.mk.injEq] at hh; omega), World.cell?_setCell_other _ _ _ _ (by intro hh; simp only [Addr.mk.injEq] at hh; omega)]; assumption)
           have hrs := hv1.set (k := s) z
           rw [HZ1.out] at hrs
           have F1 := lhd (hrs.congr fun k _ => (HNX.out k).symm)
           have F2 := lhd ((hv2.other ⟨gr, s * 2, none⟩ (.bool ZZ.neg) (by dsimp only; omega)).other ⟨gr, s * 2 + 1, none⟩ (.string ZZ.mag) (by dsimp only; omega))
           have F3 := lhd ((hv3.far ⟨gr, s * 2, none⟩ (.bool ZZ.neg) (by dsimp only; omega)).far ⟨gr, s * 2 + 1, none⟩ (.string ZZ.mag) (by dsimp only; omega))
           have F4 := lhd ((hv4.setCell (p := ⟨gr, s * 2, none⟩) (by first | assumption | omega | (dsimp only; omega)) (.bool ZZ.neg)).setCell (p := ⟨gr, s * 2 + 1, none⟩) (by first | assumption | omega | (dsimp only; omega)) (.string ZZ.mag))
           go_simp
           refine hK.out _ _ hs2 (fun _ => ?_)
           clear hK K z0 z1 z2 z3 hss hs2 hrs hv1 hv2 hv3 hv4
           refine wpAnyH_done (by kernel_rfl) ?_ _
           go_wp2_with fail
           go_roundw
           case rel => exact ⟨i + 1, by omega, by go_num, F1, F2, F3, F4⟩
           case measure => simp [intOf]; omega
         ·have i1 : ¬ (i : Int) < (m : Int) := by omega
          have hie : i = m := by omega
          rw [hie] at Ha
          have Hr9 : Hid (ZAt wr gr n (S (D1 - k)).2) := lhd (by rw [Hj.out, Hst.out]; exact Ha.out)
          have Hq9 : Hid (ZAt wr gq D1 (S (D1 - k)).1) := lhd (by rw [Hj.out, Hst.out]; exact Ho.out)
          clear hie Ha Ho HT
          go_wp2_with fail
          go_roundw
          case rel => exact ⟨k, by omega, by go_num, Hq9, Hr9, HB⟩
          case measure => simp [intOf]
   ·obtain rfl : 0 = i := by omega
    rw [show ((0 : Nat) : Int) - 1 = -1 from rfl]
    rw [Nat.sub_zero] at Hq Hr
    have hbs := HSb.out D1 (Nat.le_refl _)
    obtain ⟨Q, hQ⟩ : ∃ Q, (S D1).1 = Q := ⟨_, rfl⟩
    obtain ⟨R, hR⟩ : ∃ Q, (S D1).2 = Q := ⟨_, rfl⟩
    rw [hQ, hR] at hbs
    rw [hQ] at Hq
    rw [hR] at Hr
    have hq1 := Canonical_any D1 (fun k => canon (Q k)) (some ⟨gq, 0, none⟩) D1 hD6 (fun k _ => (hbs.1 k).size 100000000 (by omega)) wr Hq.out.row.g
    have hr1 := fun W (hW : Below wr.heap.size wr W) => Canonical_any n (fun k => canon (R k)) (some ⟨gr, 0, none⟩) cr (by omega) (fun k _ => (hbs.2 k).size 100000000 (by omega)) W ((Hr.out.below hW Hr.out.1).row.g)
    simp only [valZ_canon] at hq1 hr1
    have Hq1 := lhd hq1
    have Hr1 := lhd hr1
    have HE := lhd (show (S D1).1 = Q ∧ (S D1).2 = R from ⟨hQ, hR⟩)
    have HBw : Hid (Below w.heap.size w wr) := lhd (by
     have h1 := HB.out
     rw [← HXs.out] at h1
     rw [Hgc.out] at HA
     rw [Hgc.out]
     exact HA.out.trans (h1.mono (by rw [← Hgc.out]; exact HBX.out)))
    clear hbs hq1 hr1 hQ hR Hq Hr HB
    go_wp2_with fail
    refine Hq1.out.mono ?_
    rintro e1 w1 ⟨q1, c1, rfl, hra, hba⟩
    dsimp only
    have HR2 := lhd (Hr1.out _ hba)
    have Hra := lhd hra
    have Hba := lhd (HBw.out.trans (hba.mono HBw.out.size))
    clear hra hba Hq1 Hr1 HBw
    go_wp2_with fail
    refine HR2.out.mono ?_
    rintro e2 w2 ⟨q2, c2, rfl, hrb, hbb⟩
    dsimp only
    have Hra2 := lhd (RowF.below Hra.out (Nat.le_refl _) hbb)
    have Hrb := lhd hrb
    have Hbb := lhd (Hba.out.trans (hbb.mono Hba.out.size))
    clear hrb hbb Hra Hba HR2
    go_wp2_with fail
    go_ret2
    rw [HE.out.1, HE.out.2]
    exact ⟨q1, c1, q2, c2, rfl, Hra2.out, Hrb.out, Hbb.out⟩
end Go.Proofs.YtmbamcpndbimaaaGreatDoor
