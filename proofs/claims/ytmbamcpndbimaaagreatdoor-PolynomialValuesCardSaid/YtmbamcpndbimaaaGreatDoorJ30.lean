/- grooveref03.Derivative: the walk. -/
import Derived.Test.YtmbamcpndbimaaaGreatDoorJ29
namespace Go.Proofs.YtmbamcpndbimaaaGreatDoor
open List renaming getElem_toArray → ny1, getElem_cons_zero → ny2, getElem_cons_succ → ny3, setIfInBounds_toArray → ny4, set_cons_zero → ny5, set_cons_succ → ny6
open Go.RowKit Go.Shelf
theorem dgN_der (f : Nat → Int) : ∀ n, dgN (deC f) (n - 1) = dgN f n - 1
 | 0 => rfl
 | 1 => by
  show 0 = (if f 0 = 0 then dgN f 0 else 0 + 1) - 1
  split <;> rfl
 | n + 2 => by
  have ih := dgN_der f (n + 1)
  rw [Nat.add_sub_cancel] at ih
  show dgN (deC f) (n + 1) = _
  rw [dgN, dgN]
  by_cases h : f (n + 1) = 0
  ·rw [if_pos h, if_pos (by unfold deC; rw [h]; simp), ih]
  ·rw [if_neg h, if_neg (by
    unfold deC
    intro h1
    rcases Int.mul_eq_zero.1 h1 with h2 | h2
    ·exact h h2
    ·omega)]
   omega
set_option maxRecDepth 100000 in
set_option maxHeartbeats 8000000 in
theorem refDer3_any (n : Nat) (Z : Nat → ZI) (p : Option Addr) (c : Nat) (hn : n ≤ 1000) (hz : ∀ k, k < n → (Z k).mag.size < 10000000) (w : World) (hX : GRow w p n Z) :
  Calls Tryz.prog 35 #[.slice p n c] w (RetPol (dgN (fun k => valZ (Z k)) n - 1) (deC fun k => valZ (Z k)) w) := by
 have HX := lhd hX
 have hcs : ∀ i : Nat, i < n → (canon ((i : Nat) : Int)).mag.size ≤ 8 := fun i hi => canon_size _ (by rw [Int.natAbs_natCast]; omega)
 have HMu := lhd (fun i (hi : i < n) W => refMulZ_any (Z i) (canon ((i : Nat) : Int)) (by have := hz i hi; omega) (by have := hcs i hi; omega) (valZ (Z i)) (i : Int) rfl (valZ_canon _) (by have := hz i hi; have := hcs i hi; omega) W)
 have HOf := lhd (fun i (hi : i < n) W => refOfAll_any i (by omega) W)
 have hsz : ∀ k, k < n - 1 → (canon (deC (fun k => valZ (Z k)) k)).mag.size < 100000000 := fun k hk => by
  have hz1 := hz (k + 1) (by omega)
  obtain ⟨K, hK⟩ : ∃ K, 10000000 = K := ⟨_, rfl⟩
  rw [hK] at hz1
  have h1 : (valZ (Z (k + 1))).natAbs < 256 ^ K := by
   rw [valZ_abs3]
   exact absP hz1
  have h3 := canon_size (deC (fun k => valZ (Z k)) k) (k := K + 2) (by
   show (valZ (Z (k + 1)) * ((k : Int) + 1)).natAbs < _
   rw [Int.natAbs_mul, Nat.pow_succ, Nat.pow_succ]
   have h4 : ((k : Int) + 1).natAbs ≤ 1000 := by omega
   generalize 256 ^ K = T at *
   have h5 : (valZ (Z (k + 1))).natAbs * ((k : Int) + 1).natAbs ≤ (valZ (Z (k + 1))).natAbs * 1000 := Nat.mul_le_mul_left _ h4
   omega)
  omega
 have hdd := dgN_der (fun k => valZ (Z k)) n
 obtain ⟨f, hf⟩ : ∃ f : Nat → Int, (fun k => valZ (Z k)) = f := ⟨_, rfl⟩
 have Hf : Hid (∀ k, valZ (Z k) = f k) := lhd (fun k => by rw [← hf])
 rw [hf] at hsz hdd ⊢
 have HCn := lhd (fun r cr W (h : RowF W r (n - 1) (deC f)) => refCan3_any (n - 1) (fun k => canon (deC f k)) r cr (by omega) (fun k hk => hsz k hk) W h)
 simp only [valZ_canon] at HCn
 rw [hdd] at HCn
 clear hX hz hcs hsz hf hdd
 go_enter Tryz.func35, Tryz.ntmps35
 go_wp2_with fail
 go_loopw [3, 4] (fun ov iv wr => ∃ i : Nat, 1 ≤ i ∧ (i ≤ n ∨ i = 1) ∧ iv = .int .i64 (i : Nat) ∧ Hid (OwnZ wr w.heap.size ov (zsF (deC f) (i - 1))) ∧ Hid (Below w.heap.size w wr)) (fun _ iv _ => n - (intOf iv).toNat)
 case atStart => exact ⟨1, by omega, .inr rfl, by go_num, lhd (OwnZ.made w (Nat.le_refl _)), lhd ((Below.refl _ _).alloc (Nat.le_refl _) _)⟩
 case round =>
  obtain ⟨i, h1i, hi, rfl, HO, HB⟩ := hrel
  by_cases hil : i < n
  ·have i0 : (0 : Int) ≤ (i : Int) := by omega
   have i1 : (i : Int) < (n : Int) := by omega
   obtain ⟨bb, bo, rfl, hbl, hbc⟩ := GRow.cells HX.out hil
   obtain ⟨b3, b4⟩ := hbc i hil
   have Hcell := lhd (fun W (hW : Below w.heap.size w W) => And.intro (cell_below hW b3) (cell_below hW b4))
   have hmu := fun W => HMu.out i hil W
   rw [Hf.out i] at hmu
   have hof := fun W => HOf.out i hil W
   have hde : deC f (i - 1) = f i * (i : Int) := by unfold deC; rw [show i - 1 + 1 = i from by omega, show ((i - 1 : Nat) : Int) + 1 = (i : Int) from by omega]
   have Hnx : Hid (zsF (deC f) (i + 1 - 1) = zsF (deC f) (i - 1) ++ [f i * (i : Int)]) := lhd (by
    rw [show i + 1 - 1 = i - 1 + 1 from by omega, zsF_snoc, hde])
   obtain ⟨y, hy⟩ : ∃ y, f i * (i : Int) = y := ⟨_, rfl⟩
   obtain ⟨CI, hCI⟩ : ∃ z, canon (i : Int) = z := ⟨_, rfl⟩
   obtain ⟨CY, hCY⟩ : ∃ z, canon y = z := ⟨_, rfl⟩
   obtain ⟨z, hzz⟩ : ∃ z, Z i = z := ⟨_, rfl⟩
   rw [hzz] at Hcell
   rw [hCI] at hof
   rw [hy, hCI, hCY, hzz] at hmu
   rw [hy] at Hnx
   have HOf2 := lhd hof
   have HMu2 := lhd hmu
   have HCY := lhd hCY
   have HL : Hid ((zsF (deC f) (i - 1)).length < 1000000000) := lhd (by rw [zsF_len]; omega)
   clear hof hmu hde hy hCI hCY hbc b3 b4 hzz
   go_upto_region 5 with (fail)
   obtain ⟨SS, hSe⟩ : ∃ SS : World → Prop, SS = fun W => W.cell? ⟨bb, bo + i * 2, none⟩ = some (.bool z.neg) ∧ W.cell? ⟨bb, bo + i * 2 + 1, none⟩ = some (.string z.mag) := ⟨_, rfl⟩
   have HS : Hid (∀ W, Below wr.heap.size wr W → SS W) := lhd (fun W hW => by
    rw [hSe]; exact Hcell.out W (HB.out.trans (hW.mono HB.out.size)))
   have hd : Below wr.heap.size wr wr.drew := (Below.refl _ _).drew
   refine wp_region_held_drew (S := SS) (by kernel_rfl) (HS.out _ hd) (fun hSS => ?_)
   refine wpAnyH_take (i := 0) (v := ?_) rfl (by kernel_rfl) (by kernel_rfl) (by kernel_rfl) (fun _ _ _ h => h) (Or.inl ⟨by rfl, ?_⟩) (HS.out _ hd) ?_
   rotate_left 1
   next => intro w hSw; rw [hSe] at hSw; obtain ⟨s1, s2⟩ := hSw; go_simp; try with_reducible rfl
   try simp only [Act.put, ny1, ny2, ny3, ny4, ny5, ny6]
   refine wpAnyH_take (i := 1) (v := ?_) rfl (by kernel_rfl) (by kernel_rfl) (by kernel_rfl) (fun _ _ _ h => h) (Or.inl ⟨by rfl, ?_⟩) (HS.out _ hd) ?_
   rotate_left 1
   next => intro w hSw; rw [hSe] at hSw; obtain ⟨s1, s2⟩ := hSw; go_simp; try with_reducible rfl
   try simp only [Act.put, ny1, ny2, ny3, ny4, ny5, ny6]
   refine wpAnyH_take (i := 2) (v := ?_) rfl (by kernel_rfl) (by kernel_rfl) (by kernel_rfl) (fun _ _ _ h => h) (Or.inl ⟨by rfl, ?_⟩) (HS.out _ hd) ?_
   rotate_left 1
   next => intro w hSw; rw [hSe] at hSw; obtain ⟨s1, s2⟩ := hSw; go_simp; try with_reducible rfl
   try simp only [Act.put, ny1, ny2, ny3, ny4, ny5, ny6]
   refine wpAnyH_take (i := 3) (v := ?_) rfl (by kernel_rfl) (by kernel_rfl) (by kernel_rfl) (fun _ _ _ h => h) (Or.inl ⟨by rfl, ?_⟩) (HS.out _ hd) ?_
   rotate_left 1
   next => intro w hSw; rw [hSe] at hSw; obtain ⟨s1, s2⟩ := hSw; go_simp; try with_reducible rfl
   try simp only [Act.put, ny1, ny2, ny3, ny4, ny5, ny6]
   refine wpAnyH_take (i := 4) (v := ?_) rfl (by kernel_rfl) (by kernel_rfl) (by kernel_rfl) (fun _ _ _ h => h) (Or.inl ⟨by rfl, ?_⟩) (HS.out _ hd) ?_
   rotate_left 1
   next => intro w hSw; rw [hSe] at hSw; obtain ⟨s1, s2⟩ := hSw; go_simp; try with_reducible rfl
   try simp only [Act.put, ny1, ny2, ny3, ny4, ny5, ny6]
   refine wpAnyH_take (i := 5) (v := ?_) rfl (by kernel_rfl) (by kernel_rfl) (by kernel_rfl) (fun _ _ _ h => h) (Or.inl ⟨by rfl, ?_⟩) (HS.out _ hd) ?_
   rotate_left 1
   next => intro w hSw; rw [hSe] at hSw; obtain ⟨s1, s2⟩ := hSw; go_simp; try with_reducible rfl
   try simp only [Act.put, ny1, ny2, ny3, ny4, ny5, ny6]
   refine wpAnyH_ready (rs := [6]) (by kernel_rfl) (by simp) ?_
   refine AllReadyH.cons rfl (fun K hK => ?_) AllReadyH.nil
   go_simp
   refine (HOf2.out _).mono ?_
   rintro e w1 ⟨rfl, hbc⟩
   have hb1 : Below wr.heap.size wr w1 := hd.trans (hbc.mono hd.size)
   dsimp only
   refine hK.out _ _ (HS.out _ hb1) (fun _ => ?_)
   clear hK K hbc
   try simp only [Act.put, ny1, ny2, ny3, ny4, ny5, ny6]
   refine wpAnyH_ready (rs := [7]) (by kernel_rfl) (by simp) ?_
   refine AllReadyH.cons rfl (fun K hK => ?_) AllReadyH.nil
   go_simp
   refine (HMu2.out _).mono ?_
   rintro e w2 ⟨rfl, hbc⟩
   have hb2 : Below wr.heap.size wr w2 := hb1.trans (hbc.mono hb1.size)
   dsimp only
   refine hK.out _ _ (HS.out _ hb2) (fun _ => ?_)
   clear hK K hbc
   try simp only [Act.put, ny1, ny2, ny3, ny4, ny5, ny6]
   refine wpAnyH_ready (rs := [8]) (by kernel_rfl) (by simp) ?_
   refine AllReadyH.cons rfl (fun K hK => ?_) AllReadyH.nil
   go_simp
   have hal := (Below.refl w2.heap.size w2).alloc (Nat.le_refl _) (.cells #[.bool CY.neg, .string CY.mag] 24)
   have hb3 := hb2.alloc hb2.size (.cells #[.bool CY.neg, .string CY.mag] 24)
   have hbx := BoxAt.new w2 (.bool CY.neg) (.string CY.mag) 24
   obtain ⟨gz, hgz⟩ : ∃ k, w2.heap.size = k := ⟨_, rfl⟩
   rw [hgz] at hbx ⊢
   clear hal hgz
   generalize w2.alloc (.cells #[.bool CY.neg, .string CY.mag] 24) = w3 at *
   refine hK.out _ _ (HS.out _ hb3) (fun _ => ?_)
   clear hK K
   try simp only [Act.put, ny1, ny2, ny3, ny4, ny5, ny6]
   refine wpAnyH_ready (rs := [9]) (by kernel_rfl) (by simp) ?_
   refine AllReadyH.cons rfl (fun K hK => ?_) AllReadyH.nil
   have hO := HO.out.below (Nat.le_refl _) hb3
   refine step_append_z1 rfl _ _ rfl w.heap.size _ _ rfl hO gz 1 y rfl (by rw [HCY.out]; exact hbx.1) (by rw [HCY.out]; exact hbx.2.1) HL.out (Nat.le_trans HB.out.size hb3.size) ?_
   intro v9 w4 hown9 hgr9
   have hb9 : Below w.heap.size w w4 := below_append (HB.out.trans (hb3.mono HB.out.size)) hO hgr9 (Nat.le_trans HB.out.size hb3.size) (Nat.le_refl _)
   rw [← Hnx.out] at hown9
   have HZ9 := lhd hown9
   have HY9 := lhd hb9
   have hSw : SS w4 := by rw [hSe]; exact Hcell.out _ hb9
   have HS := lhd (fun W (h : SS W) => h)
   refine hK.out _ _ hSw (fun _ => ?_)
   clear hK K hown9 hgr9 hb9 hO
   refine wpAnyH_take (i := 10) (v := ?_) rfl (by kernel_rfl) (by kernel_rfl) (by kernel_rfl) (fun _ _ _ h => h) (Or.inl ⟨by rfl, ?_⟩) (HS.out _ hSw) ?_
   rotate_left 1
   next => intro w hSw; rw [hSe] at hSw; obtain ⟨s1, s2⟩ := hSw; go_simp; try with_reducible rfl
   try simp only [Act.put, ny1, ny2, ny3, ny4, ny5, ny6]
   refine wpAnyH_done (by kernel_rfl) ?_ _
   go_wp2_with fail
   go_roundw
   case rel => exact ⟨i + 1, by omega, .inl (by omega), by go_num, HZ9, HY9⟩
   case measure => simp [intOf]; omega
  ·have i1 : ¬ (i : Int) < (n : Int) := by omega
   have hie : i - 1 = n - 1 := by omega
   have hz9 := HO.out
   rw [hie] at hz9
   obtain ⟨r, cap, rfl, _, hrow, _⟩ := hz9.rowF
   have Hrow := lhd hrow
   clear hz9 hie hrow HO
   go_wp2_with fail
   refine (HCn.out _ _ _ Hrow.out).mono ?_
   rintro e w5 ⟨q5, c5, rfl, hr5, hb5⟩
   dsimp only
   have Hr5 := lhd hr5
   have Hb5 := lhd (HB.out.trans (hb5.mono HB.out.size))
   clear hr5 hb5
   go_wp2_with fail
   go_ret
   exact ⟨q5, c5, rfl, Hr5.out, Hb5.out⟩
open Go.RowKit Go.Shelf
structure Cn (w : World) (p : Option Addr) (n : Nat) (F : Nat → Int) : Prop where
 row : RowF w p n F
 out : ∀ i, n ≤ i → F i = 0
 top : 0 < n → F (n - 1) ≠ 0
def RetC (F : Nat → Int) (w : World) (e : Ending) (w' : World) : Prop := ∃ q n c, e = .returned (.slice q n c) ∧ Cn w' q n F ∧ Below w.heap.size w w'
theorem Cn.below {w w' : World} {p : Option Addr} {n : Nat} {F : Nat → Int} (h : Cn w p n F) (hb : Below w.heap.size w w') : Cn w' p n F := ⟨h.row.below (Nat.le_refl _) hb, h.out, h.top⟩
theorem Cn.le {w : World} {p : Option Addr} {n N : Nat} {F : Nat → Int} (h : Cn w p n F) (hN : ∀ i, N ≤ i → F i = 0) : n ≤ N := by
 apply Nat.le_of_not_lt
 intro hlt
 exact h.top (by omega) (hN _ (by omega))
theorem dgN_eq {n N : Nat} {F : Nat → Int} (h : ∀ i, n ≤ i → F i = 0) (ht : 0 < n → F (n - 1) ≠ 0) (hN : n ≤ N) : dgN F N = n := by
 have h1 : dgN F N ≤ n := dgN_below fun i hi _ => h i hi
 rcases Nat.lt_or_ge (dgN F N) n with h2 | h2
 ·exact absurd (dgN_over F N (n - 1) (by omega) (by omega)) (ht (by omega))
 ·exact Nat.le_antisymm h1 h2
theorem Cn.dg {w : World} {p : Option Addr} {n N : Nat} {F : Nat → Int} (h : Cn w p n F) (hN : n ≤ N) : dgN F N = n := dgN_eq h.out h.top hN
theorem Cn.len {w : World} {p : Option Addr} {l n : Nat} {F : Nat → Int} (h : Cn w p l F) (ho : ∀ i, n ≤ i → F i = 0) (ht : 0 < n → F (n - 1) ≠ 0) : l = n :=
 Nat.le_antisymm (h.le ho) (Nat.le_of_not_lt fun hh => ht (by omega) (h.out _ (by omega)))
theorem cn_dg {w : World} {p : Option Addr} {N : Nat} {F : Nat → Int} (h : RowF w p (dgN F N) F) (hF : ∀ i, N ≤ i → F i = 0) : Cn w p (dgN F N) F :=
 ⟨h, fun i hi => by
  rcases Nat.lt_or_ge i N with h1 | h1
  ·exact dgN_over F N i hi h1
  ·exact hF i h1, dgN_top F N⟩
theorem RetPol.c {w w' : World} {e : Ending} {N : Nat} {F : Nat → Int} (h : RetPol (dgN F N) F w e w') (hF : ∀ i, N ≤ i → F i = 0) : RetC F w e w' := by
 obtain ⟨q, c, he, hr, hb⟩ := h
 exact ⟨q, _, c, he, cn_dg hr hF, hb⟩
theorem RetC.congr {w w' : World} {e : Ending} {F G : Nat → Int} (h : RetC F w e w') (hG : ∀ i, F i = G i) : RetC G w e w' := by
 rwa [← funext hG]
theorem cf_out (Z : Nat → ZI) (n i : Nat) (h : n ≤ i) : cf Z n i = 0 := if_neg (by omega)
theorem cf_canon {w : World} {p : Option Addr} {n : Nat} {F : Nat → Int} (h : Cn w p n F) (k : Nat) : cf (fun k => canon (F k)) n k = F k := by
 unfold cf
 split
 ·exact valZ_canon _
 ·rw [h.out k (by omega)]
theorem Cn.g {w : World} {p : Option Addr} {n : Nat} {F : Nat → Int} (h : Cn w p n F) : GRow w p n (fun k => canon (F k)) := h.row
theorem bn_sz {F : Int} {e : Nat} (h : Bn F e) (he : e < 79999992) : (canon F).mag.size < 10000000 := by
 have := h.size 9999999 (by omega)
 omega
theorem addR3 {w : World} {p q : Option Addr} {n m c d : Nat} {F G : Nat → Int} {e : Nat} (hF : Cn w p n F) (hG : Cn w q m G) (hn : n ≤ 100000) (hm : m ≤ 100000) (bF : ∀ k, Bn (F k) e) (bG : ∀ k, Bn (G k) e) (he : e < 79999992) :
  Calls Tryz.prog 61 #[.slice p n c, .slice q m d] w (RetC (fun k => F k + G k) w) := by
 refine (refAdd3_any n m _ _ p q c d hn hm (fun k _ => bn_sz (bF k) he) (fun k _ => bn_sz (bG k) he) w hF.g hG.g).mono ?_
 intro en w' h
 have h2 := h.c fun i hi => by
  have := mxN_ge n m
  rw [cf_out _ _ _ (by omega), cf_out _ _ _ (by omega)]; rfl
 exact h2.congr fun i => by rw [cf_canon hF, cf_canon hG]
theorem subR3 {w : World} {p q : Option Addr} {n m c d : Nat} {F G : Nat → Int} {e : Nat} (hF : Cn w p n F) (hG : Cn w q m G) (hn : n ≤ 100000) (hm : m ≤ 100000) (bF : ∀ k, Bn (F k) e) (bG : ∀ k, Bn (G k) e) (he : e < 79999992) :
  Calls Tryz.prog 64 #[.slice p n c, .slice q m d] w (RetC (fun k => F k - G k) w) := by
 refine (refSub3_any n m _ _ p q c d hn hm (fun k _ => bn_sz (bF k) he) (fun k _ => bn_sz (bG k) he) w hF.g hG.g).mono ?_
 intro en w' h
 have h2 := h.c fun i hi => by
  have := mxN_ge n m
  rw [cf_out _ _ _ (by omega), cf_out _ _ _ (by omega)]; rfl
 exact h2.congr fun i => by rw [cf_canon hF, cf_canon hG]
theorem canR3 {w : World} {p : Option Addr} {n c : Nat} {Z : Nat → ZI} (hX : GRow w p n Z) (hn : n ≤ 1000000) (hz : ∀ k, k < n → (Z k).mag.size < 100000000) :
  Calls Tryz.prog 59 #[.slice p n c] w (RetC (cf Z n) w) := by
 refine (refCan3_any n Z p c hn hz w hX).mono ?_
 intro en w' h
 have h1 : dgN (fun k => valZ (Z k)) n = dgN (cf Z n) n := dgN_congr n fun i hi => (if_pos hi).symm
 obtain ⟨q, cc, he, hr, hb⟩ := h
 rw [h1] at he hr
 refine ⟨q, _, cc, he, cn_dg ?_ (cf_out Z n), hb⟩
 exact hr.congr fun k hk => by
  have := dgN_le (cf Z n) n
  exact (if_pos (by omega)).symm
open Go.RowKit Go.Shelf
def scF (f : Nat → Int) (c : Int) (s k : Nat) : Int := if k < s then 0 else f (k - s) * c
theorem made_zL (f : Nat → Int) : ∀ n, (∀ k, k < n → f k = 0) → (madeCells #[.bool false, .string ⟨#[]⟩] (n * 2)).toList = zL (zsF f n)
 | 0, _ => by simp [madeCells, zL, zsF]
 | n + 1, h => by
  have h1 := made_zL f n fun k hk => h k (by omega)
  rw [zsF_snoc, zL_append, ← h1, h n (by omega)]
  unfold madeCells
  rw [show (n + 1) * 2 = n * 2 + 1 + 1 from by omega, Array.toList_map, Array.toList_map, Array.toList_range, Array.toList_range, List.range_succ, List.range_succ, List.map_append, List.map_append, List.append_assoc]
  congr 1
  have e1 : n * 2 % 2 = 0 := by omega
  have e2 : (n * 2 + 1) % 2 = 1 := by omega
  simp [e1, e2]
  exact rfl
set_option maxRecDepth 100000 in
set_option maxHeartbeats 8000000 in
theorem refScale_any (n s : Nat) (Z : Nat → ZI) (zc : ZI) (p : Option Addr) (c : Nat) (f : Nat → Int) (x : Int) (hn : n ≤ 1000) (hs : s ≤ 1000) (hz : ∀ k, k < n → (Z k).mag.size < 10000000) (hzc : zc.mag.size < 10000000) (hf : ∀ k, k < n → valZ (Z k) = f k) (hx : valZ zc = x) (hb : ∀ k, k < n → (canon (f k * x)).mag.size < 100000000) (w : World) (hX : GRow w p n Z) :
  Calls Tryz.prog 62 #[.slice p n c, .agg #[.bool zc.neg, .string zc.mag], .int .i64 (s : Int)] w (RetPol (dgN (scF f x s) (s + n)) (scF f x s) w) := by
 obtain ⟨i0, hi0, hzz⟩ := Option.map_eq_some_iff.1 zInfo
 simp only [Prod.mk.injEq] at hzz
 obtain ⟨hz0, hz1, hz2⟩ := hzz
 have HX := lhd hX
 have HMu := lhd (fun i (hi : i < n) W => refMulZ_any (Z i) zc (by have := hz i hi; omega) (by omega) (f i) x (hf i hi) hx (by have := hz i hi; omega) W)
 have HCn := lhd (fun q c W (h : RowF W q (s + n) (scF f x s)) => refCan3_any (s + n) (fun k => canon (scF f x s k)) q c (by omega) (fun k hk => by
  show (canon (scF f x s k)).mag.size < _
  unfold scF
  split
  ·decide
  ·exact hb _ (by omega)) W h)
 simp only [valZ_canon] at HCn
 clear hX hz hf hb
 go_enter Tryz.func62, Tryz.ntmps62
 go_upto_region 1 with (fail)
 have hbx := BoxAt.new w (.bool zc.neg) (.string zc.mag) 24
 have hal := (Below.refl w.heap.size w).alloc (Nat.le_refl _) (.cells #[.bool zc.neg, .string zc.mag] 24)
 have HX0 := lhd (SlAt.mono HX.out (Nat.le_refl _) hal)
 obtain ⟨gc, hgc⟩ : ∃ g, w.heap.size = g := ⟨_, rfl⟩
 have hgw : w.heap.size ≤ gc := by omega
 rw [hgc] at hbx ⊢
 have Hgc := lhd hgc
 have HBx := lhd hbx
 have HBa := lhd hal
 clear hal hbx hgc HX hgw
 generalize w.alloc (.cells #[.bool zc.neg, .string zc.mag] 24) = V at *
 have hVs : gc + 1 ≤ V.heap.size := HBx.out.2.2.2.2
 go_wp2_with (at_make; refine wpList_make_full _ rfl _ _ 22 rfl V.heap.size 24 i0 (.agg #[.bool false, .string ⟨#[]⟩]) 2 Tryz.underlying22 hi0 hz0 hz1 .i64 .i64 (s : Int) (s : Int) s rfl rfl rfl rfl ?_ ?_ ?_ ?_)
 ·rw [hz2]; omega
 ·unfold maxLen; omega
 ·exact Nat.le_refl _
 intro w1 hown hgrow
 have HO1 : Hid (OwnZ w1 V.heap.size (.slice (some ⟨V.heap.size, 0, none⟩) s s) (zsF (scF f x s) (s + 0))) := lhd (by
  rw [Nat.add_zero]
  unfold OwnZ
  rw [zsF_len, ← made_zL _ _ fun k hk => (show scF f x s k = 0 from if_pos hk)]
  exact hown)
 have HB1 := lhd (show Below V.heap.size V w1 from (Below.refl _ _).grown hgrow (by simp) (fun k hk => by cases hk))
 have HXV := lhd HX0.out
 clear hown hgrow hz0 hz1 hz2 hi0 HX0
 go_wp2_with fail
 go_loopw [7, 8] (fun ov iv wr => ∃ i : Nat, i ≤ n ∧ iv = .int .i64 (i : Nat) ∧ Hid (OwnZ wr V.heap.size ov (zsF (scF f x s) (s + i))) ∧ Hid (Below V.heap.size V wr)) (fun _ iv _ => n - (intOf iv).toNat)
 case atStart => exact ⟨0, by omega, by go_num, HO1, HB1⟩
 case round =>
  clear HO1 HB1
  obtain ⟨i, hi, rfl, HO, HB⟩ := hrel
  by_cases hil : i < n
  ·have i0 : (0 : Int) ≤ (i : Int) := by omega
   have i1 : (i : Int) < (n : Int) := by omega
   obtain ⟨bb, bo, rfl, hbl, hbc⟩ := GRow.cells HXV.out hil
   obtain ⟨b3, b4⟩ := hbc i hil
   obtain ⟨g3, g4, _⟩ := HBx.out
   have Hcell := lhd (fun W (hW : Below V.heap.size V W) => And.intro (cell_below hW b3) (And.intro (cell_below hW b4) (And.intro (cell_below hW g3) (cell_below hW g4))))
   have hmu := fun W => HMu.out i hil W
   have Hnx : Hid (zsF (scF f x s) (s + (i + 1)) = zsF (scF f x s) (s + i) ++ [f i * x]) := lhd (by
    rw [← Nat.add_assoc, zsF_snoc]
    unfold scF
    rw [if_neg (by omega), Nat.add_sub_cancel_left])
   obtain ⟨y, hy⟩ : ∃ y, f i * x = y := ⟨_, rfl⟩
   obtain ⟨CY, hCY⟩ : ∃ z, canon y = z := ⟨_, rfl⟩
   obtain ⟨z, hzz⟩ : ∃ z, Z i = z := ⟨_, rfl⟩
   rw [hzz] at Hcell
   rw [hy, hCY, hzz] at hmu
   rw [hy] at Hnx
   have HMu2 := lhd hmu
   have HCY := lhd hCY
   have HL : Hid ((zsF (scF f x s) (s + i)).length < 1000000000) := lhd (by rw [zsF_len]; omega)
   clear hmu hy hCY hbc b3 b4 hzz g3 g4
   go_upto_region 5 with (fail)
   obtain ⟨SS, hSe⟩ : ∃ SS : World → Prop, SS = fun W => W.cell? ⟨bb, bo + i * 2, none⟩ = some (.bool z.neg) ∧ W.cell? ⟨bb, bo + i * 2 + 1, none⟩ = some (.string z.mag) ∧ W.cell? ⟨gc, 0, none⟩ = some (.bool zc.neg) ∧ W.cell? ⟨gc, 1, none⟩ = some (.string zc.mag) := ⟨_, rfl⟩
   have HS : Hid (∀ W, Below wr.heap.size wr W → SS W) := lhd (fun W hW => by
    rw [hSe]; exact Hcell.out W (HB.out.trans (hW.mono HB.out.size)))
   have hd : Below wr.heap.size wr wr.drew := (Below.refl _ _).drew
   refine wp_region_held_drew (S := SS) (by kernel_rfl) (HS.out _ hd) (fun hSS => ?_)
   refine wpAnyH_take (i := 0) (v := ?_) rfl (by kernel_rfl) (by kernel_rfl) (by kernel_rfl) (fun _ _ _ h => h) (Or.inl ⟨by rfl, ?_⟩) (HS.out _ hd) ?_
   rotate_left 1
   next => intro w hSw; rw [hSe] at hSw; obtain ⟨s1, s2, s3, s4⟩ := hSw; go_simp; try with_reducible rfl
   try simp only [Act.put, ny1, ny2, ny3, ny4, ny5, ny6]
   refine wpAnyH_take (i := 1) (v := ?_) rfl (by kernel_rfl) (by kernel_rfl) (by kernel_rfl) (fun _ _ _ h => h) (Or.inl ⟨by rfl, ?_⟩) (HS.out _ hd) ?_
   rotate_left 1
   next => intro w hSw; rw [hSe] at hSw; obtain ⟨s1, s2, s3, s4⟩ := hSw; go_simp; try with_reducible rfl
   try simp only [Act.put, ny1, ny2, ny3, ny4, ny5, ny6]
   refine wpAnyH_take (i := 2) (v := ?_) rfl (by kernel_rfl) (by kernel_rfl) (by kernel_rfl) (fun _ _ _ h => h) (Or.inl ⟨by rfl, ?_⟩) (HS.out _ hd) ?_
   rotate_left 1
   next => intro w hSw; rw [hSe] at hSw; obtain ⟨s1, s2, s3, s4⟩ := hSw; go_simp; try with_reducible rfl
   try simp only [Act.put, ny1, ny2, ny3, ny4, ny5, ny6]
   refine wpAnyH_take (i := 3) (v := ?_) rfl (by kernel_rfl) (by kernel_rfl) (by kernel_rfl) (fun _ _ _ h => h) (Or.inl ⟨by rfl, ?_⟩) (HS.out _ hd) ?_
   rotate_left 1
   next => intro w hSw; rw [hSe] at hSw; obtain ⟨s1, s2, s3, s4⟩ := hSw; go_simp; try with_reducible rfl
   try simp only [Act.put, ny1, ny2, ny3, ny4, ny5, ny6]
   refine wpAnyH_take (i := 4) (v := ?_) rfl (by kernel_rfl) (by kernel_rfl) (by kernel_rfl) (fun _ _ _ h => h) (Or.inl ⟨by rfl, ?_⟩) (HS.out _ hd) ?_
   rotate_left 1
   next => intro w hSw; rw [hSe] at hSw; obtain ⟨s1, s2, s3, s4⟩ := hSw; go_simp; try with_reducible rfl
   try simp only [Act.put, ny1, ny2, ny3, ny4, ny5, ny6]
   refine wpAnyH_take (i := 5) (v := ?_) rfl (by kernel_rfl) (by kernel_rfl) (by kernel_rfl) (fun _ _ _ h => h) (Or.inl ⟨by rfl, ?_⟩) (HS.out _ hd) ?_
   rotate_left 1
   next => intro w hSw; rw [hSe] at hSw; obtain ⟨s1, s2, s3, s4⟩ := hSw; go_simp; try with_reducible rfl
   try simp only [Act.put, ny1, ny2, ny3, ny4, ny5, ny6]
   refine wpAnyH_ready (rs := [6]) (by kernel_rfl) (by simp) ?_
   refine AllReadyH.cons rfl (fun K hK => ?_) AllReadyH.nil
   go_simp
   refine (HMu2.out _).mono ?_
   rintro e w1 ⟨rfl, hbc⟩
   have hb1 : Below wr.heap.size wr w1 := hd.trans (hbc.mono hd.size)
   dsimp only
   refine hK.out _ _ (HS.out _ hb1) (fun _ => ?_)
   clear hK K hbc
   try simp only [Act.put, ny1, ny2, ny3, ny4, ny5, ny6]
   refine wpAnyH_ready (rs := [7]) (by kernel_rfl) (by simp) ?_
   refine AllReadyH.cons rfl (fun K hK => ?_) AllReadyH.nil
   go_simp
   have hal := (Below.refl w1.heap.size w1).alloc (Nat.le_refl _) (.cells #[.bool CY.neg, .string CY.mag] 24)
   have hb2 := hb1.alloc hb1.size (.cells #[.bool CY.neg, .string CY.mag] 24)
   have hbx := BoxAt.new w1 (.bool CY.neg) (.string CY.mag) 24
   obtain ⟨gz, hgz⟩ : ∃ k, w1.heap.size = k := ⟨_, rfl⟩
   rw [hgz] at hbx ⊢
   clear hal hgz
   generalize w1.alloc (.cells #[.bool CY.neg, .string CY.mag] 24) = w2 at *
   refine hK.out _ _ (HS.out _ hb2) (fun _ => ?_)
   clear hK K
   try simp only [Act.put, ny1, ny2, ny3, ny4, ny5, ny6]
   refine wpAnyH_ready (rs := [8]) (by kernel_rfl) (by simp) ?_
   refine AllReadyH.cons rfl (fun K hK => ?_) AllReadyH.nil
   have hO := HO.out.below (Nat.le_refl _) hb2
   refine step_append_z1 rfl _ _ rfl V.heap.size _ _ rfl hO gz 1 y rfl (by rw [HCY.out]; exact hbx.1) (by rw [HCY.out]; exact hbx.2.1) HL.out (Nat.le_trans HB.out.size hb2.size) ?_
   intro v9 w3 hown9 hgr9
   have hb9 : Below V.heap.size V w3 := below_append (HB.out.trans (hb2.mono HB.out.size)) hO hgr9 (Nat.le_trans HB.out.size hb2.size) (Nat.le_refl _)
   rw [← Hnx.out] at hown9
   have HZ9 := lhd hown9
   have HY9 := lhd hb9
   have hSw : SS w3 := by rw [hSe]; exact Hcell.out _ hb9
   have HS := lhd (fun W (h : SS W) => h)
   refine hK.out _ _ hSw (fun _ => ?_)
   clear hK K hown9 hgr9 hb9 hO
   refine wpAnyH_take (i := 9) (v := ?_) rfl (by kernel_rfl) (by kernel_rfl) (by kernel_rfl) (fun _ _ _ h => h) (Or.inl ⟨by rfl, ?_⟩) (HS.out _ hSw) ?_
   rotate_left 1
   next => intro w hSw; rw [hSe] at hSw; obtain ⟨s1, s2, s3, s4⟩ := hSw; go_simp; try with_reducible rfl
   try simp only [Act.put, ny1, ny2, ny3, ny4, ny5, ny6]
   refine wpAnyH_done (by kernel_rfl) ?_ _
   go_wp2_with fail
   go_roundw
   case rel => exact ⟨i + 1, by omega, by go_num, HZ9, HY9⟩
   case measure => simp [intOf]; omega
  ·have i1 : ¬ (i : Int) < (n : Int) := by omega
   obtain rfl : i = n := by omega
   have hz9 := HO.out
   obtain ⟨r, cap, rfl, _, hrow, _⟩ := hz9.rowF
   have Hrow := lhd hrow
   clear hz9 hrow HO
   go_wp2_with fail
   refine (HCn.out _ _ _ Hrow.out).mono ?_
   rintro e w5 ⟨q5, c5, rfl, hr5, hb5⟩
   dsimp only
   have Hr5 := lhd hr5
   have Hb5 := lhd ((HBa.out.trans (HB.out.mono HBa.out.size)).trans (hb5.mono (HBa.out.trans (HB.out.mono HBa.out.size)).size))
   clear hr5 hb5
   go_wp2_with fail
   go_ret
   exact ⟨q5, c5, rfl, Hr5.out, Hb5.out⟩
end Go.Proofs.YtmbamcpndbimaaaGreatDoor
