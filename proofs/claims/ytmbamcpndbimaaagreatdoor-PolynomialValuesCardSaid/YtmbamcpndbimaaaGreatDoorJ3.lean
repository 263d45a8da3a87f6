/- The walks of integer.Sub, Compare. -/
import Derived.Test.YtmbamcpndbimaaaGreatDoorJ2
import Derived.Outline
import Derived.Laws.MakeOwn
import Derived.Deep.RegionHeld
import Derived.RangeFuncCalls
namespace Go.Proofs.YtmbamcpndbimaaaGreatDoor
open Go.RowKit
theorem negz_any (z : ZI) (hz : z.mag.size ≤ 100000000) (w : World) : Calls Tryz.prog 56 #[.agg #[.bool z.neg, .string z.mag]] w (RetZ (canon (-valZ z)) w) := by
 rw [← negZ_val]; exact neg_any z hz w
theorem add_any' (x y : ZI) (hx : x.mag.size ≤ 100000000) (hy : y.mag.size ≤ 100000000) (w : World) :
  Calls Tryz.prog 43 #[.agg #[.bool x.neg, .string x.mag], .agg #[.bool y.neg, .string y.mag]] w (RetZ (canon (valZ x + valZ y)) w) := by
 rw [← addZ_val]; exact add_z x y hx hy w
theorem canon_size_le (z : ZI) : (canon (valZ z)).mag.size ≤ z.mag.size := by
 refine canon_size _ ?_
 have h := absZ_lt z
 unfold valZ
 split <;> omega
theorem canon_neg_size (z : ZI) : (canon (-valZ z)).mag.size ≤ z.mag.size := by
 refine canon_size _ ?_
 have h := absZ_lt z
 unfold valZ
 split <;> omega
theorem two_boxes (w : World) (a0 a1 b0 b1 : Value) (t : TypeId) : ∃ W, ((w.alloc (.cells #[a0, a1] t)).alloc (.cells #[b0, b1] t)) = W ∧ BoxAt W w.heap.size a0 a1 ∧ BoxAt W (w.heap.size + 1) b0 b1 ∧ Below w.heap.size w W ∧ W.heap.size = w.heap.size + 1 + 1 := by
 refine ⟨_, rfl, (BoxAt.new w a0 a1 t).alloc _, ?_, ((Below.refl _ _).alloc (Nat.le_refl _) _).alloc (by simp) _, by simp⟩
 have := BoxAt.new (w.alloc (.cells #[a0, a1] t)) b0 b1 t
 rwa [World.size_alloc] at this
theorem three_boxes (w : World) (a0 a1 b0 b1 c0 c1 : Value) (t : TypeId) : ∃ W, (((w.alloc (.cells #[a0, a1] t)).alloc (.cells #[b0, b1] t)).alloc (.cells #[c0, c1] t)) = W ∧ BoxAt W w.heap.size a0 a1 ∧ BoxAt W (w.heap.size + 1) b0 b1 ∧ BoxAt W (w.heap.size + 1 + 1) c0 c1 ∧ Below w.heap.size w W ∧ W.heap.size = w.heap.size + 1 + 1 + 1 := by
 obtain ⟨W, hW, hA, hB, hb, hs⟩ := two_boxes w a0 a1 b0 b1 t
 rw [hW]
 refine ⟨_, rfl, hA.alloc _, hB.alloc _, ?_, hb.alloc (by omega) _, by simp [hs]⟩
 have := BoxAt.new W c0 c1 t
 rwa [hs] at this
set_option maxRecDepth 100000 in
set_option maxHeartbeats 8000000 in
theorem sub_any (x y : ZI) (hx : x.mag.size ≤ 100000000) (hy : y.mag.size ≤ 100000000) (w : World) :
  Calls Tryz.prog 54 #[.agg #[.bool x.neg, .string x.mag], .agg #[.bool y.neg, .string y.mag]] w (RetZ (canon (valZ x - valZ y)) w) := by
 have hn := canon_neg_size y
 have Hv := lhd (show valZ x + valZ (canon (-valZ y)) = valZ x - valZ y by rw [valZ_canon]; omega)
 have hadd := add_any' x (canon (-valZ y)) hx (by omega)
 rw [Hv.out] at hadd
 have Hadd := lhd hadd
 have Hneg := lhd (negz_any y hy)
 clear hadd hn
 generalize canon (-valZ y) = N at *
 generalize canon (valZ x - valZ y) = R at *
 go_enter Tryz.func54, Tryz.ntmps54
 go_wp2_with fail
 obtain ⟨W, hW, hA, hB, hC, hb0, hs0⟩ := three_boxes w (.bool x.neg) (.string x.mag) (.bool y.neg) (.string y.mag) (.bool false) (.string ⟨#[]⟩) 24
 rw [hW]
 have HA := lhd hA
 have HB := lhd hB
 have HC := lhd hC
 have Hb0 := lhd hb0
 have Hs0 := lhd hs0
 obtain ⟨a0, a1, _, _, _⟩ := hA
 obtain ⟨b0, b1, _, _, _⟩ := hB
 clear hC hb0 hs0 hW
 have n1 : ¬ (w.heap.size = w.heap.size + 1 + 1) := by omega
 have n2 : ¬ (w.heap.size + 1 + 1 = w.heap.size) := by omega
 go_region_held3 (fun w' => w'.cell? ⟨w.heap.size, 0, none⟩ = some (.bool x.neg) ∧ w'.cell? ⟨w.heap.size, 1, none⟩ = some (.string x.mag) ∧ w'.cell? ⟨w.heap.size + 1, 0, none⟩ = some (.bool y.neg) ∧ w'.cell? ⟨w.heap.size + 1, 1, none⟩ = some (.string y.mag)) (go_keep)
  (first
   | (go_at_call 56; go_fit (Hneg.out _); rintro e wa ⟨rfl, hb⟩; have Hwa := lhd (show Below W.heap.size W wa from Below.trans (by repeat (first | exact Below.refl _ _ | refine Below.drew ?_ | refine below_dr ?_)) (hb.mono (Nat.le_refl _))); have HA2 := lhd (HA.out.below Hwa.out (by have := Hs0.out; omega)); have HB2 := lhd (HB.out.below Hwa.out (by have := Hs0.out; omega)); obtain ⟨d0, d1, _, _, _⟩ := HA2.out; obtain ⟨e0, e1, _, _, _⟩ := HB2.out; clear hb)
   | (go_at_call 43; go_fit (Hadd.out _); rintro e w3 ⟨rfl, hb⟩; have Hb3 := lhd (show Below W.heap.size W w3 from Below.trans Hwa.out (Below.trans (by repeat (first | exact Below.refl _ _ | refine Below.drew ?_ | refine below_dr ?_)) (hb.mono Hwa.out.size))); have HA3 := lhd (HA.out.below Hb3.out (by have := Hs0.out; omega)); have HB3 := lhd (HB.out.below Hb3.out (by have := Hs0.out; omega)); have HC3 := lhd (HC.out.below Hb3.out (by have := Hs0.out; omega)); obtain ⟨d0, d1, _, _, _⟩ := HA3.out; obtain ⟨e0, e1, _, _, _⟩ := HB3.out; obtain ⟨f0, f1, f2, f3, _⟩ := HC3.out; clear hb))
 all_goals
  go_wp2
  refine bodyPost_ret (v := .agg #[.bool R.neg, .string R.mag]) ?_ rfl ⟨rfl, ?_⟩
  ·simp [results, Tryz.results54, go_sem, f0, f1]
  ·exact ((Hb0.out.trans (Hb3.out.mono (by have := Hs0.out; omega))).setCell (by simp; omega) _).setCell (by simp; omega) _
def cmpI (m n : Int) : Int := if m < n then -1 else if n < m then 1 else 0
set_option maxRecDepth 100000 in
set_option maxHeartbeats 8000000 in
theorem cmp_any (x y : ZI) (hx : x.mag.size ≤ 100000000) (hy : y.mag.size ≤ 100000000) (w : World) :
  Calls Tryz.prog 77 #[.agg #[.bool x.neg, .string x.mag], .agg #[.bool y.neg, .string y.mag]] w fun e w' => e = .returned (.int .i64 (cmpI (valZ x) (valZ y))) ∧ Below w.heap.size w w' := by
 have Hsub := lhd (sub_any x y hx hy)
 obtain ⟨D, hD⟩ : ∃ D, canon (valZ x - valZ y) = D := ⟨_, rfl⟩
 rw [hD] at Hsub
 have hres : cmpI (valZ x) (valZ y) = if D.neg = true then -1 else if D.mag.toList = [] then 0 else 1 := by
  rw [← hD, ByteArray.toList_eq]
  show (if valZ x < valZ y then (-1 : Int) else if valZ y < valZ x then 1 else 0) = if decide (valZ x - valZ y < 0) = true then -1 else if beb (valZ x - valZ y).natAbs = [] then 0 else 1
  have e0 : beb (valZ x - valZ y).natAbs = [] ↔ valZ x = valZ y := by
   rw [← List.length_eq_zero_iff, beb_len_zero]; omega
  by_cases h : valZ x < valZ y
  ·rw [if_pos h, if_pos (by simp; omega)]
  ·rw [if_neg h]
   by_cases h2 : valZ y < valZ x
   ·rw [if_pos h2, if_neg (by simp; omega), if_neg (by rw [e0]; omega)]
   ·rw [if_neg h2, if_neg (by simp; omega), if_pos (by rw [e0]; omega)]
 have Hres := lhd hres
 clear hres hD
 rcases D with ⟨N, M⟩
 dsimp only at Hsub Hres
 cases N
 case true =>
  go_enter Tryz.func77, Tryz.ntmps77
  go_wp2_with (go_at_call 54; go_fit (Hsub.out _); rintro e w3 ⟨rfl, hb⟩; have Hb3 := lhd hb; clear hb)
  go_ret
  exact ⟨by rw [Hres.out]; rfl, (((Below.refl _ _).alloc (Nat.le_refl _) _).alloc (by simp) _).trans ((Hb3.out.mono (by simp; omega)).alloc (by have := Hb3.out.size; simp at this; omega) _)⟩
 case false =>
  by_cases hm : M.toList = []
  ·have hr : cmpI (valZ x) (valZ y) = 0 := by rw [Hres.out, if_neg (by simp), if_pos hm]
   have Hr := lhd hr
   have hm2 : M.toList.isEmpty = true := by rw [hm]; rfl
   have Hm := lhd hm
   clear hr hm Hres
   go_enter Tryz.func77, Tryz.ntmps77
   go_wp2_with (go_at_call 54; go_fit (Hsub.out _); rintro e w3 ⟨rfl, hb⟩; have Hb3 := lhd hb; clear hb)
   go_ret
   exact ⟨by rw [Hr.out]; rfl, (((Below.refl _ _).alloc (Nat.le_refl _) _).alloc (by simp) _).trans ((Hb3.out.mono (by simp; omega)).alloc (by have := Hb3.out.size; simp at this; omega) _)⟩
  ·have hr : cmpI (valZ x) (valZ y) = 1 := by rw [Hres.out, if_neg (by simp), if_neg hm]
   have Hr := lhd hr
   have hm2 : M.toList.isEmpty = false := by rw [List.isEmpty_eq_false_iff]; exact hm
   have Hm := lhd hm
   clear hr hm Hres
   go_enter Tryz.func77, Tryz.ntmps77
   go_wp2_with (go_at_call 54; go_fit (Hsub.out _); rintro e w3 ⟨rfl, hb⟩; have Hb3 := lhd hb; clear hb)
   go_ret
   exact ⟨by rw [Hr.out]; rfl, (((Below.refl _ _).alloc (Nat.le_refl _) _).alloc (by simp) _).trans ((Hb3.out.mono (by simp; omega)).alloc (by have := Hb3.out.size; simp at this; omega) _)⟩
open Go.RowKit
def zc (n : Int) (j : Nat) : Value := if j = 0 then .bool (canon n).neg else .string (canon n).mag
def RowF (w : World) (p : Option Addr) (c : Nat) (f : Nat → Int) : Prop := SlAt 2 w p c (fun k j => zc (f k) j)
theorem RowF.below {w w' : World} {p : Option Addr} {c : Nat} {f : Nat → Int} (h : RowF w p c f) {B : Nat} (hB : w.heap.size ≤ B) (hb : Below B w w') : RowF w' p c f := h.mono hB hb
theorem RowF.congr {w : World} {p : Option Addr} {c : Nat} {f g : Nat → Int} (h : RowF w p c f) (e : ∀ k, k < c → f k = g k) : RowF w p c g := SlAt.congr h fun i hi j _ => by rw [e i hi]
theorem RowF.cells {w : World} {p : Option Addr} {c : Nat} {f : Nat → Int} (h : RowF w p c f) {k : Nat} (hk : k < c) :
  ∃ b off, p = some ⟨b, off, none⟩ ∧ b < w.heap.size ∧ ∀ i, i < c → w.cell? ⟨b, off + i * 2, none⟩ = some (.bool (canon (f i)).neg) ∧ w.cell? ⟨b, off + i * 2 + 1, none⟩ = some (.string (canon (f i)).mag) := by
 rcases h with h | ⟨b, off, rfl, hlt, hc⟩
 ·omega
 ·exact ⟨b, off, rfl, hlt, fun i hi => ⟨by simpa [zc] using hc i hi 0 (by omega), by simpa [zc] using hc i hi 1 (by omega)⟩⟩
def ZAt (w : World) (g n : Nat) (f : Nat → Int) : Prop :=
 g < w.heap.size ∧ ∀ k, k < n → (w.cell? ⟨g, k * 2, none⟩ = some (.bool (canon (f k)).neg) ∧ w.cell? ⟨g, k * 2 + 1, none⟩ = some (.string (canon (f k)).mag)) ∧ w.frozen? ⟨g, k * 2, none⟩ = false ∧ w.frozen? ⟨g, k * 2 + 1, none⟩ = false
theorem ZAt.below {w w' : World} {g n B : Nat} {f : Nat → Int} (h : ZAt w g n f) (hb : Below B w w') (hg : g < B) : ZAt w' g n f :=
 ⟨Nat.lt_of_lt_of_le h.1 hb.size, fun k hk => by
  obtain ⟨⟨h1, h2⟩, h3, h4⟩ := h.2 k hk
  exact ⟨⟨(hb.cell (p := ⟨g, _, none⟩) hg).trans h1, (hb.cell (p := ⟨g, _, none⟩) hg).trans h2⟩, (hb.frozen (p := ⟨g, _, none⟩) hg).trans h3, (hb.frozen (p := ⟨g, _, none⟩) hg).trans h4⟩⟩
theorem ZAt.congr {w : World} {g n : Nat} {f h : Nat → Int} (hz : ZAt w g n f) (e : ∀ k, k < n → f k = h k) : ZAt w g n h := ⟨hz.1, fun k hk => by rw [← e k hk]; exact hz.2 k hk⟩
theorem ZAt.row {w : World} {g n : Nat} {f : Nat → Int} (h : ZAt w g n f) : RowF w (some ⟨g, 0, none⟩) n f :=
 .inr ⟨g, 0, rfl, h.1, fun k hk j hj => by
  obtain ⟨⟨h1, h2⟩, _⟩ := h.2 k hk
  match j, hj with
  | 0, _ => simpa [zc] using h1
  | 1, _ => simpa [zc] using h2⟩
theorem ZAt.set {w : World} {g n k : Nat} {f : Nat → Int} (h : ZAt w g n f) (v : Int) :
  ZAt ((w.setCell ⟨g, k * 2, none⟩ (.bool (canon v).neg)).setCell ⟨g, k * 2 + 1, none⟩ (.string (canon v).mag)) g n (fun i => if i = k then v else f i) := by
 refine ⟨by simpa using h.1, fun i hi => ?_⟩
 obtain ⟨⟨h1, h2⟩, h3, h4⟩ := h.2 i hi
 refine ⟨⟨?_, ?_⟩, by rw [World.frozen?_setCell, World.frozen?_setCell]; exact h3, by rw [World.frozen?_setCell, World.frozen?_setCell]; exact h4⟩
 ·dsimp only
  rw [World.cell?_setCell_other _ _ _ _ (by intro hh; simp only [Addr.mk.injEq] at hh; omega)]
  by_cases e : i = k
  ·subst e
   rw [if_pos rfl]
   exact World.cell?_setCell_same w _ _ h1
  ·rw [if_neg e, World.cell?_setCell_other _ _ _ _ (by intro hh; simp only [Addr.mk.injEq] at hh; omega)]
   exact h1
 ·dsimp only
  by_cases e : i = k
  ·subst e
   rw [if_pos rfl]
   refine World.cell?_setCell_same _ _ _ (u := .string (canon (f i)).mag) ?_
   rw [World.cell?_setCell_other _ _ _ _ (by intro hh; simp only [Addr.mk.injEq] at hh; omega)]
   exact h2
  ·rw [if_neg e, World.cell?_setCell_other _ _ _ _ (by intro hh; simp only [Addr.mk.injEq] at hh; omega), World.cell?_setCell_other _ _ _ _ (by intro hh; simp only [Addr.mk.injEq] at hh; omega)]
   exact h2
theorem ZAt.other {w : World} {g n : Nat} {f : Nat → Int} (h : ZAt w g n f) (a : Addr) (v : Value) (hne : a.block ≠ g) : ZAt (w.setCell a v) g n f := by
 refine ⟨by simpa using h.1, fun i hi => ?_⟩
 obtain ⟨⟨h1, h2⟩, h3, h4⟩ := h.2 i hi
 refine ⟨⟨?_, ?_⟩, by rw [World.frozen?_setCell]; exact h3, by rw [World.frozen?_setCell]; exact h4⟩
 ·rw [World.cell?_setCell_other _ _ _ _ (by intro hh; rw [hh] at hne; exact hne rfl)]; exact h1
 ·rw [World.cell?_setCell_other _ _ _ _ (by intro hh; rw [hh] at hne; exact hne rfl)]; exact h2
def HAt (w : World) (g n : Nat) (h : Nat → Value) : Prop := g < w.heap.size ∧ ∀ k, k < n → w.cell? ⟨g, k, none⟩ = some (h k) ∧ w.frozen? ⟨g, k, none⟩ = false
theorem HAt.below {w w' : World} {g n B : Nat} {f : Nat → Value} (h : HAt w g n f) (hb : Below B w w') (hg : g < B) : HAt w' g n f :=
 ⟨Nat.lt_of_lt_of_le h.1 hb.size, fun k hk => ⟨(hb.cell (p := ⟨g, _, none⟩) hg).trans (h.2 k hk).1, (hb.frozen (p := ⟨g, _, none⟩) hg).trans (h.2 k hk).2⟩⟩
theorem HAt.congr {w : World} {g n : Nat} {f h : Nat → Value} (hz : HAt w g n f) (e : ∀ k, k < n → f k = h k) : HAt w g n h := ⟨hz.1, fun k hk => by rw [← e k hk]; exact hz.2 k hk⟩
theorem HAt.set {w : World} {g n k : Nat} {f : Nat → Value} (h : HAt w g n f) (v : Value) : HAt (w.setCell ⟨g, k, none⟩ v) g n (fun i => if i = k then v else f i) := by
 refine ⟨by simpa using h.1, fun i hi => ⟨?_, by rw [World.frozen?_setCell]; exact (h.2 i hi).2⟩⟩
 by_cases e : i = k
 ·subst e
  show _ = some (if i = i then v else f i)
  rw [if_pos rfl]; exact World.cell?_setCell_same w _ _ (h.2 i hi).1
 ·show _ = some (if i = k then v else f i)
  rw [if_neg e, World.cell?_setCell_other _ _ _ _ (by intro hh; cases hh; exact e rfl)]; exact (h.2 i hi).1
theorem HAt.other {w : World} {g n : Nat} {f : Nat → Value} (h : HAt w g n f) (a : Addr) (v : Value) (hne : a.block ≠ g) : HAt (w.setCell a v) g n f :=
 ⟨by simpa using h.1, fun i hi => ⟨by rw [World.cell?_setCell_other _ _ _ _ (by intro hh; rw [hh] at hne; exact hne rfl)]; exact (h.2 i hi).1, by rw [World.frozen?_setCell]; exact (h.2 i hi).2⟩⟩
theorem made_zero (w : World) (n : Nat) (t : TypeId) : ZAt (w.alloc (.cells (madeCells #[.bool false, .string ⟨#[]⟩] (n * 2)) t)) w.heap.size n (fun _ => 0) := by
 have hblk : (w.alloc (.cells (madeCells #[.bool false, .string ⟨#[]⟩] (n * 2)) t)).heap[w.heap.size]? = some (.cells (madeCells #[.bool false, .string ⟨#[]⟩] (n * 2)) t (0, 0)) := heap_alloc_new w _
 refine ⟨by simp, fun k hk => ⟨⟨?_, ?_⟩, ?_, ?_⟩⟩
 ·unfold World.cell?; simp only [hblk]
  have h1 : k * 2 < n * 2 := by omega
  have c0 : canon 0 = ⟨false, ⟨#[]⟩⟩ := by rfl
  simp [madeCells, h1, c0]
 ·unfold World.cell?; simp only [hblk]
  have h1 : k * 2 + 1 < n * 2 := by omega
  have h2 : (k * 2 + 1) % 2 = 1 := by omega
  have c0 : canon 0 = ⟨false, ⟨#[]⟩⟩ := by rfl
  simp [madeCells, h1, h2, c0]
 ·unfold World.frozen?; simp only [hblk]; simp
 ·unfold World.frozen?; simp only [hblk]; simp
open Go.RowKit
theorem zInfo : (Tryz.prog.info? 24).map (fun i => (i.zero, i.size, i.bytes)) = some (some (.agg #[.bool false, .string ⟨#[]⟩]), 2, 24) := by kernel_rfl
theorem make_zs (n : Nat) (h : n ≤ 1000000) (w : World) :
  (Instr.makeSlice 22 (.int .i64 (n : Int)) (.int .i64 (n : Int))).run Tryz.prog w = .ok (.slice (some ⟨w.heap.size, 0, none⟩) n n) (w.alloc (.cells (madeCells #[.bool false, .string ⟨#[]⟩] (n * 2)) 24)) := by
 obtain ⟨i, hi, hzz⟩ := Option.map_eq_some_iff.1 zInfo
 simp only [Prod.mk.injEq] at hzz
 obtain ⟨hz, hs, hb⟩ := hzz
 have hr := run_make (P := Tryz.prog) w 22 24 i _ Tryz.underlying22 hi hz .i64 .i64 n n (by omega) (Int.le_refl _) (by rw [hb]; omega) (by omega)
 simp only [Int.toNat_natCast, hs] at hr
 exact hr
end Go.Proofs.YtmbamcpndbimaaaGreatDoor
