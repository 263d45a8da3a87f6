/- The walks of integer.Sub, Compare. The walk of integer.euclid and of its iterator. -/
import Derived.Test.YtcafeffgaokiaaaJ14
import Derived.Outline
import Derived.Test.YtcafeffgaokiaaaJ5
import Derived.Shelf.Abstract
import Derived.Shelf.RegionOpen
import Derived.WalkKit
import Derived.OwnWalkIn
import Derived.TacticsInMore
import Derived.LoopNIn
import Derived.LoopIn
import Derived.Sort.LoopGhostIn
namespace Go.Proofs.Ytcafeffgaokiaaa
open Go.RowKit

theorem negz_any (z : ZI) (hz : z.mag.size ≤ 100000000) (w : World) : Calls Try.prog 103 #[.agg #[.bool z.neg, .string z.mag]] w (RetZ (canon (-valZ z)) w) := by
  rw [← negZ_val]; exact neg_any z hz w
theorem add_any' (x y : ZI) (hx : x.mag.size ≤ 100000000) (hy : y.mag.size ≤ 100000000) (w : World) :
    Calls Try.prog 107 #[.agg #[.bool x.neg, .string x.mag], .agg #[.bool y.neg, .string y.mag]] w (RetZ (canon (valZ x + valZ y)) w) := by
  rw [← addZ_val]; exact add_z x y hx hy w
theorem canon_size_le (z : ZI) : (canon (valZ z)).mag.size ≤ z.mag.size := by
  refine canon_size _ ?_
  have h := absZ_lt z
  unfold valZ
  split <;> omega
theorem canon_neg_size (z : ZI) : (canon (-valZ z)).mag.size ≤ z.mag.size := by
  refine canon_size _ ?_
  have h := absZ_lt z
  unfold valZ
  split <;> omega

theorem two_boxes (w : World) (a0 a1 b0 b1 : Value) (t : TypeId) : ∃ W, ((w.alloc (.cells #[a0, a1] t)).alloc (.cells #[b0, b1] t)) = W ∧ BoxAt W w.heap.size a0 a1 ∧ BoxAt W (w.heap.size + 1) b0 b1 ∧ Below w.heap.size w W ∧ W.heap.size = w.heap.size + 1 + 1 := by
  refine ⟨_, rfl, (BoxAt.new w a0 a1 t).alloc _, ?_, ((Below.refl _ _).alloc (Nat.le_refl _) _).alloc (by simp) _, by simp⟩
  have := BoxAt.new (w.alloc (.cells #[a0, a1] t)) b0 b1 t
  rwa [World.size_alloc] at this
theorem three_boxes (w : World) (a0 a1 b0 b1 c0 c1 : Value) (t : TypeId) : ∃ W, (((w.alloc (.cells #[a0, a1] t)).alloc (.cells #[b0, b1] t)).alloc (.cells #[c0, c1] t)) = W ∧ BoxAt W w.heap.size a0 a1 ∧ BoxAt W (w.heap.size + 1) b0 b1 ∧ BoxAt W (w.heap.size + 1 + 1) c0 c1 ∧ Below w.heap.size w W ∧ W.heap.size = w.heap.size + 1 + 1 + 1 := by
  obtain ⟨W, hW, hA, hB, hb, hs⟩ := two_boxes w a0 a1 b0 b1 t
  rw [hW]
  refine ⟨_, rfl, hA.alloc _, hB.alloc _, ?_, hb.alloc (by omega) _, by simp [hs]⟩
  have := BoxAt.new W c0 c1 t
  rwa [hs] at this

set_option maxRecDepth 100000 in
set_option maxHeartbeats 8000000 in
theorem sub_any (x y : ZI) (hx : x.mag.size ≤ 100000000) (hy : y.mag.size ≤ 100000000) (w : World) :
    Calls Try.prog 79 #[.agg #[.bool x.neg, .string x.mag], .agg #[.bool y.neg, .string y.mag]] w (RetZ (canon (valZ x - valZ y)) w) := by
  have hn := canon_neg_size y
  have Hv := Lib.hid (show valZ x + valZ (canon (-valZ y)) = valZ x - valZ y by rw [valZ_canon]; omega)
  have hadd := add_any' x (canon (-valZ y)) hx (by omega)
  rw [Hv.out] at hadd
  have Hadd := Lib.hid hadd
  have Hneg := Lib.hid (negz_any y hy)
  clear hadd hn
  generalize canon (-valZ y) = N at *
  generalize canon (valZ x - valZ y) = R at *
  go_enter Try.func79, Try.ntmps79
  go_wp2_with fail
  obtain ⟨W, hW, hA, hB, hC, hb0, hs0⟩ := three_boxes w (.bool x.neg) (.string x.mag) (.bool y.neg) (.string y.mag) (.bool false) (.string ⟨#[]⟩) 48
  rw [hW]
  have HA := Lib.hid hA
  have HB := Lib.hid hB
  have HC := Lib.hid hC
  have Hb0 := Lib.hid hb0
  have Hs0 := Lib.hid hs0
  obtain ⟨a0, a1, _, _, _⟩ := hA
  obtain ⟨b0, b1, _, _, _⟩ := hB
  clear hC hb0 hs0 hW
  have n1 : ¬ (w.heap.size = w.heap.size + 1 + 1) := by omega
  have n2 : ¬ (w.heap.size + 1 + 1 = w.heap.size) := by omega
  go_region_held3 (fun w' => w'.cell? ⟨w.heap.size, 0, none⟩ = some (.bool x.neg) ∧ w'.cell? ⟨w.heap.size, 1, none⟩ = some (.string x.mag) ∧ w'.cell? ⟨w.heap.size + 1, 0, none⟩ = some (.bool y.neg) ∧ w'.cell? ⟨w.heap.size + 1, 1, none⟩ = some (.string y.mag)) (go_keep)
    (first
      | (go_at_call 103; go_fit (Hneg.out _); rintro e wa ⟨rfl, hb⟩; have Hwa := Lib.hid (show Below W.heap.size W wa from Below.trans (by repeat (first | exact Below.refl _ _ | refine Below.drew ?_ | refine below_dr ?_)) (hb.mono (Nat.le_refl _))); have HA2 := Lib.hid (HA.out.below Hwa.out (by have := Hs0.out; omega)); have HB2 := Lib.hid (HB.out.below Hwa.out (by have := Hs0.out; omega)); obtain ⟨d0, d1, _, _, _⟩ := HA2.out; obtain ⟨e0, e1, _, _, _⟩ := HB2.out; clear hb)
      | (go_at_call 107; go_fit (Hadd.out _); rintro e w3 ⟨rfl, hb⟩; have Hb3 := Lib.hid (show Below W.heap.size W w3 from Below.trans Hwa.out (Below.trans (by repeat (first | exact Below.refl _ _ | refine Below.drew ?_ | refine below_dr ?_)) (hb.mono Hwa.out.size))); have HA3 := Lib.hid (HA.out.below Hb3.out (by have := Hs0.out; omega)); have HB3 := Lib.hid (HB.out.below Hb3.out (by have := Hs0.out; omega)); have HC3 := Lib.hid (HC.out.below Hb3.out (by have := Hs0.out; omega)); obtain ⟨d0, d1, _, _, _⟩ := HA3.out; obtain ⟨e0, e1, _, _, _⟩ := HB3.out; obtain ⟨f0, f1, f2, f3, _⟩ := HC3.out; clear hb))
  all_goals
    go_wp2
    refine bodyPost_ret (v := .agg #[.bool R.neg, .string R.mag]) ?_ rfl ⟨rfl, ?_⟩
    · simp [results, Try.results79, go_sem, f0, f1]
    · exact ((Hb0.out.trans (Hb3.out.mono (by have := Hs0.out; omega))).setCell (by simp; omega) _).setCell (by simp; omega) _

/-- Three-way comparison of integers. -/
def cmpI (m n : Int) : Int := if m < n then -1 else if n < m then 1 else 0

set_option maxRecDepth 100000 in
set_option maxHeartbeats 8000000 in
theorem cmp_any (x y : ZI) (hx : x.mag.size ≤ 100000000) (hy : y.mag.size ≤ 100000000) (w : World) :
    Calls Try.prog 52 #[.agg #[.bool x.neg, .string x.mag], .agg #[.bool y.neg, .string y.mag]] w fun e w' => e = .returned (.int .i64 (cmpI (valZ x) (valZ y))) ∧ Below w.heap.size w w' := by
  have Hsub := Lib.hid (sub_any x y hx hy)
  obtain ⟨D, hD⟩ : ∃ D, canon (valZ x - valZ y) = D := ⟨_, rfl⟩
  rw [hD] at Hsub
  have hres : cmpI (valZ x) (valZ y) = if D.neg = true then -1 else if D.mag.toList = [] then 0 else 1 := by
    rw [← hD, ByteArray.toList_eq]
    show (if valZ x < valZ y then (-1 : Int) else if valZ y < valZ x then 1 else 0) = if decide (valZ x - valZ y < 0) = true then -1 else if beb (valZ x - valZ y).natAbs = [] then 0 else 1
    have e0 : beb (valZ x - valZ y).natAbs = [] ↔ valZ x = valZ y := by
      rw [← List.length_eq_zero_iff, beb_len_zero]; omega
    by_cases h : valZ x < valZ y
    · rw [if_pos h, if_pos (by simp; omega)]
    · rw [if_neg h]
      by_cases h2 : valZ y < valZ x
      · rw [if_pos h2, if_neg (by simp; omega), if_neg (by rw [e0]; omega)]
      · rw [if_neg h2, if_neg (by simp; omega), if_pos (by rw [e0]; omega)]
  have Hres := Lib.hid hres
  clear hres hD
  rcases D with ⟨N, M⟩
  dsimp only at Hsub Hres
  cases N
  case true =>
    go_enter Try.func52, Try.ntmps52
    go_wp2_with (go_at_call 79; go_fit (Hsub.out _); rintro e w3 ⟨rfl, hb⟩; have Hb3 := Lib.hid hb; clear hb)
    go_ret
    exact ⟨by rw [Hres.out]; rfl, (((Below.refl _ _).alloc (Nat.le_refl _) _).alloc (by simp) _).trans ((Hb3.out.mono (by simp; omega)).alloc (by have := Hb3.out.size; simp at this; omega) _)⟩
  case false =>
    by_cases hm : M.toList = []
    · have hr : cmpI (valZ x) (valZ y) = 0 := by rw [Hres.out, if_neg (by simp), if_pos hm]
      have Hr := Lib.hid hr
      have hm2 : M.toList.isEmpty = true := by rw [hm]; rfl
      have Hm := Lib.hid hm
      clear hr hm Hres
      go_enter Try.func52, Try.ntmps52
      go_wp2_with (go_at_call 79; go_fit (Hsub.out _); rintro e w3 ⟨rfl, hb⟩; have Hb3 := Lib.hid hb; clear hb)
      go_ret
      exact ⟨by rw [Hr.out]; rfl, (((Below.refl _ _).alloc (Nat.le_refl _) _).alloc (by simp) _).trans ((Hb3.out.mono (by simp; omega)).alloc (by have := Hb3.out.size; simp at this; omega) _)⟩
    · have hr : cmpI (valZ x) (valZ y) = 1 := by rw [Hres.out, if_neg (by simp), if_neg hm]
      have Hr := Lib.hid hr
      have hm2 : M.toList.isEmpty = false := by rw [List.isEmpty_eq_false_iff]; exact hm
      have Hm := Lib.hid hm
      clear hr hm Hres
      go_enter Try.func52, Try.ntmps52
      go_wp2_with (go_at_call 79; go_fit (Hsub.out _); rintro e w3 ⟨rfl, hb⟩; have Hb3 := Lib.hid hb; clear hb)
      go_ret
      exact ⟨by rw [Hr.out]; rfl, (((Below.refl _ _).alloc (Nat.le_refl _) _).alloc (by simp) _).trans ((Hb3.out.mono (by simp; omega)).alloc (by have := Hb3.out.size; simp at this; omega) _)⟩
end Go.Proofs.Ytcafeffgaokiaaa
namespace Go.Proofs.Ytcafeffgaokiaaa
open Go.RowKit Go.Shelf
attribute [local go_sem] Oper.semAt_some

/-- A cell that holds a digit is not in the box of another thing. -/
theorem u32_ne_box {w : World} {b off u : Nat} {t : TypeId} {v : Value} {z : Int} (hc : w.cell? ⟨b, off, none⟩ = some (.int .u32 z)) (hu : Boxed w u t v) (hv : ∀ z, v ≠ .int .u32 z) : b ≠ u := by
  rintro rfl
  simp only [World.cell?, show w.heap[b]? = _ from hu] at hc
  cases off with
  | zero => exact hv z (by simpa using hc)
  | succ k => simp at hc
theorem NatsAt.ne_box {w : World} {b off u : Nat} {xs : List Nat} {t : TypeId} {v : Value} (h : NatsAt w (some ⟨b, off, none⟩) xs) (hl : 0 < xs.length) (hu : Boxed w u t v) (hv : ∀ z, v ≠ .int .u32 z) : b ≠ u := by
  obtain ⟨b', off', he, _, hc⟩ := NatsAt.cells h hl
  cases he
  exact u32_ne_box (hc 0 hl) hu hv
theorem NatsAt.setBox {w : World} {p : Option Addr} {u : Nat} {xs : List Nat} {t : TypeId} {v : Value} (h : NatsAt w p xs) (hu : Boxed w u t v) (hv : ∀ z, v ≠ .int .u32 z) (v' : Value) : NatsAt (w.setCell ⟨u, 0, none⟩ v') p xs := by
  by_cases hl : 0 < xs.length
  · obtain ⟨b, off, rfl, hlt, hc⟩ := NatsAt.cells h hl
    have hne := h.ne_box hl hu hv
    rcases h with h | ⟨b', off', he, _, hc'⟩
    · omega
    · cases he
      refine .inr ⟨b, off, rfl, by simpa using hlt, fun i hi j hj => ?_⟩
      rw [World.cell?_setCell_other _ _ _ _ (by intro h; exact hne (by injection h with h1; exact h1.symm))]
      exact hc' i hi j hj
  · exact .inl (by omega)

/-- A pair of Euclid's algorithm: two slices and the numbers that they hold. -/
structure EuP where
  p : Option Addr
  c : Nat
  q : Option Addr
  d : Nat
  a : Nat
  b : Nat
def encEu (x : EuP) : Array Value := #[.slice x.p (digs x.a).length x.c, .slice x.q (digs x.b).length x.d]
/-- Digits in none of two blocks. -/
def NatsOff (w : World) (p : Option Addr) (xs : List Nat) (u v : Nat) : Prop := NatsAt w p xs ∧ ∀ b, p = some b → 0 < xs.length → b.block ≠ u ∧ b.block ≠ v
def GEu (Bx By : Nat) (_ : List EuP) (x : EuP) (w : World) : Prop := NatsOff w x.p (digs x.a) Bx By ∧ (digs x.a).length ≤ x.c ∧ x.c ≤ 1000000000
def SEu (g : Nat) (xs : List EuP) : Prop := ∃ pre x, xs = pre ++ [x] ∧ x.a = g
def TEu (Bx By : Nat) (r : Nat) (_ : World) : Prop := r = Bx ∨ r = By
/-- What a round keeps: digits; the iterator's two boxes. -/
def KpEu (Bx By : Nat) (W W' : World) : Prop := W.heap.size ≤ W'.heap.size ∧ (∀ b off z, W.cell? ⟨b, off, none⟩ = some (.int .u32 z) → W'.cell? ⟨b, off, none⟩ = some (.int .u32 z)) ∧ W'.heap[Bx]? = W.heap[Bx]? ∧ W'.heap[By]? = W.heap[By]?
theorem KpEu.nats {Bx By : Nat} {W W' : World} (h : KpEu Bx By W W') {p : Option Addr} {xs : List Nat} (hN : NatsAt W p xs) : NatsAt W' p xs := by
  rcases hN with h0 | ⟨b, off, rfl, hlt, hc⟩
  · exact .inl h0
  · exact .inr ⟨b, off, rfl, Nat.lt_of_lt_of_le hlt h.1, fun i hi j hj => h.2.1 _ _ _ (hc i hi j hj)⟩
theorem below_grown {W W' : World} (h : Below W.heap.size W W') : W.grownBy W' none := by
  obtain ⟨h1, h2, h3, h4, h5⟩ := h
  exact ⟨h1, h2, h3, h4, fun k hk _ => h5 k hk⟩

end Go.Proofs.Ytcafeffgaokiaaa
