/- The walks of integer.Neg, Of, Check, Mul, Add. -/
import Derived.Test.YtlkajmdcffemeaaInt8
import Derived.Deep.RegionHeld3
import Derived.Deep.DeepCutAuto
import Derived.Deep.DeepFit
namespace Go.Proofs.Ytlkajmdcffemeaa
open Go.RowKit

theorem number_digs (neg : Bool) (v : Nat) (p : Option Addr) (c : Nat) (w : World) (hX : NatsAt w p (digs v)) (hc : (digs v).length ≤ c) (hcm : c ≤ 1000000000) :
    Calls Try.prog 70 #[.bool neg, .slice p (digs v).length c] w (RetZ (mkZ neg v) w) :=
  number_any neg (digs v) p c w hX (dg_digs v) hc hcm (val_digs v)

/-- A box of two cells. -/
def BoxAt (w : World) (g : Nat) (a b : Value) : Prop :=
  w.cell? ⟨g, 0, none⟩ = some a ∧ w.cell? ⟨g, 1, none⟩ = some b ∧ w.frozen? ⟨g, 0, none⟩ = false ∧ w.frozen? ⟨g, 1, none⟩ = false ∧ g < w.heap.size
theorem BoxAt.below {w w' : World} {g B : Nat} {a b : Value} (h : BoxAt w g a b) (hb : Below B w w') (hg : g < B) : BoxAt w' g a b := by
  obtain ⟨h1, h2, h3, h4, h5⟩ := h
  exact ⟨(hb.cell (p := ⟨g, 0, none⟩) hg).trans h1, (hb.cell (p := ⟨g, 1, none⟩) hg).trans h2, (hb.frozen (p := ⟨g, 0, none⟩) hg).trans h3, (hb.frozen (p := ⟨g, 1, none⟩) hg).trans h4, Nat.lt_of_lt_of_le h5 hb.size⟩
theorem BoxAt.new (w : World) (a b : Value) (t : TypeId) : BoxAt (w.alloc (.cells #[a, b] t)) w.heap.size a b := by
  have hb := Below.refl (w.heap.size + 1) (w.alloc (.cells #[a, b] t))
  obtain ⟨⟨h1, h2⟩, h3, _⟩ := box2 hb
  exact ⟨h1, h2, box_frozen hb (Nat.lt_succ_self _) 0, box_frozen hb (Nat.lt_succ_self _) 1, h3⟩
theorem BoxAt.alloc {w : World} {g : Nat} {a b : Value} (h : BoxAt w g a b) (o : Obj) : BoxAt (w.alloc o) g a b :=
  h.below ((Below.refl w.heap.size w).alloc (Nat.le_refl _) o) h.2.2.2.2

theorem digs_le : ∀ (k n : Nat), n < 256 ^ k → (digs n).length ≤ (k + 3) / 4 := by
  intro k n h
  apply Nat.le_of_not_lt
  intro hlt
  have h1 : digs n ≠ [] := fun h => by rw [h] at hlt; simp at hlt
  have h0 : n ≠ 0 := fun h => h1 (by rw [h, digs_zero])
  have h2 := digs_last h0
  have h3 := val_take_succ (xs := digs n) (k := (digs n).length - 1) (by omega)
  rw [show (digs n).length - 1 + 1 = (digs n).length from by omega, List.take_of_length_le (Nat.le_refl _), val_digs] at h3
  have h4 : 4294967296 ^ ((digs n).length - 1) * 1 ≤ 4294967296 ^ ((digs n).length - 1) * (digs n).getD ((digs n).length - 1) 0 := Nat.mul_le_mul_left _ (by omega)
  have h5 : (256 : Nat) ^ k ≤ 4294967296 ^ ((digs n).length - 1) := by
    rw [show (4294967296 : Nat) = 256 ^ 4 from by decide, ← Nat.pow_mul]
    exact Nat.pow_le_pow_right (by decide) (by omega)
  omega
theorem absZ_lt (z : ZI) : absZ z < 256 ^ z.mag.size := by
  have := bval_lt z.mag.data.toList
  simpa [absZ] using this
theorem digs_len_fit {z : ZI} (h : z.mag.size ≤ 100000000) : (digs (absZ z)).length ≤ 200000000 := by
  have := digs_le _ _ (absZ_lt z)
  omega

set_option maxRecDepth 100000 in
set_option maxHeartbeats 4000000 in
theorem neg_any (z : ZI) (hz : z.mag.size ≤ 100000000) (w : World) :
    Calls Try.prog 86 #[.agg #[.bool z.neg, .string z.mag]] w (RetZ (mkZ (!z.neg) (absZ z)) w) := by
  go_enter Try.func86, Try.ntmps86
  go_wp2_with fail
  have hA := (BoxAt.new w (.bool z.neg) (.string z.mag) 34).alloc (.cells #[.bool false, .string ⟨#[]⟩] 34)
  have hB := BoxAt.new (w.alloc (.cells #[.bool z.neg, .string z.mag] 34)) (.bool false) (.string ⟨#[]⟩) 34
  have hb0 : Below w.heap.size w ((w.alloc (.cells #[.bool z.neg, .string z.mag] 34)).alloc (.cells #[.bool false, .string ⟨#[]⟩] 34)) := ((Below.refl _ _).alloc (Nat.le_refl _) _).alloc (by simp) _
  have hs0 : ((w.alloc (.cells #[.bool z.neg, .string z.mag] 34)).alloc (.cells #[.bool false, .string ⟨#[]⟩] 34)).heap.size = w.heap.size + 2 := by simp
  rw [World.size_alloc] at hB
  generalize ((w.alloc (.cells #[.bool z.neg, .string z.mag] 34)).alloc (.cells #[.bool false, .string ⟨#[]⟩] 34)) = W at *
  have HA := Lib.hid hA
  have HB := Lib.hid hB
  have Hb0 := Lib.hid hb0
  have Hs0 := Lib.hid hs0
  obtain ⟨a0, a1, _, _, _⟩ := hA
  clear hB hb0 hs0
  go_region_held3 (fun w' => w'.cell? ⟨w.heap.size, 0, none⟩ = some (.bool z.neg) ∧ w'.cell? ⟨w.heap.size, 1, none⟩ = some (.string z.mag)) (go_keep)
    (first
      | (go_at_call 98; go_fit (digits_any z hz _); rintro e w2 ⟨p, c, rfl, hN, hc1, hc2, hb⟩; have HN := Lib.hid hN; have Hb2 := Lib.hid (show Below W.heap.size W w2 from Below.trans (by repeat (first | exact Below.refl _ _ | refine Below.drew ?_ | refine below_dr ?_)) (hb.mono (Nat.le_refl _))); have HA2 := Lib.hid (HA.out.below Hb2.out (by have := Hs0.out; omega)); obtain ⟨b0, b1, _, _, _⟩ := HA2.out; clear hb hN)
      | (go_at_call 70; refine (number_digs _ _ p c _ (HN.out.below (Nat.le_refl _) (by repeat (first | exact Below.refl _ _ | refine Below.drew ?_ | refine below_dr ?_))) hc1 hc2).mono ?_; rintro e w3 ⟨rfl, hb⟩; have Hb3 := Lib.hid (show Below W.heap.size W w3 from Below.trans Hb2.out (Below.trans (by repeat (first | exact Below.refl _ _ | refine Below.drew ?_ | refine below_dr ?_)) (hb.mono (by simpa using Hb2.out.size)))); have HA3 := Lib.hid (HA.out.below Hb3.out (by have := Hs0.out; omega)); have HB3 := Lib.hid (HB.out.below Hb3.out (by have := Hs0.out; omega)); obtain ⟨b0, b1, _, _, _⟩ := HA3.out; obtain ⟨c0, c1, c2, c3, _⟩ := HB3.out; clear hb))
  go_wp2
  refine bodyPost_ret (v := .agg #[.bool (mkZ (!z.neg) (absZ z)).neg, .string (mkZ (!z.neg) (absZ z)).mag]) ?_ rfl ⟨rfl, ?_⟩
  · simp [results, Try.results86, go_sem, c0, c1]
  · exact ((Hb0.out.trans (Hb3.out.mono (by have := Hs0.out; omega))).setCell (by simp) _).setCell (by simp) _
end Go.Proofs.Ytlkajmdcffemeaa
