/- The walk of awake: the example of the chapter. -/
import Derived.Test.YtlkoiekdafaapaaWpw
import Derived.Test.YtlkoiekdafaapaaRB
import Derived.Test.YtlkoiekdafaapaaSme
import Derived.Test.YtlkoiekdafaapaaBnA
import Derived.WalkLawsBesides
import Derived.WalkSpells
import Derived.Outline
namespace Go.Proofs.Ytlkoiekdafaapaa
open Go.RowKit Go.Shelf

set_option maxRecDepth 100000 in
set_option maxHeartbeats 4000000 in
theorem lawOf_any (n : Int) (h0 : -9223372036854775808 ≤ n) (h1 : n ≤ 9223372036854775807) (w : World) :
    Calls Try.prog 32 #[.int .i64 n] w (RetZ (canon n) w) := by
  have HO := Lib.hid (fun W => of_any n h0 h1 W)
  generalize canon n = Z at *
  go_enter Try.func32, Try.ntmps32
  go_wp2_with fail
  have hA0 := BoxAt.new w (.bool false) (.string ⟨#[]⟩) 27
  have hb0 := (Below.refl w.heap.size w).alloc (Nat.le_refl _) (.cells #[.bool false, .string ⟨#[]⟩] 27)
  refine (HO.out _).mono ?_
  rintro e w2 ⟨rfl, hb2⟩
  dsimp only
  have hA2 := hA0.below hb2 hA0.2.2.2.2
  have hb3 := hb0.trans (hb2.mono (by simp))
  clear hb2 hb0 hA0
  obtain ⟨c0, c1, f0, f1, hl⟩ := hA2
  go_wp2
  refine bodyPost_ret (v := .agg #[.bool Z.neg, .string Z.mag]) (by simp [results, Try.results32, go_sem, c0, c1]) rfl ⟨rfl, ?_⟩
  exact (hb3.setCell (by simp) _).setCell (by simp) _
/-- Two numbers in a new block. -/
theorem row_two (w : World) (a b : Int) (t : TypeId) : RowF (w.alloc (.cells #[.bool (canon a).neg, .string (canon a).mag, .bool (canon b).neg, .string (canon b).mag] t)) (some ⟨w.heap.size, 0, none⟩) 2 (fun k => if k = 0 then a else b) := by
  refine .inr ⟨w.heap.size, 0, rfl, by simp, fun i hi j hj => ?_⟩
  have hi' : i = 0 ∨ i = 1 := by omega
  have hj' : j = 0 ∨ j = 1 := by omega
  rcases hi' with rfl | rfl <;> rcases hj' with rfl | rfl <;> simp [zc]
theorem row_three (w : World) (a b c : Int) (t : TypeId) : RowF (w.alloc (.cells #[.bool (canon a).neg, .string (canon a).mag, .bool (canon b).neg, .string (canon b).mag, .bool (canon c).neg, .string (canon c).mag] t)) (some ⟨w.heap.size, 0, none⟩) 3 (fun k => if k = 0 then a else if k = 1 then b else c) := by
  refine .inr ⟨w.heap.size, 0, rfl, by simp, fun i hi j hj => ?_⟩
  have hi' : i = 0 ∨ i = 1 ∨ i = 2 := by omega
  have hj' : j = 0 ∨ j = 1 := by omega
  rcases hi' with rfl | rfl | rfl <;> rcases hj' with rfl | rfl <;> simp [zc]
theorem mat_two {w : World} {p q : Option Addr} {n c d : Nat} {f g : Nat → Int} (hp : RowF w p n f) (hq : RowF w q n g) (t : TypeId) : MatF (w.alloc (.cells #[.slice p n c, .slice q n d] t)) (some ⟨w.heap.size, 0, none⟩) 2 n (fun i k => if i = 0 then f k else g k) := by
  have hb : Below w.heap.size w (w.alloc (.cells #[.slice p n c, .slice q n d] t)) := (Below.refl _ _).alloc (Nat.le_refl _) _
  refine ⟨fun i => if i = 0 then (p, c) else (q, d), .inr ⟨w.heap.size, 0, rfl, by simp, fun i hi j hj => ?_⟩, fun i hi => ?_⟩
  · have hj' : j = 0 := by omega
    subst hj'
    have hi' : i = 0 ∨ i = 1 := by omega
    rcases hi' with rfl | rfl <;> simp
  · have hi' : i = 0 ∨ i = 1 := by omega
    rcases hi' with rfl | rfl
    · exact hp.below (Nat.le_refl _) hb
    · exact hq.below (Nat.le_refl _) hb
/-- The matrix of the example. -/
def exA (i k : Nat) : Int := if i = 0 then (if k = 0 then 1 else 1) else (if k = 0 then 1 else 0)
theorem exA_bn : BnM 2 2 exA 1 := by
  intro i k _ _
  unfold exA Bn
  split <;> split <;> decide
theorem exA_F : (gmF 2 2 exA).F = exA := by
  funext i k
  exact gmF_F 2 2 exA i k
theorem exA_chk : (gmF 2 2 exA).chk = 0 := gmF_chk 2 2 exA (by decide) (by decide) (by decide) (by decide)
theorem exA_sq : (gmF 2 2 exA).sq = 0 := by
  unfold GM.sq
  rw [if_neg (by rw [exA_chk]; decide), if_neg (by show ¬ (2 : Nat) ≠ 2; decide)]
theorem exA_fit : (gmF 2 2 exA).Fit := gmF_fit 2 2 exA (by decide) (by decide) (exA_bn.small (by decide))
theorem exA_chr : ChrOk 2 exA := chrOk_of (m := 1) exA_bn (by decide) (by decide)
theorem ex_max : mxM (bitM exA) 2 2 + bitsN 2 ≤ 100 := by decide +kernel
theorem ex_powE : powE (gmF 2 2 exA) 2 = 0 := by
  unfold powE
  rw [if_neg (by rw [exA_sq]; decide), if_neg (by decide), exA_F, if_neg]
  have := ex_max
  show ¬ 65536 < ((mxM (bitM exA) 2 2 + bitsN 2 : Nat) : Int) * 2
  omega
/-- The square of the example. -/
def exB (i k : Nat) : Int := if i = 0 then (if k = 0 then 2 else 1) else (if k = 0 then 1 else 1)
def exC (i k : Nat) : Int := if i = 0 then (if k = 0 then 0 else -1) else (if k = 0 then -1 else 1)
theorem two_two {P : Nat → Nat → Prop} (a : P 0 0) (b : P 0 1) (c : P 1 0) (d : P 1 1) : ∀ i k, i < 2 → k < 2 → P i k := by
  intro i k hi hk
  have hi' : i = 0 ∨ i = 1 := by omega
  have hk' : k = 0 ∨ k = 1 := by omega
  rcases hi' with rfl | rfl <;> rcases hk' with rfl | rfl <;> assumption
theorem exB_eq : ∀ i k, i < 2 → k < 2 → powF 2 exA 2 i k = exB i k := two_two (by decide +kernel) (by decide +kernel) (by decide +kernel) (by decide +kernel)
theorem exC_eq : ∀ i k, i < 2 → k < 2 → adjC 2 exA i k = exC i k := two_two (by decide +kernel) (by decide +kernel) (by decide +kernel) (by decide +kernel)
theorem exD_eq : detC 2 exA = -1 := by decide +kernel
theorem exP_eq : ∀ m, m < 3 → chrP 2 exA 2 m = if m = 0 then -1 else if m = 1 then -1 else 1 := by
  intro m hm
  have hm' : m = 0 ∨ m = 1 ∨ m = 2 := by omega
  rcases hm' with rfl | rfl | rfl <;> decide +kernel
theorem ex_pow {W : World} {p : Option Addr} (h : MatF W p 2 2 exA) : Calls Try.prog 15 #[.slice p 2 2, .int .i64 2] W (RetMatE 0 2 2 exB W) := by
  refine (pow_m (gmF 2 2 exA) p 2 2 exA_fit (fun _ => by rw [exA_F]; exact powOk_of (m := 1) exA_bn (by decide) (by decide)) W (gmF_at h)).mono ?_
  rintro e w' ⟨hb, hr⟩
  rw [ex_powE] at hr
  rcases hr with ⟨_, q, k, he, hM⟩ | ⟨h0, _⟩
  · rw [exA_F] at hM
    exact ⟨hb, .inl ⟨rfl, q, k, he, hM.congr exB_eq⟩⟩
  · exact absurd rfl h0
theorem ex_det {W : World} {p : Option Addr} (h : MatF W p 2 2 exA) : Calls Try.prog 18 #[.slice p 2 2] W (RetNumE 0 (-1) W) := by
  refine (det_any (gmF 2 2 exA) p 2 exA_fit (fun _ => by rw [exA_F]; exact exA_chr) W (gmF_at h)).mono ?_
  rintro e w' hr
  rw [exA_sq, exA_F, show (gmF 2 2 exA).r = 2 from rfl, exD_eq] at hr
  exact hr
theorem ex_adj {W : World} {p : Option Addr} (h : MatF W p 2 2 exA) : Calls Try.prog 20 #[.slice p 2 2] W (RetMatE 0 2 2 exC W) := by
  refine (adj_any (gmF 2 2 exA) p 2 exA_fit (fun _ => by rw [exA_F]; exact exA_chr) W (gmF_at h)).mono ?_
  rintro e w' ⟨hb, hr⟩
  rw [exA_sq] at hr
  rcases hr with ⟨_, q, k, he, hM⟩ | ⟨h0, _⟩
  · rw [exA_F] at hM
    exact ⟨hb, .inl ⟨rfl, q, k, he, hM.congr exC_eq⟩⟩
  · exact absurd rfl h0
theorem ex_chr {W : World} {p : Option Addr} (h : MatF W p 2 2 exA) : Calls Try.prog 22 #[.slice p 2 2] W (RetRowE 0 3 (fun m => if m = 0 then -1 else if m = 1 then -1 else 1) W) := by
  refine (charac_any (gmF 2 2 exA) p 2 exA_fit (fun _ => by rw [exA_F]; exact exA_chr) W (gmF_at h)).mono ?_
  rintro e w' ⟨hb, hr⟩
  rw [exA_sq] at hr
  rcases hr with ⟨_, q, k, he, hM⟩ | ⟨h0, _⟩
  · rw [exA_F] at hM
    exact ⟨hb, .inl ⟨rfl, q, k, he, hM.congr exP_eq⟩⟩
  · exact absurd rfl h0
def exV (k : Nat) : Int := if k = 0 then 5 else 3
theorem exV_bn : ∀ k, Bn (exV k) 3 := by
  intro k; unfold exV Bn; split <;> decide
theorem exV_anyN : anyN (fun k => !okZ (canon (exV k))) 2 = false := by decide +kernel
theorem ex_app {W : World} {p q : Option Addr} (h : MatF W p 2 2 exA) (hv : RowF W q 2 exV) : Calls Try.prog 29 #[.slice p 2 2, .slice q 2 2] W (RetRowE 0 2 (fun m => if m = 0 then 8 else 5) W) := by
  have hE : applyE (gmF 2 2 exA) 2 (fun k => canon (exV k)) = 0 := by
    unfold applyE
    rw [exV_anyN, exA_chk, if_neg (by decide), if_neg (by show ¬ (2 : Nat) ≠ 2; decide)]
  have hvz : ∀ k, valZ (canon (exV k)) = exV k := fun k => valZ_canon _
  refine (apply_m (gmF 2 2 exA) p 2 q 2 2 (fun k => canon (exV k)) exA_fit (by decide) (fun k _ => (exV_bn k).size _ (by decide)) (fun _ => ⟨by rw [exA_F]; exact exA_bn.small (by decide), ?_⟩) W (gmF_at h) hv).mono ?_
  · rw [exA_F]
    simp only [hvz]
    exact BnM.smallP (e := 1) (f := 3) (m := 1) exA_bn (fun i k _ _ => exV_bn i) (by decide) (by decide)
  · rintro e w' ⟨hb, hr⟩
    rw [hE] at hr
    rcases hr with ⟨_, q, k, he, hM⟩ | ⟨h0, _⟩
    · rw [exA_F] at hM
      simp only [hvz] at hM
      refine ⟨hb, .inl ⟨rfl, q, k, he, hM.congr ?_⟩⟩
      intro m hm
      have hm' : m = 0 ∨ m = 1 := by have : m < 2 := hm; omega
      rcases hm' with rfl | rfl <;> decide +kernel
    · exact absurd rfl h0
theorem RetMatE.ok {r c : Nat} {F : Nat → Nat → Int} {w w' : World} {e : Ending} (h : RetMatE 0 r c F w e w') : ∃ q k, e = .returned (.tuple #[.slice q r k, .int .i64 0]) ∧ MatF w' q r c F ∧ Below w.heap.size w w' := by
  obtain ⟨hb, hr⟩ := h
  rcases hr with ⟨_, q, k, he, hM⟩ | ⟨h0, _⟩
  · exact ⟨q, k, he, hM, hb⟩
  · exact absurd rfl h0
theorem RetRowE.ok {n : Nat} {f : Nat → Int} {w w' : World} {e : Ending} (h : RetRowE 0 n f w e w') : ∃ q k, e = .returned (.tuple #[.slice q n k, .int .i64 0]) ∧ RowF w' q n f ∧ Below w.heap.size w w' := by
  obtain ⟨hb, hr⟩ := h
  rcases hr with ⟨_, q, k, he, hM⟩ | ⟨h0, _⟩
  · exact ⟨q, k, he, hM, hb⟩
  · exact absurd rfl h0
theorem RetNumE.ok {n : Int} {w w' : World} {e : Ending} (h : RetNumE 0 n w e w') : e = .returned (.tuple #[.agg #[.bool (canon n).neg, .string (canon n).mag], .int .i64 0]) ∧ Below w.heap.size w w' := by
  obtain ⟨hb, hr⟩ := h
  rcases hr with ⟨_, he⟩ | ⟨h0, _⟩
  · exact ⟨he, hb⟩
  · exact absurd rfl h0
theorem max5 {P : Program} (ts : Array TypeId) (t : TypeId) (w : World) : (Builtin.max_ ts t #[.int .i64 0, .int .i64 0, .int .i64 0, .int .i64 0, .int .i64 0]).run P w = .ok (.int .i64 0) w := by rfl
set_option maxRecDepth 100000 in
set_option maxHeartbeats 4000000 in
theorem awake_any (w : World) : Calls Try.prog 14 #[] w (RetB true w) := by
  have HO := Lib.hid (fun (n : Int) (h0 : 0 ≤ n) (h1 : n ≤ 10) W => lawOf_any n (by omega) (by omega) W)
  go_enter Try.func14, Try.ntmps14
  go_wp2_with fail
  refine (HO.out 1 (by decide) (by decide) _).mono ?_
  rintro e w1 ⟨rfl, hb⟩
  dsimp only
  have Hb1 := Lib.hid hb
  clear hb
  go_wp2_with fail
  refine (HO.out 1 (by decide) (by decide) _).mono ?_
  rintro e w2 ⟨rfl, hb⟩
  dsimp only
  have Hb2 := Lib.hid (Hb1.out.trans (hb.mono Hb1.out.size))
  clear hb
  have hr1 := row_two w2 1 1 27
  have hb := (Below.refl w2.heap.size w2).alloc (Nat.le_refl _) (.cells #[.bool (canon 1).neg, .string (canon 1).mag, .bool (canon 1).neg, .string (canon 1).mag] 27)
  have Hb3 := Lib.hid (Hb2.out.trans (hb.mono Hb2.out.size))
  have Hr1 := Lib.hid hr1
  clear hb hr1
  go_wp2_with fail
  generalize w2.alloc (.cells #[.bool (canon 1).neg, .string (canon 1).mag, .bool (canon 1).neg, .string (canon 1).mag] 27) = w3 at *
  generalize w2.heap.size = g1 at *
  refine (HO.out 1 (by decide) (by decide) _).mono ?_
  rintro e w4 ⟨rfl, hb⟩
  dsimp only
  have Hb4 := Lib.hid (Hb3.out.trans (hb.mono Hb3.out.size))
  have Hr1 := Lib.hid (Hr1.out.below (Nat.le_refl _) hb)
  clear hb Hb1 Hb2 Hb3
  go_wp2_with fail
  refine (HO.out 0 (by decide) (by decide) _).mono ?_
  rintro e w5 ⟨rfl, hb⟩
  dsimp only
  have Hb5 := Lib.hid (Hb4.out.trans (hb.mono Hb4.out.size))
  have hr1 := Hr1.out.below (Nat.le_refl _) hb
  have hr2 := row_two w5 1 0 27
  have hb5 := (Below.refl w5.heap.size w5).alloc (Nat.le_refl _) (.cells #[.bool (canon 1).neg, .string (canon 1).mag, .bool (canon 0).neg, .string (canon 0).mag] 27)
  have hr1 := hr1.below (Nat.le_refl _) hb5
  have hm := mat_two (c := 2) (d := 2) hr1 hr2 24
  have hb6 := (Below.refl (w5.alloc (.cells #[.bool (canon 1).neg, .string (canon 1).mag, .bool (canon 0).neg, .string (canon 0).mag] 27)).heap.size (w5.alloc (.cells #[.bool (canon 1).neg, .string (canon 1).mag, .bool (canon 0).neg, .string (canon 0).mag] 27))).alloc (Nat.le_refl _) (.cells #[.slice (some ⟨g1, 0, none⟩) 2 2, .slice (some ⟨w5.heap.size, 0, none⟩) 2 2] 24)
  have Hm : Hid (MatF _ _ 2 2 exA) := Lib.hid hm
  have Hb6 := Lib.hid ((Hb5.out.trans (hb5.mono Hb5.out.size)).trans (hb6.mono (by have := hb5.size; have := Hb5.out.size; omega)))
  clear hb hr1 hr2 hb5 hb6 hm Hr1 Hb4 Hb5
  go_wp2_with fail
  obtain ⟨ga, hga⟩ : ∃ g, w5.heap.size + 1 = g := ⟨_, rfl⟩
  have Hm2 : Hid (MatF ((w5.alloc (.cells #[.bool (canon 1).neg, .string (canon 1).mag, .bool (canon 0).neg, .string (canon 0).mag] 27)).alloc (.cells #[.slice (some ⟨g1, 0, none⟩) 2 2, .slice (some ⟨w5.heap.size, 0, none⟩) 2 2] 24)) (some ⟨ga, 0, none⟩) 2 2 exA) := Lib.hid (by
    have h := Hm.out
    rw [World.size_alloc, hga] at h
    exact h)
  rw [hga]
  clear Hm hga
  generalize ((w5.alloc (.cells #[.bool (canon 1).neg, .string (canon 1).mag, .bool (canon 0).neg, .string (canon 0).mag] 27)).alloc (.cells #[.slice (some ⟨g1, 0, none⟩) 2 2, .slice (some ⟨w5.heap.size, 0, none⟩) 2 2] 24)) = w6 at *
  generalize w5.heap.size = g5 at *
  refine (ex_pow Hm2.out).mono ?_
  rintro e w7 h
  obtain ⟨q1, k1, rfl, hM, hb⟩ := h.ok
  dsimp only
  have Hb7 := Lib.hid (Hb6.out.trans (hb.mono Hb6.out.size))
  have Hm3 := Lib.hid (Hm2.out.below (Nat.le_refl _) hb)
  have HB := Lib.hid hM
  clear hM hb h Hm2 Hb6
  go_wp2_with fail
  refine (ex_det Hm3.out).mono ?_
  rintro e w8 h
  obtain ⟨rfl, hb⟩ := h.ok
  dsimp only
  have hb8 := Hb7.out.trans (hb.mono Hb7.out.size)
  have hm4 := Hm3.out.below (Nat.le_refl _) hb
  have hB := HB.out.below (Nat.le_refl _) hb
  have hba := (Below.refl w8.heap.size w8).alloc (Nat.le_refl _) (.cells #[.bool (canon (-1)).neg, .string (canon (-1)).mag] 27)
  have hbx := BoxAt.new w8 (.bool (canon (-1)).neg) (.string (canon (-1)).mag) 27
  have Hb9 := Lib.hid (hb8.trans (hba.mono hb8.size))
  have Hm4 := Lib.hid (hm4.below (Nat.le_refl _) hba)
  have HB := Lib.hid (hB.below (Nat.le_refl _) hba)
  have Hbx := Lib.hid hbx
  clear hb8 hm4 hB hba hbx hb h Hm3 Hb7
  go_wp2_with fail
  generalize w8.alloc (.cells #[.bool (canon (-1)).neg, .string (canon (-1)).mag] 27) = w9 at *
  generalize w8.heap.size = gd at *
  refine (ex_adj Hm4.out).mono ?_
  rintro e w10 h
  obtain ⟨q2, k2, rfl, hM, hb⟩ := h.ok
  dsimp only
  have Hb10 := Lib.hid (Hb9.out.trans (hb.mono Hb9.out.size))
  have Hm5 := Lib.hid (Hm4.out.below (Nat.le_refl _) hb)
  have HB := Lib.hid (HB.out.below (Nat.le_refl _) hb)
  have HC := Lib.hid hM
  have Hbx := Lib.hid (Hbx.out.below hb Hbx.out.2.2.2.2)
  clear hM hb h Hm4 Hb9
  go_wp2_with fail
  refine (ex_chr Hm5.out).mono ?_
  rintro e w11 h
  obtain ⟨q3, k3, rfl, hM, hb⟩ := h.ok
  dsimp only
  have Hb11 := Lib.hid (Hb10.out.trans (hb.mono Hb10.out.size))
  have Hm6 := Lib.hid (Hm5.out.below (Nat.le_refl _) hb)
  have HB := Lib.hid (HB.out.below (Nat.le_refl _) hb)
  have HC := Lib.hid (HC.out.below (Nat.le_refl _) hb)
  have Hbx := Lib.hid (Hbx.out.below hb Hbx.out.2.2.2.2)
  have HP := Lib.hid hM
  clear hM hb h Hm5 Hb10
  go_wp2_with fail
  refine (HO.out 5 (by decide) (by decide) _).mono ?_
  rintro e w12 ⟨rfl, hb⟩
  dsimp only
  have Hb12 := Lib.hid (Hb11.out.trans (hb.mono Hb11.out.size))
  have Hm7 := Lib.hid (Hm6.out.below (Nat.le_refl _) hb)
  have HB := Lib.hid (HB.out.below (Nat.le_refl _) hb)
  have HC := Lib.hid (HC.out.below (Nat.le_refl _) hb)
  have HP := Lib.hid (HP.out.below (Nat.le_refl _) hb)
  have Hbx := Lib.hid (Hbx.out.below hb Hbx.out.2.2.2.2)
  clear hb Hm6 Hb11
  go_wp2_with fail
  refine (HO.out 3 (by decide) (by decide) _).mono ?_
  rintro e w13 ⟨rfl, hb⟩
  dsimp only
  have hb13 := Hb12.out.trans (hb.mono Hb12.out.size)
  have hba := (Below.refl w13.heap.size w13).alloc (Nat.le_refl _) (.cells #[.bool (canon 5).neg, .string (canon 5).mag, .bool (canon 3).neg, .string (canon 3).mag] 27)
  have hbt := hb.trans (hba.mono hb.size)
  have Hr : Hid (RowF _ _ 2 exV) := Lib.hid (row_two w13 5 3 27)
  have Hb13 := Lib.hid (hb13.trans (hba.mono hb13.size))
  have Hm8 := Lib.hid (Hm7.out.below (Nat.le_refl _) hbt)
  have HB := Lib.hid (HB.out.below (Nat.le_refl _) hbt)
  have HC := Lib.hid (HC.out.below (Nat.le_refl _) hbt)
  have HP := Lib.hid (HP.out.below (Nat.le_refl _) hbt)
  have Hbx := Lib.hid (Hbx.out.below hbt Hbx.out.2.2.2.2)
  clear hb hba hb13 hbt Hm7 Hb12
  go_wp2_with fail
  generalize w13.alloc (.cells #[.bool (canon 5).neg, .string (canon 5).mag, .bool (canon 3).neg, .string (canon 3).mag] 27) = w14 at *
  generalize w13.heap.size = gv at *
  refine (ex_app Hm8.out Hr.out).mono ?_
  rintro e w15 h
  obtain ⟨q4, k4, rfl, hM, hb⟩ := h.ok
  dsimp only
  have Hb15 := Lib.hid (Hb13.out.trans (hb.mono Hb13.out.size))
  have HB := Lib.hid (HB.out.below (Nat.le_refl _) hb)
  have HC := Lib.hid (HC.out.below (Nat.le_refl _) hb)
  have HP := Lib.hid (HP.out.below (Nat.le_refl _) hb)
  have Hbx := Lib.hid (Hbx.out.below hb Hbx.out.2.2.2.2)
  have HV := Lib.hid hM
  clear hM hb h Hm8 Hb13 Hr HO
  go_upto_region 7 with (fail)
  obtain ⟨d1, d2, d3, d4, d5⟩ := Hbx.out
  obtain ⟨SS, hSe⟩ : ∃ SS : World → Prop, SS = fun W => W.cell? ⟨gd, 0, none⟩ = some (.bool (canon (-1)).neg) ∧ W.cell? ⟨gd, 1, none⟩ = some (.string (canon (-1)).mag) := ⟨_, rfl⟩
  have HS : Hid (∀ W, Below w15.heap.size w15 W → SS W) := Lib.hid (fun W hW => by rw [hSe]; exact ⟨cell_below hW d1, cell_below hW d2⟩)
  have HR1 : Hid (∀ W, Calls Try.prog 56 #[.int .i64 1] W (RetZ (canon 1) W)) := Lib.hid (fun W => refOf_any 1 (by decide) W)
  have HR2 : Hid (∀ W, Calls Try.prog 56 #[.int .i64 2] W (RetZ (canon 2) W)) := Lib.hid (fun W => refOf_any 2 (by decide) W)
  have HR5 : Hid (∀ W, Calls Try.prog 56 #[.int .i64 5] W (RetZ (canon 5) W)) := Lib.hid (fun W => refOf_any 5 (by decide) W)
  have HR8 : Hid (∀ W, Calls Try.prog 56 #[.int .i64 8] W (RetZ (canon 8) W)) := Lib.hid (fun W => refOf_any 8 (by decide) W)
  have HRn : Hid (∀ W, Calls Try.prog 56 #[.int .i64 (-1)] W (RetZ (canon (-1)) W)) := Lib.hid (fun W => refOfNeg_any 1 (by decide) (by decide) W)
  have hd : Below w15.heap.size w15 w15.drew := (Below.refl w15.heap.size w15).drew
  have hmax := @max5 Try.prog
  clear d1 d2 d3 d4 d5 Hbx
  go_cut [12] (fun v wx => v = .bool true ∧ Hid (Below w15.heap.size w15 wx))
  case first =>
    refine wp_region_held_drew (S := SS) (by kernel_rfl) (HS.out _ hd) (fun hSS => ?_)
    refine wpAnyH_take (i := 0) (v := ?_) rfl (by kernel_rfl) (by kernel_rfl) (by kernel_rfl) (fun _ _ _ h => h) (Or.inl ⟨by rfl, ?_⟩) hSS ?_
    rotate_left 1
    next => intro w hSw; rw [hSe] at hSw; obtain ⟨s1, s2⟩ := hSw; go_simp; try with_reducible rfl
    refine wpAnyH_take (i := 1) (v := ?_) rfl (by kernel_rfl) (by kernel_rfl) (by kernel_rfl) (fun _ _ _ h => h) (Or.inl ⟨by rfl, ?_⟩) hSS ?_
    rotate_left 1
    next => intro w hSw; rw [hSe] at hSw; obtain ⟨s1, s2⟩ := hSw; go_simp; try with_reducible rfl
    refine wpAnyH_take (i := 2) (v := ?_) rfl (by kernel_rfl) (by kernel_rfl) (by kernel_rfl) (fun _ _ _ h => h) (Or.inl ⟨by rfl, ?_⟩) hSS ?_
    rotate_left 1
    next => intro w hSw; rw [hSe] at hSw; obtain ⟨s1, s2⟩ := hSw; go_simp; try with_reducible rfl
    refine wpAnyH_take (i := 3) (v := ?_) rfl (by kernel_rfl) (by kernel_rfl) (by kernel_rfl) (fun _ _ _ h => h) (Or.inl ⟨by rfl, ?_⟩) hSS ?_
    rotate_left 1
    next => intro w hSw; rw [hSe] at hSw; obtain ⟨s1, s2⟩ := hSw; go_simp; try with_reducible rfl
    refine wpAnyH_take (i := 4) (v := ?_) rfl (by kernel_rfl) (by kernel_rfl) (by kernel_rfl) (fun _ _ _ h => h) (Or.inl ⟨by rfl, ?_⟩) hSS ?_
    rotate_left 1
    next => intro w hSw; rw [hSe] at hSw; obtain ⟨s1, s2⟩ := hSw; go_simp; try with_reducible rfl
    simp only [Act.put, List.getElem_toArray, List.getElem_cons_zero, List.getElem_cons_succ, List.setIfInBounds_toArray, List.set_cons_zero, List.set_cons_succ]
    refine wpAnyH_ready (rs := [5]) (by kernel_rfl) (by simp) ?_
    refine AllReadyH.cons rfl (fun K hK => ?_) AllReadyH.nil
    go_simp
    refine hK.out _ _ hSS (fun _ => ?_)
    clear hK K
    refine wpAnyH_take (i := 6) (v := ?_) rfl (by kernel_rfl) (by kernel_rfl) (by kernel_rfl) (fun _ _ _ h => h) (Or.inl ⟨by rfl, ?_⟩) hSS ?_
    rotate_left 1
    next => intro w hSw; rw [hSe] at hSw; obtain ⟨s1, s2⟩ := hSw; go_simp; try with_reducible rfl
    refine wpAnyH_take (i := 7) (v := ?_) rfl (by kernel_rfl) (by kernel_rfl) (by kernel_rfl) (fun _ _ _ h => h) (Or.inl ⟨by rfl, ?_⟩) hSS ?_
    rotate_left 1
    next => intro w hSw; rw [hSe] at hSw; obtain ⟨s1, s2⟩ := hSw; go_simp; try with_reducible rfl
    refine wpAnyH_take (i := 8) (v := ?_) rfl (by kernel_rfl) (by kernel_rfl) (by kernel_rfl) (fun _ _ _ h => h) (Or.inl ⟨by rfl, ?_⟩) hSS ?_
    rotate_left 1
    next => intro w hSw; rw [hSe] at hSw; obtain ⟨s1, s2⟩ := hSw; go_simp; try with_reducible rfl
    try simp only [Act.put, List.getElem_toArray, List.getElem_cons_zero, List.getElem_cons_succ, List.setIfInBounds_toArray, List.set_cons_zero, List.set_cons_succ]
    refine wpAnyH_ready (rs := [9]) (by kernel_rfl) (by simp) ?_
    refine AllReadyH.cons rfl (fun K hK => ?_) AllReadyH.nil
    go_simp
    refine (HRn.out _).mono ?_
    rintro e w16 ⟨rfl, hbc⟩
    have hb16 : Below w15.heap.size w15 w16 := hd.trans (hbc.mono hd.size)
    dsimp only
    refine hK.out _ _ (HS.out _ hb16) (fun _ => ?_)
    clear hK K
    refine wpAnyH_take (i := 10) (v := ?_) rfl (by kernel_rfl) (by kernel_rfl) (by kernel_rfl) (fun _ _ _ h => h) (Or.inl ⟨by rfl, ?_⟩) (HS.out _ hb16) ?_
    rotate_left 1
    next => intro w hSw; rw [hSe] at hSw; obtain ⟨s1, s2⟩ := hSw; go_simp; try with_reducible rfl
    refine wpAnyH_take (i := 11) (v := ?_) rfl (by kernel_rfl) (by kernel_rfl) (by kernel_rfl) (fun _ _ _ h => h) (Or.inl ⟨by rfl, ?_⟩) (HS.out _ hb16) ?_
    rotate_left 1
    next => intro w hSw; rw [hSe] at hSw; obtain ⟨s1, s2⟩ := hSw; go_simp; try with_reducible rfl
    refine wpAnyH_take (i := 12) (v := ?_) rfl (by kernel_rfl) (by kernel_rfl) (by kernel_rfl) (fun _ _ _ h => h) (Or.inl ⟨by rfl, ?_⟩) (HS.out _ hb16) ?_
    rotate_left 1
    next => intro w hSw; rw [hSe] at hSw; obtain ⟨s1, s2⟩ := hSw; go_simp; try with_reducible rfl
    refine wpAnyH_take (i := 13) (v := ?_) rfl (by kernel_rfl) (by kernel_rfl) (by kernel_rfl) (fun _ _ _ h => h) (Or.inl ⟨by rfl, ?_⟩) (HS.out _ hb16) ?_
    rotate_left 1
    next => intro w hSw; rw [hSe] at hSw; obtain ⟨s1, s2⟩ := hSw; go_simp; try with_reducible rfl
    try simp only [Act.put, List.getElem_toArray, List.getElem_cons_zero, List.getElem_cons_succ, List.setIfInBounds_toArray, List.set_cons_zero, List.set_cons_succ]
    refine wpAnyH_ready (rs := [14]) (by kernel_rfl) (by simp) ?_
    refine AllReadyH.cons rfl (fun K hK => ?_) AllReadyH.nil
    go_simp
    refine (HR2.out _).mono ?_
    rintro e w17 ⟨rfl, hbc⟩
    have hb17 : Below w15.heap.size w15 w17 := hb16.trans (hbc.mono hb16.size)
    dsimp only
    refine hK.out _ _ (HS.out _ hb17) (fun _ => ?_)
    clear hK K
    refine wpAnyH_ready (rs := [15]) (by kernel_rfl) (by simp) ?_
    refine AllReadyH.cons rfl (fun K hK => ?_) AllReadyH.nil
    go_simp
    refine (HR1.out _).mono ?_
    rintro e w18 ⟨rfl, hbc⟩
    have hb18 : Below w15.heap.size w15 w18 := hb17.trans (hbc.mono hb17.size)
    dsimp only
    refine hK.out _ _ (HS.out _ hb18) (fun _ => ?_)
    clear hK K
    refine wpAnyH_ready (rs := [16, 17]) (by kernel_rfl) (by simp) ?_
    refine AllReadyH.cons rfl ?_ ?_
    · intro K hK
      go_simp
      have hbc := (Below.refl w18.heap.size w18).alloc (Nat.le_refl _) (.cells #[.bool (canon 2).neg, .string (canon 2).mag, .bool (canon 1).neg, .string (canon 1).mag] 27)
      have hb19 : Below w15.heap.size w15 _ := hb18.trans (hbc.mono hb18.size)
      refine hK.out _ _ (HS.out _ hb19) (fun _ => ?_)
      clear hK K
      have hrp := row_two w18 2 1 27
      clear hbc
      obtain ⟨gp, hgg⟩ : ∃ g, w18.heap.size = g := ⟨_, rfl⟩
      rw [hgg] at hrp ⊢
      clear hgg
      generalize w18.alloc (.cells #[.bool (canon 2).neg, .string (canon 2).mag, .bool (canon 1).neg, .string (canon 1).mag] 27) = w19 at *
      refine wpAnyH_ready (rs := [17]) (by kernel_rfl) (by simp) ?_
      refine AllReadyH.cons rfl (fun K hK => ?_) AllReadyH.nil
      go_simp
      refine (HR1.out _).mono ?_
      rintro e w20 ⟨rfl, hbc⟩
      have hb20 : Below w15.heap.size w15 w20 := hb19.trans (hbc.mono hb19.size)
      dsimp only
      refine hK.out _ _ (HS.out _ hb20) (fun _ => ?_)
      clear hK K
      have hrp := hrp.below (Nat.le_refl _) hbc
      refine wpAnyH_ready (rs := [18]) (by kernel_rfl) (by simp) ?_
      refine AllReadyH.cons rfl (fun K hK => ?_) AllReadyH.nil
      go_simp
      refine (HR1.out _).mono ?_
      rintro e w21 ⟨rfl, hbc⟩
      have hb21 : Below w15.heap.size w15 w21 := hb20.trans (hbc.mono hb20.size)
      dsimp only
      refine hK.out _ _ (HS.out _ hb21) (fun _ => ?_)
      clear hK K
      have hrp := hrp.below (Nat.le_refl _) hbc
      refine wpAnyH_ready (rs := [19]) (by kernel_rfl) (by simp) ?_
      refine AllReadyH.cons rfl (fun K hK => ?_) AllReadyH.nil
      go_simp
      have hbc := (Below.refl w21.heap.size w21).alloc (Nat.le_refl _) (.cells #[.bool (canon 1).neg, .string (canon 1).mag, .bool (canon 1).neg, .string (canon 1).mag] 27)
      have hb22 : Below w15.heap.size w15 _ := hb21.trans (hbc.mono hb21.size)
      refine hK.out _ _ (HS.out _ hb22) (fun _ => ?_)
      clear hK K
      have hrq := row_two w21 1 1 27
      have hrp := hrp.below (Nat.le_refl _) hbc
      clear hbc
      obtain ⟨gq, hgg⟩ : ∃ g, w21.heap.size = g := ⟨_, rfl⟩
      rw [hgg] at hrq ⊢
      clear hgg
      generalize w21.alloc (.cells #[.bool (canon 1).neg, .string (canon 1).mag, .bool (canon 1).neg, .string (canon 1).mag] 27) = w22 at *
      refine wpAnyH_ready (rs := [20]) (by kernel_rfl) (by simp) ?_
      refine AllReadyH.cons rfl (fun K hK => ?_) AllReadyH.nil
      go_simp
      have hbc := (Below.refl w22.heap.size w22).alloc (Nat.le_refl _) (.cells #[.slice (some ⟨gp, 0, none⟩) 2 2, .slice (some ⟨gq, 0, none⟩) 2 2] 24)
      have hb30 : Below w15.heap.size w15 _ := hb22.trans (hbc.mono hb22.size)
      refine hK.out _ _ (HS.out _ hb30) (fun _ => ?_)
      clear hK K
      have hmm := mat_two (c := 2) (d := 2) hrp hrq 24
      clear hbc
      obtain ⟨gm, hgg⟩ : ∃ g, w22.heap.size = g := ⟨_, rfl⟩
      rw [hgg] at hmm ⊢
      clear hgg
      generalize w22.alloc (.cells #[.slice (some ⟨gp, 0, none⟩) 2 2, .slice (some ⟨gq, 0, none⟩) 2 2] 24) = w30 at *
      refine wpAnyH_ready (rs := [21]) (by kernel_rfl) (by simp) ?_
      refine AllReadyH.cons rfl (fun K hK => ?_) AllReadyH.nil
      go_simp
      refine (same_true 2 2 q1 (some ⟨gm, 0, none⟩) k1 2 exB (by decide) (by decide) w30 (HB.out.below (Nat.le_refl _) hb30) hmm).mono ?_
      rintro e w31 ⟨rfl, hbc⟩
      have hb31 : Below w15.heap.size w15 w31 := hb30.trans (hbc.mono hb30.size)
      dsimp only
      refine hK.out _ _ (HS.out _ hb31) (fun _ => ?_)
      clear hK K
      refine wpAnyH_take (i := 22) (v := ?_) rfl (by kernel_rfl) (by kernel_rfl) (by kernel_rfl) (fun _ _ _ h => h) (Or.inl ⟨by rfl, ?_⟩) (HS.out _ hb31) ?_
      rotate_left 1
      next => intro w hSw; rw [hSe] at hSw; obtain ⟨s1, s2⟩ := hSw; go_simp; try with_reducible rfl
      refine wpAnyH_take (i := 23) (v := ?_) rfl (by kernel_rfl) (by kernel_rfl) (by kernel_rfl) (fun _ _ _ h => h) (Or.inl ⟨by rfl, ?_⟩) (HS.out _ hb31) ?_
      rotate_left 1
      next => intro w hSw; rw [hSe] at hSw; obtain ⟨s1, s2⟩ := hSw; go_simp; try with_reducible rfl
      refine wpAnyH_done (by kernel_rfl) ?_ _
      go_wp2_with fail
      go_meet
      exact ⟨rfl, Lib.hid hb31⟩
    · refine AllReadyH.cons rfl ?_ AllReadyH.nil
      intro K hK
      go_simp
      refine (HR1.out _).mono ?_
      rintro e w19 ⟨rfl, hbc⟩
      have hb19 : Below w15.heap.size w15 w19 := hb18.trans (hbc.mono hb18.size)
      dsimp only
      refine hK.out _ _ (HS.out _ hb19) (fun _ => ?_)
      clear hK K
      refine wpAnyH_ready (rs := [16, 18]) (by kernel_rfl) (by simp) ?_
      refine AllReadyH.cons rfl ?_ ?_
      · intro K hK
        go_simp
        have hbc := (Below.refl w19.heap.size w19).alloc (Nat.le_refl _) (.cells #[.bool (canon 2).neg, .string (canon 2).mag, .bool (canon 1).neg, .string (canon 1).mag] 27)
        have hb20 : Below w15.heap.size w15 _ := hb19.trans (hbc.mono hb19.size)
        refine hK.out _ _ (HS.out _ hb20) (fun _ => ?_)
        clear hK K
        have hrp := row_two w19 2 1 27
        clear hbc
        obtain ⟨gp, hgg⟩ : ∃ g, w19.heap.size = g := ⟨_, rfl⟩
        rw [hgg] at hrp ⊢
        clear hgg
        generalize w19.alloc (.cells #[.bool (canon 2).neg, .string (canon 2).mag, .bool (canon 1).neg, .string (canon 1).mag] 27) = w20 at *
        refine wpAnyH_ready (rs := [18]) (by kernel_rfl) (by simp) ?_
        refine AllReadyH.cons rfl (fun K hK => ?_) AllReadyH.nil
        go_simp
        refine (HR1.out _).mono ?_
        rintro e w21 ⟨rfl, hbc⟩
        have hb21 : Below w15.heap.size w15 w21 := hb20.trans (hbc.mono hb20.size)
        dsimp only
        refine hK.out _ _ (HS.out _ hb21) (fun _ => ?_)
        clear hK K
        have hrp := hrp.below (Nat.le_refl _) hbc
        refine wpAnyH_ready (rs := [19]) (by kernel_rfl) (by simp) ?_
        refine AllReadyH.cons rfl (fun K hK => ?_) AllReadyH.nil
        go_simp
        have hbc := (Below.refl w21.heap.size w21).alloc (Nat.le_refl _) (.cells #[.bool (canon 1).neg, .string (canon 1).mag, .bool (canon 1).neg, .string (canon 1).mag] 27)
        have hb22 : Below w15.heap.size w15 _ := hb21.trans (hbc.mono hb21.size)
        refine hK.out _ _ (HS.out _ hb22) (fun _ => ?_)
        clear hK K
        have hrq := row_two w21 1 1 27
        have hrp := hrp.below (Nat.le_refl _) hbc
        clear hbc
        obtain ⟨gq, hgg⟩ : ∃ g, w21.heap.size = g := ⟨_, rfl⟩
        rw [hgg] at hrq ⊢
        clear hgg
        generalize w21.alloc (.cells #[.bool (canon 1).neg, .string (canon 1).mag, .bool (canon 1).neg, .string (canon 1).mag] 27) = w22 at *
        refine wpAnyH_ready (rs := [20]) (by kernel_rfl) (by simp) ?_
        refine AllReadyH.cons rfl (fun K hK => ?_) AllReadyH.nil
        go_simp
        have hbc := (Below.refl w22.heap.size w22).alloc (Nat.le_refl _) (.cells #[.slice (some ⟨gp, 0, none⟩) 2 2, .slice (some ⟨gq, 0, none⟩) 2 2] 24)
        have hb30 : Below w15.heap.size w15 _ := hb22.trans (hbc.mono hb22.size)
        refine hK.out _ _ (HS.out _ hb30) (fun _ => ?_)
        clear hK K
        have hmm := mat_two (c := 2) (d := 2) hrp hrq 24
        clear hbc
        obtain ⟨gm, hgg⟩ : ∃ g, w22.heap.size = g := ⟨_, rfl⟩
        rw [hgg] at hmm ⊢
        clear hgg
        generalize w22.alloc (.cells #[.slice (some ⟨gp, 0, none⟩) 2 2, .slice (some ⟨gq, 0, none⟩) 2 2] 24) = w30 at *
        refine wpAnyH_ready (rs := [21]) (by kernel_rfl) (by simp) ?_
        refine AllReadyH.cons rfl (fun K hK => ?_) AllReadyH.nil
        go_simp
        refine (same_true 2 2 q1 (some ⟨gm, 0, none⟩) k1 2 exB (by decide) (by decide) w30 (HB.out.below (Nat.le_refl _) hb30) hmm).mono ?_
        rintro e w31 ⟨rfl, hbc⟩
        have hb31 : Below w15.heap.size w15 w31 := hb30.trans (hbc.mono hb30.size)
        dsimp only
        refine hK.out _ _ (HS.out _ hb31) (fun _ => ?_)
        clear hK K
        refine wpAnyH_take (i := 22) (v := ?_) rfl (by kernel_rfl) (by kernel_rfl) (by kernel_rfl) (fun _ _ _ h => h) (Or.inl ⟨by rfl, ?_⟩) (HS.out _ hb31) ?_
        rotate_left 1
        next => intro w hSw; rw [hSe] at hSw; obtain ⟨s1, s2⟩ := hSw; go_simp; try with_reducible rfl
        refine wpAnyH_take (i := 23) (v := ?_) rfl (by kernel_rfl) (by kernel_rfl) (by kernel_rfl) (fun _ _ _ h => h) (Or.inl ⟨by rfl, ?_⟩) (HS.out _ hb31) ?_
        rotate_left 1
        next => intro w hSw; rw [hSe] at hSw; obtain ⟨s1, s2⟩ := hSw; go_simp; try with_reducible rfl
        refine wpAnyH_done (by kernel_rfl) ?_ _
        go_wp2_with fail
        go_meet
        exact ⟨rfl, Lib.hid hb31⟩
      · refine AllReadyH.cons rfl ?_ AllReadyH.nil
        intro K hK
        go_simp
        refine (HR1.out _).mono ?_
        rintro e w20 ⟨rfl, hbc⟩
        have hb20 : Below w15.heap.size w15 w20 := hb19.trans (hbc.mono hb19.size)
        dsimp only
        refine hK.out _ _ (HS.out _ hb20) (fun _ => ?_)
        clear hK K
        refine wpAnyH_ready (rs := [16, 19]) (by kernel_rfl) (by simp) ?_
        refine AllReadyH.cons rfl ?_ ?_
        · intro K hK
          go_simp
          have hbc := (Below.refl w20.heap.size w20).alloc (Nat.le_refl _) (.cells #[.bool (canon 2).neg, .string (canon 2).mag, .bool (canon 1).neg, .string (canon 1).mag] 27)
          have hb21 : Below w15.heap.size w15 _ := hb20.trans (hbc.mono hb20.size)
          refine hK.out _ _ (HS.out _ hb21) (fun _ => ?_)
          clear hK K
          have hrp := row_two w20 2 1 27
          clear hbc
          obtain ⟨gp, hgg⟩ : ∃ g, w20.heap.size = g := ⟨_, rfl⟩
          rw [hgg] at hrp ⊢
          clear hgg
          generalize w20.alloc (.cells #[.bool (canon 2).neg, .string (canon 2).mag, .bool (canon 1).neg, .string (canon 1).mag] 27) = w21 at *
          refine wpAnyH_ready (rs := [19]) (by kernel_rfl) (by simp) ?_
          refine AllReadyH.cons rfl (fun K hK => ?_) AllReadyH.nil
          go_simp
          have hbc := (Below.refl w21.heap.size w21).alloc (Nat.le_refl _) (.cells #[.bool (canon 1).neg, .string (canon 1).mag, .bool (canon 1).neg, .string (canon 1).mag] 27)
          have hb22 : Below w15.heap.size w15 _ := hb21.trans (hbc.mono hb21.size)
          refine hK.out _ _ (HS.out _ hb22) (fun _ => ?_)
          clear hK K
          have hrq := row_two w21 1 1 27
          have hrp := hrp.below (Nat.le_refl _) hbc
          clear hbc
          obtain ⟨gq, hgg⟩ : ∃ g, w21.heap.size = g := ⟨_, rfl⟩
          rw [hgg] at hrq ⊢
          clear hgg
          generalize w21.alloc (.cells #[.bool (canon 1).neg, .string (canon 1).mag, .bool (canon 1).neg, .string (canon 1).mag] 27) = w22 at *
          refine wpAnyH_ready (rs := [20]) (by kernel_rfl) (by simp) ?_
          refine AllReadyH.cons rfl (fun K hK => ?_) AllReadyH.nil
          go_simp
          have hbc := (Below.refl w22.heap.size w22).alloc (Nat.le_refl _) (.cells #[.slice (some ⟨gp, 0, none⟩) 2 2, .slice (some ⟨gq, 0, none⟩) 2 2] 24)
          have hb30 : Below w15.heap.size w15 _ := hb22.trans (hbc.mono hb22.size)
          refine hK.out _ _ (HS.out _ hb30) (fun _ => ?_)
          clear hK K
          have hmm := mat_two (c := 2) (d := 2) hrp hrq 24
          clear hbc
          obtain ⟨gm, hgg⟩ : ∃ g, w22.heap.size = g := ⟨_, rfl⟩
          rw [hgg] at hmm ⊢
          clear hgg
          generalize w22.alloc (.cells #[.slice (some ⟨gp, 0, none⟩) 2 2, .slice (some ⟨gq, 0, none⟩) 2 2] 24) = w30 at *
          refine wpAnyH_ready (rs := [21]) (by kernel_rfl) (by simp) ?_
          refine AllReadyH.cons rfl (fun K hK => ?_) AllReadyH.nil
          go_simp
          refine (same_true 2 2 q1 (some ⟨gm, 0, none⟩) k1 2 exB (by decide) (by decide) w30 (HB.out.below (Nat.le_refl _) hb30) hmm).mono ?_
          rintro e w31 ⟨rfl, hbc⟩
          have hb31 : Below w15.heap.size w15 w31 := hb30.trans (hbc.mono hb30.size)
          dsimp only
          refine hK.out _ _ (HS.out _ hb31) (fun _ => ?_)
          clear hK K
          refine wpAnyH_take (i := 22) (v := ?_) rfl (by kernel_rfl) (by kernel_rfl) (by kernel_rfl) (fun _ _ _ h => h) (Or.inl ⟨by rfl, ?_⟩) (HS.out _ hb31) ?_
          rotate_left 1
          next => intro w hSw; rw [hSe] at hSw; obtain ⟨s1, s2⟩ := hSw; go_simp; try with_reducible rfl
          refine wpAnyH_take (i := 23) (v := ?_) rfl (by kernel_rfl) (by kernel_rfl) (by kernel_rfl) (fun _ _ _ h => h) (Or.inl ⟨by rfl, ?_⟩) (HS.out _ hb31) ?_
          rotate_left 1
          next => intro w hSw; rw [hSe] at hSw; obtain ⟨s1, s2⟩ := hSw; go_simp; try with_reducible rfl
          refine wpAnyH_done (by kernel_rfl) ?_ _
          go_wp2_with fail
          go_meet
          exact ⟨rfl, Lib.hid hb31⟩
        · refine AllReadyH.cons rfl ?_ AllReadyH.nil
          intro K hK
          go_simp
          have hbc := (Below.refl w20.heap.size w20).alloc (Nat.le_refl _) (.cells #[.bool (canon 1).neg, .string (canon 1).mag, .bool (canon 1).neg, .string (canon 1).mag] 27)
          have hb21 : Below w15.heap.size w15 _ := hb20.trans (hbc.mono hb20.size)
          refine hK.out _ _ (HS.out _ hb21) (fun _ => ?_)
          clear hK K
          have hrq := row_two w20 1 1 27
          clear hbc
          obtain ⟨gq, hgg⟩ : ∃ g, w20.heap.size = g := ⟨_, rfl⟩
          rw [hgg] at hrq ⊢
          clear hgg
          generalize w20.alloc (.cells #[.bool (canon 1).neg, .string (canon 1).mag, .bool (canon 1).neg, .string (canon 1).mag] 27) = w21 at *
          refine wpAnyH_ready (rs := [16]) (by kernel_rfl) (by simp) ?_
          refine AllReadyH.cons rfl (fun K hK => ?_) AllReadyH.nil
          go_simp
          have hbc := (Below.refl w21.heap.size w21).alloc (Nat.le_refl _) (.cells #[.bool (canon 2).neg, .string (canon 2).mag, .bool (canon 1).neg, .string (canon 1).mag] 27)
          have hb22 : Below w15.heap.size w15 _ := hb21.trans (hbc.mono hb21.size)
          refine hK.out _ _ (HS.out _ hb22) (fun _ => ?_)
          clear hK K
          have hrp := row_two w21 2 1 27
          have hrq := hrq.below (Nat.le_refl _) hbc
          clear hbc
          obtain ⟨gp, hgg⟩ : ∃ g, w21.heap.size = g := ⟨_, rfl⟩
          rw [hgg] at hrp ⊢
          clear hgg
          generalize w21.alloc (.cells #[.bool (canon 2).neg, .string (canon 2).mag, .bool (canon 1).neg, .string (canon 1).mag] 27) = w22 at *
          refine wpAnyH_ready (rs := [20]) (by kernel_rfl) (by simp) ?_
          refine AllReadyH.cons rfl (fun K hK => ?_) AllReadyH.nil
          go_simp
          have hbc := (Below.refl w22.heap.size w22).alloc (Nat.le_refl _) (.cells #[.slice (some ⟨gp, 0, none⟩) 2 2, .slice (some ⟨gq, 0, none⟩) 2 2] 24)
          have hb30 : Below w15.heap.size w15 _ := hb22.trans (hbc.mono hb22.size)
          refine hK.out _ _ (HS.out _ hb30) (fun _ => ?_)
          clear hK K
          have hmm := mat_two (c := 2) (d := 2) hrp hrq 24
          clear hbc
          obtain ⟨gm, hgg⟩ : ∃ g, w22.heap.size = g := ⟨_, rfl⟩
          rw [hgg] at hmm ⊢
          clear hgg
          generalize w22.alloc (.cells #[.slice (some ⟨gp, 0, none⟩) 2 2, .slice (some ⟨gq, 0, none⟩) 2 2] 24) = w30 at *
          refine wpAnyH_ready (rs := [21]) (by kernel_rfl) (by simp) ?_
          refine AllReadyH.cons rfl (fun K hK => ?_) AllReadyH.nil
          go_simp
          refine (same_true 2 2 q1 (some ⟨gm, 0, none⟩) k1 2 exB (by decide) (by decide) w30 (HB.out.below (Nat.le_refl _) hb30) hmm).mono ?_
          rintro e w31 ⟨rfl, hbc⟩
          have hb31 : Below w15.heap.size w15 w31 := hb30.trans (hbc.mono hb30.size)
          dsimp only
          refine hK.out _ _ (HS.out _ hb31) (fun _ => ?_)
          clear hK K
          refine wpAnyH_take (i := 22) (v := ?_) rfl (by kernel_rfl) (by kernel_rfl) (by kernel_rfl) (fun _ _ _ h => h) (Or.inl ⟨by rfl, ?_⟩) (HS.out _ hb31) ?_
          rotate_left 1
          next => intro w hSw; rw [hSe] at hSw; obtain ⟨s1, s2⟩ := hSw; go_simp; try with_reducible rfl
          refine wpAnyH_take (i := 23) (v := ?_) rfl (by kernel_rfl) (by kernel_rfl) (by kernel_rfl) (fun _ _ _ h => h) (Or.inl ⟨by rfl, ?_⟩) (HS.out _ hb31) ?_
          rotate_left 1
          next => intro w hSw; rw [hSe] at hSw; obtain ⟨s1, s2⟩ := hSw; go_simp; try with_reducible rfl
          refine wpAnyH_done (by kernel_rfl) ?_ _
          go_wp2_with fail
          go_meet
          exact ⟨rfl, Lib.hid hb31⟩
  case rest =>
    obtain ⟨rfl, Hbb⟩ := hcut
    have HB0 := Lib.hid (HC.out.below (Nat.le_refl _) Hbb.out)
    have HP := Lib.hid (HP.out.below (Nat.le_refl _) Hbb.out)
    have HV := Lib.hid (HV.out.below (Nat.le_refl _) Hbb.out)
    clear HS hSe HB HC hd
    have c0 : canon 0 = ⟨false, ⟨#[]⟩⟩ := by rfl
    go_wp2_with fail
    refine (HRn.out _).mono ?_
    rintro e x1 ⟨rfl, hbc⟩
    dsimp only
    have Hbb := Lib.hid (Hbb.out.trans (hbc.mono Hbb.out.size))
    have HB0 := Lib.hid (HB0.out.below (Nat.le_refl _) hbc)
    have HP := Lib.hid (HP.out.below (Nat.le_refl _) hbc)
    have HV := Lib.hid (HV.out.below (Nat.le_refl _) hbc)
    clear hbc
    have hbc := (Below.refl x1.heap.size x1).alloc (Nat.le_refl _) (.cells #[.bool false, .string ⟨#[]⟩, .bool (canon (-1)).neg, .string (canon (-1)).mag] 27)
    have Hra : Hid (RowF (x1.alloc (.cells #[.bool false, .string ⟨#[]⟩, .bool (canon (-1)).neg, .string (canon (-1)).mag] 27)) (some ⟨x1.heap.size, 0, none⟩) 2 (fun k => if k = 0 then 0 else -1)) := Lib.hid (row_two x1 0 (-1) 27)
    have Hbb := Lib.hid (Hbb.out.trans (hbc.mono Hbb.out.size))
    have HB0 := Lib.hid (HB0.out.below (Nat.le_refl _) hbc)
    have HP := Lib.hid (HP.out.below (Nat.le_refl _) hbc)
    have HV := Lib.hid (HV.out.below (Nat.le_refl _) hbc)
    clear hbc
    go_wp2_with fail
    obtain ⟨ga1, hgg⟩ : ∃ g, x1.heap.size = g := ⟨_, rfl⟩
    rw [hgg] at Hra ⊢
    clear hgg
    generalize x1.alloc (.cells #[.bool false, .string ⟨#[]⟩, .bool (canon (-1)).neg, .string (canon (-1)).mag] 27) = x2 at *
    refine (HRn.out _).mono ?_
    rintro e x3 ⟨rfl, hbc⟩
    dsimp only
    have Hbb := Lib.hid (Hbb.out.trans (hbc.mono Hbb.out.size))
    have HB0 := Lib.hid (HB0.out.below (Nat.le_refl _) hbc)
    have HP := Lib.hid (HP.out.below (Nat.le_refl _) hbc)
    have HV := Lib.hid (HV.out.below (Nat.le_refl _) hbc)
    have Hra := Lib.hid (Hra.out.below (Nat.le_refl _) hbc)
    clear hbc
    go_wp2_with fail
    refine (HR1.out _).mono ?_
    rintro e x4 ⟨rfl, hbc⟩
    dsimp only
    have Hbb := Lib.hid (Hbb.out.trans (hbc.mono Hbb.out.size))
    have HB0 := Lib.hid (HB0.out.below (Nat.le_refl _) hbc)
    have HP := Lib.hid (HP.out.below (Nat.le_refl _) hbc)
    have HV := Lib.hid (HV.out.below (Nat.le_refl _) hbc)
    have Hra := Lib.hid (Hra.out.below (Nat.le_refl _) hbc)
    clear hbc
    have hbc := (Below.refl x4.heap.size x4).alloc (Nat.le_refl _) (.cells #[.bool (canon (-1)).neg, .string (canon (-1)).mag, .bool (canon 1).neg, .string (canon 1).mag] 27)
    have Hrb := Lib.hid (row_two x4 (-1) 1 27)
    have Hbb := Lib.hid (Hbb.out.trans (hbc.mono Hbb.out.size))
    have HB0 := Lib.hid (HB0.out.below (Nat.le_refl _) hbc)
    have HP := Lib.hid (HP.out.below (Nat.le_refl _) hbc)
    have HV := Lib.hid (HV.out.below (Nat.le_refl _) hbc)
    have Hra := Lib.hid (Hra.out.below (Nat.le_refl _) hbc)
    clear hbc
    have hbc := (Below.refl (x4.alloc (.cells #[.bool (canon (-1)).neg, .string (canon (-1)).mag, .bool (canon 1).neg, .string (canon 1).mag] 27)).heap.size (x4.alloc (.cells #[.bool (canon (-1)).neg, .string (canon (-1)).mag, .bool (canon 1).neg, .string (canon 1).mag] 27))).alloc (Nat.le_refl _) (.cells #[.slice (some ⟨ga1, 0, none⟩) 2 2, .slice (some ⟨x4.heap.size, 0, none⟩) 2 2] 24)
    have Hmc : Hid (MatF ((x4.alloc (.cells #[.bool (canon (-1)).neg, .string (canon (-1)).mag, .bool (canon 1).neg, .string (canon 1).mag] 27)).alloc (.cells #[.slice (some ⟨ga1, 0, none⟩) 2 2, .slice (some ⟨x4.heap.size, 0, none⟩) 2 2] 24)) (some ⟨x4.heap.size + 1, 0, none⟩) 2 2 exC) := Lib.hid (by
      have h := mat_two (c := 2) (d := 2) Hra.out Hrb.out 24
      rw [World.size_alloc] at h
      exact h)
    have Hbb := Lib.hid (Hbb.out.trans (hbc.mono Hbb.out.size))
    have HB0 := Lib.hid (HB0.out.below (Nat.le_refl _) hbc)
    have HP := Lib.hid (HP.out.below (Nat.le_refl _) hbc)
    have HV := Lib.hid (HV.out.below (Nat.le_refl _) hbc)
    clear hbc
    clear Hra Hrb
    go_wp2_with fail
    refine (same_true 2 2 q2 (some ⟨x4.heap.size + 1, 0, none⟩) k2 2 exC (by decide) (by decide) _ HB0.out Hmc.out).mono ?_
    rintro e x6 ⟨rfl, hbc⟩
    dsimp only
    have Hbb := Lib.hid (Hbb.out.trans (hbc.mono Hbb.out.size))
    have HP := Lib.hid (HP.out.below (Nat.le_refl _) hbc)
    have HV := Lib.hid (HV.out.below (Nat.le_refl _) hbc)
    clear hbc
    clear Hmc HB0
    go_wp2_with fail
    refine (HRn.out _).mono ?_
    rintro e x7 ⟨rfl, hbc⟩
    dsimp only
    have Hbb := Lib.hid (Hbb.out.trans (hbc.mono Hbb.out.size))
    have HP := Lib.hid (HP.out.below (Nat.le_refl _) hbc)
    have HV := Lib.hid (HV.out.below (Nat.le_refl _) hbc)
    clear hbc
    go_wp2_with fail
    refine (HRn.out _).mono ?_
    rintro e x8 ⟨rfl, hbc⟩
    dsimp only
    have Hbb := Lib.hid (Hbb.out.trans (hbc.mono Hbb.out.size))
    have HP := Lib.hid (HP.out.below (Nat.le_refl _) hbc)
    have HV := Lib.hid (HV.out.below (Nat.le_refl _) hbc)
    clear hbc
    go_wp2_with fail
    refine (HR1.out _).mono ?_
    rintro e x9 ⟨rfl, hbc⟩
    dsimp only
    have Hbb := Lib.hid (Hbb.out.trans (hbc.mono Hbb.out.size))
    have HP := Lib.hid (HP.out.below (Nat.le_refl _) hbc)
    have HV := Lib.hid (HV.out.below (Nat.le_refl _) hbc)
    clear hbc
    have hbc := (Below.refl x9.heap.size x9).alloc (Nat.le_refl _) (.cells #[.bool (canon (-1)).neg, .string (canon (-1)).mag, .bool (canon (-1)).neg, .string (canon (-1)).mag, .bool (canon 1).neg, .string (canon 1).mag] 27)
    have Hrb := Lib.hid (row_three x9 (-1) (-1) 1 27)
    have Hbb := Lib.hid (Hbb.out.trans (hbc.mono Hbb.out.size))
    have HP := Lib.hid (HP.out.below (Nat.le_refl _) hbc)
    have HV := Lib.hid (HV.out.below (Nat.le_refl _) hbc)
    clear hbc
    go_wp2_with fail
    refine (sameRow_true 3 q3 (some ⟨x9.heap.size, 0, none⟩) k3 3 (fun m => if m = 0 then -1 else if m = 1 then -1 else 1) (by decide) _ HP.out Hrb.out).mono ?_
    rintro e x10 ⟨rfl, hbc⟩
    dsimp only
    have Hbb := Lib.hid (Hbb.out.trans (hbc.mono Hbb.out.size))
    have HV := Lib.hid (HV.out.below (Nat.le_refl _) hbc)
    clear hbc
    clear Hrb HP
    go_wp2_with fail
    refine (HR8.out _).mono ?_
    rintro e x11 ⟨rfl, hbc⟩
    dsimp only
    have Hbb := Lib.hid (Hbb.out.trans (hbc.mono Hbb.out.size))
    have HV := Lib.hid (HV.out.below (Nat.le_refl _) hbc)
    clear hbc
    go_wp2_with fail
    refine (HR5.out _).mono ?_
    rintro e x12 ⟨rfl, hbc⟩
    dsimp only
    have Hbb := Lib.hid (Hbb.out.trans (hbc.mono Hbb.out.size))
    have HV := Lib.hid (HV.out.below (Nat.le_refl _) hbc)
    clear hbc
    have hbc := (Below.refl x12.heap.size x12).alloc (Nat.le_refl _) (.cells #[.bool (canon 8).neg, .string (canon 8).mag, .bool (canon 5).neg, .string (canon 5).mag] 27)
    have Hrb := Lib.hid (row_two x12 8 5 27)
    have Hbb := Lib.hid (Hbb.out.trans (hbc.mono Hbb.out.size))
    have HV := Lib.hid (HV.out.below (Nat.le_refl _) hbc)
    clear hbc
    go_wp2_with fail
    refine (sameRow_true 2 q4 (some ⟨x12.heap.size, 0, none⟩) k4 2 (fun m => if m = 0 then 8 else 5) (by decide) _ HV.out Hrb.out).mono ?_
    rintro e x13 ⟨rfl, hbc⟩
    dsimp only
    have Hbb := Lib.hid (Hbb.out.trans (hbc.mono Hbb.out.size))
    clear hbc
    clear Hrb HV
    go_wp2
    go_ret
    exact ⟨rfl, Hb15.out.trans (Hbb.out.mono Hb15.out.size)⟩
end Go.Proofs.Ytlkoiekdafaapaa
