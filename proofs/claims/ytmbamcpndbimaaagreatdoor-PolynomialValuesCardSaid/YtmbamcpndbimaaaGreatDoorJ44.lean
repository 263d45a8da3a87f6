/- polynomial.At: the walk. -/
import Derived.Test.YtmbamcpndbimaaaGreatDoorJ20
import Derived.Test.YtmbamcpndbimaaaGreatDoorJ40
import Derived.Test.YtmbamcpndbimaaaGreatDoorJ42
import Derived.Test.YtmbamcpndbimaaaGreatDoorJ17
import Derived.Test.YtmbamcpndbimaaaGreatDoorJ8
namespace Go.Proofs.YtmbamcpndbimaaaGreatDoor
open List renaming getElem_toArray → ny1, getElem_cons_zero → ny2, getElem_cons_succ → ny3, setIfInBounds_toArray → ny4, set_cons_zero → ny5, set_cons_succ → ny6
open Go.RowKit Go.Shelf
attribute [local go_sem] Oper.semAt_some wide_fn
theorem heap_setCell_ne (w : World) (g i : Nat) (v : Value) {k : Nat} (hk : k ≠ g) : (w.setCell ⟨g, i, none⟩ v).heap[k]? = w.heap[k]? := by
 simp [World.setCell, Array.getElem?_modify, Ne.symm hk]
theorem BoxAt.of_heap {W : World} {u : Nat} {a b : Value} {t : TypeId} (h : W.heap[u]? = some (.cells #[a, b] t (0, 0))) : BoxAt W u a b := by
 refine ⟨by rw [Lib.cell_of_heap h]; rfl, by rw [Lib.cell_of_heap h]; rfl, ?_, ?_, (Array.getElem?_eq_some_iff.1 h).1⟩
 ·simp [World.frozen?, h]
 ·simp [World.frozen?, h]
def KpS (g : Nat) (X W : World) : Prop := X.heap.size ≤ W.heap.size ∧ ∀ k, k < X.heap.size → k ≠ g → W.heap[k]? = X.heap[k]?
theorem KpS.drw {g : Nat} {X W : World} (h : KpS g X W) : KpS g X W.drew := h
theorem KpS.call {g : Nat} {X W W' : World} (h : KpS g X W) (hb : Below W.heap.size W W') : KpS g X W' :=
 ⟨Nat.le_trans h.1 hb.size, fun k hk hg => (hb.block k (Nat.lt_of_lt_of_le hk h.1)).trans (h.2 k hk hg)⟩
theorem KpS.set {g : Nat} {X W : World} (h : KpS g X W) (i : Nat) (v : Value) : KpS g X (W.setCell ⟨g, i, none⟩ v) :=
 ⟨by simpa using h.1, fun k hk hg => (heap_setCell_ne W g i v hg).trans (h.2 k hk hg)⟩
theorem KpS.kpo {g : Nat} {X W : World} (h : KpS g X W) : KpO g X W := ⟨h.1, fun k o hk _ hb _ => (h.2 k (Array.getElem?_eq_some_iff.1 hk).1 hb).trans hk⟩
theorem KpS.from {g : Nat} {X W : World} (h : KpS g X W) (B : Nat) (hg : g < B) : KeepsFrom B X W := ⟨h.1, fun k o hB hk _ => (h.2 k (Array.getElem?_eq_some_iff.1 hk).1 (by omega)).trans hk⟩
theorem box4_turn {W W' : World} {row : Option Nat} {B g : Nat} {a b c d : Value} (h : Box4 W g a b c d) (hg : W.grownBy W' row) (hr : ∀ r, row = some r → TurnT B (fun _ _ => False) r W) (hB : g < B) : Box4 W' g a b c d :=
 h.of_block hg.size (hg.block g h.2.2.2.2.2 (fun e => by
  rcases hr g e.symm with h1 | ⟨h1, _⟩
  ·exact h1
  ·omega))
theorem horner_step {P Q u v x h : Int} {t : Nat} (hq : Qc P Q) (hv : 0 < v) (he : P * v ^ t = Q * h) :
  rloN (rloN (P * u) (Q * v) * 1 + x * rloD (P * u) (Q * v)) (rloD (P * u) (Q * v) * 1) * v ^ (t + 1) = rloD (rloN (P * u) (Q * v) * 1 + x * rloD (P * u) (Q * v)) (rloD (P * u) (Q * v) * 1) * (x * v ^ (t + 1) + u * h) := by
 have hQ := hq.pos
 have hqv : Q * v ≠ 0 := mul_ne (by omega) (by omega)
 have e1 := rlo_eq (P * u) hqv
 have hq1 := (rlo_qc (P * u) (Q * v)).pos
 generalize rloN (P * u) (Q * v) = p1 at *
 generalize rloD (P * u) (Q * v) = q1 at *
 rw [Int.mul_one, Int.mul_one]
 have e2 := rlo_eq (p1 + x * q1) (show q1 ≠ 0 by omega)
 generalize rloN (p1 + x * q1) q1 = P' at *
 generalize rloD (p1 + x * q1) q1 = Q' at *
 refine Int.eq_of_mul_eq_mul_right (mul_ne (show Q ≠ 0 by omega) (show q1 ≠ 0 by omega)) ?_
 rw [Int.pow_succ]
 calc P' * (v ^ t * v) * (Q * q1) = (P' * q1) * (Q * v) * v ^ t := by grind
  _ = (p1 + x * q1) * Q' * (Q * v) * v ^ t := by rw [← e2]
  _ = Q' * v ^ t * (p1 * (Q * v) + x * q1 * (Q * v)) := by grind
  _ = Q' * v ^ t * (P * u * q1 + x * q1 * (Q * v)) := by rw [e1]
  _ = Q' * q1 * (u * (P * v ^ t) + x * Q * (v ^ t * v)) := by grind
  _ = Q' * (x * (v ^ t * v) + u * h) * (Q * q1) := by rw [he]; grind
def IAt (w : World) (B1 gs gr m : Nat) (F : Nat → Int) (u v : Int) (ra rb : ZI) (pre : List (Nat × Int)) (W : World) : Prop :=
 ∃ k P Q, k ≤ m ∧ pre = desL F m k ∧ Qc P Q ∧ P * v ^ (m - k) = Q * hsN F m u v (m - k) ∧ Box4 W gs (.bool (canon P).neg) (.string (canon P).mag) (.bool (canon Q).neg) (.string (canon Q).mag) ∧ Box4 W gr (.bool ra.neg) (.string ra.mag) (.bool rb.neg) (.string rb.mag) ∧ Box4 W (w.heap.size + 1) (.bool false) (.string ⟨#[]⟩) (.bool false) (.string ⟨#[]⟩) ∧ Below w.heap.size w W ∧ B1 ≤ W.heap.size
theorem IAt.abides {w : World} {B1 gs gr m : Nat} {F : Nat → Int} {u v : Int} {ra rb : ZI} (hB : w.heap.size + 1 < B1) (hs : gs < B1) (hr0 : gr < B1) : AbT (TurnT B1 (fun _ _ => False)) (IAt w B1 gs gr m F u v ra rb) := by
 rintro pre W W' row ⟨k, P, Q, hk, hp, hq, he, h1, h2, h3, hb, hsz⟩ hg hr
 refine ⟨k, P, Q, hk, hp, hq, he, box4_turn h1 hg hr hs, box4_turn h2 hg hr hr0, box4_turn h3 hg hr hB, hb.grown hg (by omega) (fun r e => ?_), Nat.le_trans hsz hg.size⟩
 rcases hr r e with h | h
 ·exact h.elim
 ·omega
def RetAt (f : Nat → Int) (m : Nat) (u v : Int) (w : World) (e : Ending) (w' : World) : Prop := ∃ P Q, e = .returned (.tuple #[ratV P Q, .int .i64 0]) ∧ Qc P Q ∧ P * v ^ m = Q * hsN f m u v m ∧ Below w.heap.size w w'
set_option maxRecDepth 100000 in
set_option maxHeartbeats 8000000 in
theorem at_any (n : Nat) (Z : Nat → ZI) (p : Option Addr) (c : Nat) (ra rb : ZI) {B e : Nat} (hn : n ≤ 1000) (hz : ∀ k, k < n → (Z k).mag.size ≤ 100000000) (f : Nat → Int) (hfe : (fun k => valZ (Z k)) = f) (hf : ∀ k, Bn (f k) B) (hB : B ≤ 1000000) (m : Nat) (hm : dgN f n = m) (hm65 : m ≤ 65)
  (sa : ra.mag.size ≤ 100000000) (sb : rb.mag.size ≤ 100000000) (ha : Bn (valZ ra) e) (hb : Bn (valZ rb) e) (he : e ≤ 10000) (u v : Int) (hu : rloN (valZ ra) (valZ rb) = u) (hv : rloD (valZ ra) (valZ rb) = v) (w : World) (hX : GRow w p n Z) :
  Calls Tryz.prog 7 #[.slice p n c, .agg #[.bool ra.neg, .string ra.mag, .bool rb.neg, .string rb.mag]] w (RetAt f m u v w) := by
 have hv0 : 0 < v := by rw [← hv]; exact (rlo_qc _ _).pos
 have hub : Bn u e := by rw [← hu]; exact rloN_bn ha _
 have hvb : Bn v e := by rw [← hv]; exact rloD_bn hb _
 have hmn : m ≤ n := by rw [← hm]; exact dgN_le f n
 -- sizes of the sums
 have hE : ∀ t P Q, t ≤ 65 → Qc P Q → P * v ^ t = Q * hsN f m u v t → Bn P (B + (e + 1) * 66) ∧ Bn Q (B + (e + 1) * 66) := by
  intro t P Q ht hq hpq
  obtain ⟨b1, b2⟩ := hq.bounds (Int.pow_pos hv0) hpq
  have h1 : (e + 1) * t ≤ (e + 1) * 66 := Nat.mul_le_mul_left _ (by omega)
  have h2 : Bn (v ^ t) (e * t) := by
   have key : ∀ n : Nat, Bn (v ^ n) (e * n) := fun n => by
    induction n with
    | zero => rw [Int.pow_zero]; exact Bn.one _
    | succ n ih => rw [Int.pow_succ, Nat.mul_add, Nat.mul_one]; exact ih.mul hvb
   exact key t
  have h3 : e * t ≤ (e + 1) * t := Nat.mul_le_mul_right _ (by omega)
  exact ⟨Nat.le_trans b1 ((hsN_bn (N := m) hf hub hvb t).up (by omega)), Nat.le_trans b2 (h2.up (by omega))⟩
 have hEe : B + (e + 1) * 66 ≤ 2000000 := by
  have : (e + 1) * 66 ≤ 10001 * 66 := Nat.mul_le_mul_right _ (by omega)
  omega
 have heE : e ≤ B + (e + 1) * 66 := by
  have : (e + 1) * 1 ≤ (e + 1) * 66 := Nat.mul_le_mul_left _ (by decide)
  omega
 obtain ⟨E, hEE⟩ : ∃ E, B + (e + 1) * 66 = E := ⟨_, rfl⟩
 rw [hEE] at hE hEe heE
 have hBE : B ≤ E := by omega
 have HMu := lhd (fun P Q (h1 : Bn P E) (h2 : Bn Q E) (hq : Qc P Q) W => rMul_any (canon P) (canon Q) ra rb (e := E) (by omega) (h1.size _ (by omega)) (h2.size _ (by omega)) sa sb (by rw [valZ_canon]; exact h1) (by rw [valZ_canon]; exact h2) (ha.up heE) (hb.up heE) P Q u v (by rw [valZ_canon, valZ_canon]; exact (rlo_self hq).1) (by rw [valZ_canon, valZ_canon]; exact (rlo_self hq).2) hu hv W)
 have HAd := lhd (fun p1 q1 x (h1 : Bn p1 (E + E)) (h2 : Bn q1 (E + E)) (h3 : Bn x (E + E)) (hq : Qc p1 q1) W => rAdd_any (canon p1) (canon q1) (canon x) (canon 1) (e := E + E) (by omega) (h1.size _ (by omega)) (h2.size _ (by omega)) (h3.size _ (by omega)) ((Bn.one 0).size _ (by decide)) (by rw [valZ_canon]; exact h1) (by rw [valZ_canon]; exact h2) (by rw [valZ_canon]; exact h3) (by rw [valZ_canon]; exact Bn.one _) p1 q1 x 1 (by rw [valZ_canon, valZ_canon]; exact (rlo_self hq).1) (by rw [valZ_canon, valZ_canon]; exact (rlo_self hq).2) (by rw [valZ_canon, valZ_canon]; exact (rlo_one x).1) (by rw [valZ_canon, valZ_canon]; exact (rlo_one x).2) W)
 have hof := fun x (h1 : Bn x E) W => ofR (canon x) (h1.size _ (by omega)) W
 have HOf : Hid (∀ x, Bn x E → ∀ W, Calls Tryz.prog 20 #[.agg #[.bool (canon x).neg, .string (canon x).mag]] W (RetR x 1 W)) := lhd (fun x h1 W => by
  have h2 := hof x h1 W
  rw [valZ_canon, (rlo_one x).1, (rlo_one x).2] at h2
  exact h2)
 have HE := lhd hE
 have Hf : Hid (∀ k, Bn (f k) E) := lhd (fun k => (hf k).up hBE)
 have Huv : Hid (0 < v ∧ Bn u E ∧ Bn v E) := lhd ⟨hv0, hub.up heE, hvb.up heE⟩
 have HLg := lhd (fun q c W => large_any m q c (by omega) false (decide_eq_false (by omega)) W)
 clear hof hE hf hub hvb hu hv ha hb sa sb hBE heE hEE hB he
 refine calls_marks Tryz.func7 rfl ?_
 simp only [Tryz.ntmps7, List.size_toArray, List.length_cons, List.length_nil, Nat.reduceAdd, Nat.reduceSub, Array.replicate_succ, Array.replicate_zero, List.push_toArray, List.append_toArray, List.nil_append, List.cons_append]
 go_upto_region 1 with (fail)
 obtain ⟨Y, hY, hR0, hC0, hb0⟩ := two_box4 w (.bool ra.neg) (.string ra.mag) (.bool rb.neg) (.string rb.mag) 26 26
 rw [hY]
 have hX0 : GRow Y p n Z := hX.mono (Nat.le_refl _) hb0
 have HR0 := lhd hR0
 have HC0 := lhd hC0
 have Hb0 := lhd hb0
 have HX0 := lhd hX0
 clear hY hR0 hC0 hb0 hX0 hX
 have hca := Canonical_own n Z p c (by omega) hz Y HX0.out
 rw [hfe, hm] at hca
 go_wp2_with fail
 refine hca.mono ?_
 rintro e1 w1 ⟨q, cq, rfl, hR1, hb1, hty⟩
 dsimp only
 have HR1 := lhd (HR0.out.below hb1 HR0.out.2.2.2.2.2)
 have HC1 := lhd (HC0.out.below hb1 HC0.out.2.2.2.2.2)
 have Hb1 := lhd (Hb0.out.trans (hb1.mono Hb0.out.size))
 have Hrow1 := lhd hR1
 have Hty1 := lhd hty
 clear hca hb1 HR0 HC0 Hb0 HX0 hR1 hty hz hfe hm
 go_wp2_with fail
 refine (HLg.out _ _ _).mono ?_
 rintro e2 w2 ⟨rfl, rfl⟩
 dsimp only
 go_wp2_with fail
 have hz0 : (.agg #[.bool (canon 0).neg, .string (canon 0).mag] : Value) = .agg #[.bool false, .string ⟨#[]⟩] := by rfl
 have ho0 := HOf.out 0 (Bn.zero _) w2
 rw [hz0] at ho0
 refine ho0.mono ?_
 rintro e3 w3 ⟨rfl, hb3⟩
 unfold ratV
 dsimp only
 have HR3 := lhd (HR1.out.below hb3 HR1.out.2.2.2.2.2)
 have HC3 := lhd (HC1.out.below hb3 HC1.out.2.2.2.2.2)
 have Hrow3 := lhd (Hrow1.out.below (Nat.le_refl _) hb3)
 have Hty3 : Hid (∀ b, q = some b → ∃ cur, w3.heap[b.block]? = some (.cells cur 24 (0, 0))) := lhd (fun b e => by
  obtain ⟨cur, h⟩ := Hty1.out b e
  exact ⟨cur, (hb3.block _ (Array.getElem?_eq_some_iff.1 h).1).trans h⟩)
 have Hb3 := lhd (Hb1.out.trans (hb3.mono Hb1.out.size))
 clear hb3 ho0 hz0 HR1 HC1 Hrow1 Hty1 Hb1
 obtain ⟨C0, hC0⟩ : ∃ z, canon (0 : Int) = z := ⟨_, rfl⟩
 obtain ⟨C1, hC1⟩ : ∃ z, canon (1 : Int) = z := ⟨_, rfl⟩
 rw [hC0, hC1]
 have HC01 := lhd (And.intro hC0 hC1)
 clear hC0 hC1
 go_upto_region 5 with (fail)
 have hbx := Box4.new w3 (.bool C0.neg) (.string C0.mag) (.bool C1.neg) (.string C1.mag) 26
 have hal := (Below.refl w3.heap.size w3).alloc (Nat.le_refl _) (.cells #[.bool C0.neg, .string C0.mag, .bool C1.neg, .string C1.mag] 26)
 have HR4 := lhd (HR3.out.below hal HR3.out.2.2.2.2.2)
 have HC4 := lhd (HC3.out.below hal HC3.out.2.2.2.2.2)
 have Hrow4 := lhd (Hrow3.out.below (Nat.le_refl _) hal)
 have Hty4 : Hid (∀ b, q = some b → ∃ cur, (w3.alloc (.cells #[.bool C0.neg, .string C0.mag, .bool C1.neg, .string C1.mag] 26)).heap[b.block]? = some (.cells cur 24 (0, 0)) ∧ b.block < w3.heap.size) := lhd (fun b e => by
  obtain ⟨cur, h⟩ := Hty3.out b e
  exact ⟨cur, (hal.block _ (Array.getElem?_eq_some_iff.1 h).1).trans h, (Array.getElem?_eq_some_iff.1 h).1⟩)
 have Hb4 := lhd (Hb3.out.trans (hal.mono Hb3.out.size))
 have hs4 : (w3.alloc (.cells #[.bool C0.neg, .string C0.mag, .bool C1.neg, .string C1.mag] 26)).heap.size = w3.heap.size + 1 := by simp
 have hg3 : w.heap.size + 1 < w3.heap.size := HC3.out.2.2.2.2.2
 obtain ⟨gs, hgs⟩ : ∃ k, w3.heap.size = k := ⟨_, rfl⟩
 rw [hgs] at hbx hs4 Hty4 hg3 ⊢
 have HS4 := lhd hbx
 clear hal hbx hgs HR3 HC3 Hrow3 Hty3 Hb3
 generalize w3.alloc (.cells #[.bool C0.neg, .string C0.mag, .bool C1.neg, .string C1.mag] 26) = w4 at *
 obtain ⟨hC0, hC1⟩ := HC01.out
 rw [← hC0, ← hC1] at HS4
 clear hC0 hC1
 go_wp2_with fail
 refine (descending_any q m cq w4).mono ?_
 rintro e2 w5 ⟨rfl, hw5⟩
 dsimp only
 have hs5 : w5.heap.size = w4.heap.size + 1 := by rw [hw5]; simp
 have hb5 : Below w4.heap.size w4 w5 := by rw [hw5]; exact (Below.refl _ _).alloc (Nat.le_refl _) _
 have hbm : Boxed w5 w4.heap.size 22 (.slice q m cq) := by rw [hw5]; exact Boxed.new w4 22 (.slice q m cq)
 have hR5 : RowF w5 q m f := Hrow4.out.below (Nat.le_refl _) hb5
 have hS5 := HS4.out.below hb5 HS4.out.2.2.2.2.2
 have hr5 := HR4.out.below hb5 HR4.out.2.2.2.2.2
 have hc5 := HC4.out.below hb5 HC4.out.2.2.2.2.2
 have hwb := Hb4.out.trans (hb5.mono Hb4.out.size)
 have hty5 : ∀ b, q = some b → ∃ cur, w5.heap[b.block]? = some (.cells cur 24 (0, 0)) := fun b e => by
  obtain ⟨cur, h, _⟩ := Hty4.out b e
  exact ⟨cur, (hb5.block _ (Array.getElem?_eq_some_iff.1 h).1).trans h⟩
 have hqb : ∀ b, q = some b → b.block ≠ gs := fun b e => by
  obtain ⟨cur, h, hl⟩ := Hty4.out b e
  omega
 obtain ⟨Bm, hBm⟩ : ∃ b, w4.heap.size = b := ⟨_, rfl⟩
 rw [hBm] at hbm hs5 ⊢
 have hgsB : gs < w5.heap.size := by omega
 have hgm : Bm ≠ gs := by omega
 have hgr : w.heap.size < w5.heap.size := by omega
 have hgw : w.heap.size + 1 < w5.heap.size := by omega
 have hgsw : w.heap.size + 1 < gs := by omega
 clear hw5 hb5 Hrow4 Hty4 HS4 HR4 HC4 Hb4 hBm HC01 HLg hmn hs4 hg3
 go_wp2_with fail
 refine rangeW2 (gf := 45) (lb := #[.pointer (some ⟨Bm, 0, none⟩)]) rfl (enters_of Tryz.func45 (by kernel_rfl) rfl)
  (encs := encD) (G := GDes f m) (S := fun xs => xs = desL f m 0) (T := fun _ _ => False) (Kp := KpO gs)
  (Pre := KKp q m cq f Bm gs)
  (fun l J Jx X hX hJ _ hY h0 => des1_in l Bm m q cq f J Jx (KpO gs) (KKp q m cq f Bm gs) (fun W h => ⟨h.1, h.2.1⟩) (fun A B h k => h.next k) hY X hX (by omega) h0)
  (by rintro r X h; exact h.elim) (fun h k => h.trans k) (fun X l o o' _ ho hc => KpO.put ho hc)
  (fun X hX => ⟨hR5.below (Nat.le_refl _) hX, (hX.block _ hbm.lt).trans hbm, hgm, hqb, fun b e => by
   obtain ⟨cur, h⟩ := hty5 b e
   exact ⟨cur, (hX.block _ (Array.getElem?_eq_some_iff.1 h).1).trans h⟩⟩) (fun _ => rfl)
  (IAt w w5.heap.size gs w.heap.size m f u v ra rb) (fun _ _ _ => False) (IAt.abides hgw hgsB hgr) (fun _ _ _ _ _ h => h.elim)
  ⟨m, 0, 1, Nat.le_refl _, (desL_top f m).symm, ⟨by decide, by decide⟩, by rw [Nat.sub_self]; simp [hsN], hS5, hr5, hc5, hwb, Nat.le_refl _⟩
  (fun z W => IAt w w5.heap.size gs w.heap.size m f u v ra rb z.1 W ∧ GDes f m z.1 z.2.1 W ∧ ∃ t, w5.heap.size ≤ t ∧ ZBox W t z.2.1.2 ∧ z.2.2 = { tmps := #[.slice q m cq, .agg #[.bool ra.neg, .string ra.mag, .bool rb.neg, .string rb.mag], undef, .pointer (some ⟨w.heap.size, 0, none⟩), .pointer (some ⟨w.heap.size + 1, 0, none⟩), .int .i64 0, .pointer (some ⟨gs, 0, none⟩), undef, .pointer (some ⟨t, 0, none⟩), .slice p n c, .slice q m cq, .slice q m cq, .bool false, undef, .agg #[.bool false, .string ⟨#[]⟩], .agg #[.bool C0.neg, .string C0.mag, .bool C1.neg, .string C1.mag], .slice q m cq, .func (.func 45) #[] #[.pointer (some ⟨Bm, 0, none⟩)], .int .i64 (z.2.1.1 : Int), .agg #[.bool (canon z.2.1.2).neg, .string (canon z.2.1.2).mag], undef, undef, undef, undef, undef, undef, undef], defers := [] })
  ?hM ?assign ?body ?done ?stop
 case hM =>
  rintro ⟨pre, z, a⟩ W W' row ⟨h1, h2, t, h3, h4, h5⟩ hg hr
  exact ⟨IAt.abides hgw hgsB hgr _ _ _ _ h1 hg hr, h2, t, h3, heap_turn h4 rfl hg hr, h5⟩
 case assign =>
  rintro l pre ⟨k, x⟩ X K hI hz hK
  dsimp only [encD] at hK ⊢
  obtain ⟨Z, hZ⟩ : ∃ Z, canon x = Z := ⟨_, rfl⟩
  rw [hZ]
  have HK := lhd hK
  clear hK
  gi_wp2
  have hs : w5.heap.size ≤ X.heap.size := by obtain ⟨_, _, _, _, _, _, _, _, _, _, _, h⟩ := hI; exact h
  refine HK.out _ _ ⟨(IAt.abides hgw hgsB hgr).alloc _ hI, hz, X.heap.size, hs, by unfold ZBox; rw [hZ]; exact World.alloc_heap_new X _, by rw [hZ]⟩ ((KeepsOthers.alloc _ _).from _) ⟨by simp, fun k o hk _ _ _ => (World.grownBy_alloc X _ none).block k (Array.getElem?_eq_some_iff.1 hk).1 (by simp) |>.trans hk⟩
 case body =>
  rintro l pre ⟨kk, x⟩ a X ⟨⟨k', P, Q, hk', hp, hq, hpq, hS, hr, hc, hb, hs⟩, ⟨k, hk, hp2, hx⟩, t, ht, hbu, hae⟩
  dsimp only at hp hp2 hae hbu hx
  obtain ⟨hx1, hx2⟩ := Prod.mk.inj hx
  subst hx1
  subst hae
  have hkk : k' = kk + 1 := desL_inj hk' (by omega) (hp.symm.trans hp2)
  subst hkk
  obtain ⟨tt, htt⟩ : ∃ tt, m - (kk + 1) = tt := ⟨_, rfl⟩
  rw [htt] at hpq
  obtain ⟨hv0, hub, hvb⟩ := Huv.out
  obtain ⟨bP, bQ⟩ := HE.out tt P Q (by omega) hq hpq
  have bx : Bn x E := by rw [hx2]; exact Hf.out kk
  have hmu := fun W => HMu.out P Q bP bQ hq W
  have hq1 := rlo_qc (P * u) (Q * v)
  have bp1 : Bn (rloN (P * u) (Q * v)) (E + E) := rloN_bn (bP.mul hub) _
  have bq1 : Bn (rloD (P * u) (Q * v)) (E + E) := rloD_bn (bQ.mul hvb) _
  have had := fun W => HAd.out _ _ x bp1 bq1 (bx.up (by omega)) hq1 W
  have hoo := fun W => HOf.out x bx W
  have hstep := horner_step (u := u) (x := x) hq hv0 hpq
  have hqn := rlo_qc (rloN (P * u) (Q * v) * 1 + x * rloD (P * u) (Q * v)) (rloD (P * u) (Q * v) * 1)
  generalize rloN (rloN (P * u) (Q * v) * 1 + x * rloD (P * u) (Q * v)) (rloD (P * u) (Q * v) * 1) = P2 at *
  generalize rloD (rloN (P * u) (Q * v) * 1 + x * rloD (P * u) (Q * v)) (rloD (P * u) (Q * v) * 1) = Q2 at *
  generalize rloN (P * u) (Q * v) = p1 at *
  generalize rloD (P * u) (Q * v) = q1 at *
  unfold RetR ratV at hmu had hoo
  have hsz : w5.heap.size ≤ X.heap.size := hs
  have hts : t ≠ gs := by omega
  have Hend : Hid (∀ X2, KpS gs X X2 → Box4 X2 gs (.bool (canon P2).neg) (.string (canon P2).mag) (.bool (canon Q2).neg) (.string (canon Q2).mag) → Below w.heap.size w X2 → postT w5.heap.size (KpO gs) (IAt w w5.heap.size gs w.heap.size m f u v ra rb) (fun _ _ _ => False) (pre ++ [(kk, x)]) X .normal { tmps := #[], defers := [] } X2) := lhd (fun X2 hk2 hb2 hbl => by
   refine ⟨hk2.from _ hgsB, hk2.kpo, kk, P2, Q2, by omega, ?_, hqn, ?_, hb2, ?_, ?_, hbl, Nat.le_trans hs hk2.1⟩
   ·rw [hp2, hx2]; exact (desL_succ f hk).symm
   ·rw [show m - kk = tt + 1 from by omega, hsN, show m - 1 - tt = kk from by omega, ← hx2]
    exact hstep
   ·exact hr.of_block hk2.1 (hk2.2 _ hr.2.2.2.2.2 (by omega))
   ·exact hc.of_block hk2.1 (hk2.2 _ hc.2.2.2.2.2 (by omega)))
  have HM := lhd hmu
  have HA := lhd had
  have HO := lhd hoo
  have FM := lhd hS
  have FR := lhd hr
  have FX := lhd (BoxAt.of_heap hbu)
  have FZ := lhd hb
  have FK : Hid (KpS gs X X) := lhd ⟨Nat.le_refl _, fun _ _ _ => rfl⟩
  obtain ⟨gr, hgre⟩ : ∃ k, w.heap.size = k := ⟨_, rfl⟩
  rw [hgre] at FR
  have lew : w.heap.size ≤ gs := by omega
  have sr : gs ≠ gr := by omega
  have sx : gs ≠ t := fun h => hts h.symm
  have Hgre := lhd hgre
  try rw [hgre]
  clear hgre
  generalize canon P = CP at *
  generalize canon Q = CQ at *
  generalize canon x = CX at *
  generalize canon (1 : Int) = C1 at *
  generalize canon p1 = D1 at *
  generalize canon q1 = D2 at *
  generalize canon P2 = CP2 at *
  generalize canon Q2 = CQ2 at *
  clear hmu had hoo hS hr hc hb hbu hp hp2 hpq hq hstep hqn hq1 bp1 bq1 bP bQ bx hub hvb hv0 hx hx2
  gi_wp2
  refine region_lift (by kernel_rfl) (by kernel_rfl) (by rintro ⟨_, _, h⟩; exact h) ?_
  obtain ⟨SS, hSe⟩ : ∃ SS : World → Prop, SS = fun W => Box4 W gr (.bool ra.neg) (.string ra.mag) (.bool rb.neg) (.string rb.mag) ∧ BoxAt W t (.bool CX.neg) (.string CX.mag) := ⟨_, rfl⟩
  have hSm : Hid (∀ W, (Box4 W gr (.bool ra.neg) (.string ra.mag) (.bool rb.neg) (.string rb.mag) ∧ BoxAt W t (.bool CX.neg) (.string CX.mag)) → SS W) := lhd (fun W hW => by rw [hSe]; exact hW)
  refine wpAny_of_held (S := SS) _ _ _ _ ?_
  have M_q1 := lhd (Box4.drw FM.out)
  have R_q1 := lhd (Box4.drw FR.out)
  have X_q1 := lhd (BoxAt.drw FX.out)
  have Z_q1 := lhd (FZ.out.drew)
  have K_q1 := lhd (FK.out.drw)
  refine wpAnyH_take (i := 1) (v := ?_) rfl (by kernel_rfl) (by kernel_rfl) (by kernel_rfl) (fun _ _ _ h => h) (Or.inl ⟨by rfl, ?_⟩) (hSm.out _ ⟨R_q1.out, X_q1.out⟩) ?_
  rotate_left 1
  next => intro w hSw; rw [hSe] at hSw; obtain ⟨⟨u00, u01, u02, u03, _, _⟩, ⟨u10, u11, _, _, _⟩⟩ := hSw; go_simp; try with_reducible rfl
  try simp only [Act.put, ny1, ny2, ny3, ny4, ny5, ny6]
  refine wpAnyH_take (i := 3) (v := ?_) rfl (by kernel_rfl) (by kernel_rfl) (by kernel_rfl) (fun _ _ _ h => h) (Or.inl ⟨by rfl, ?_⟩) (hSm.out _ ⟨R_q1.out, X_q1.out⟩) ?_
  rotate_left 1
  next => intro w hSw; rw [hSe] at hSw; obtain ⟨⟨u00, u01, u02, u03, _, _⟩, ⟨u10, u11, _, _, _⟩⟩ := hSw; go_simp; try with_reducible rfl
  try simp only [Act.put, ny1, ny2, ny3, ny4, ny5, ny6]
  refine wpAnyH_ready (rs := [0]) (by kernel_rfl) (by simp) ?_
  refine AllReadyH.cons rfl (fun K hK => ?_) AllReadyH.nil
  obtain ⟨z0, z1, z2, z3, _, _⟩ := M_q1.out
  go_simp
  refine hK.out _ _ (hSm.out _ ⟨R_q1.out, X_q1.out⟩) (fun _ => ?_)
  clear hK K z0 z1 z2 z3
  try simp only [Act.put, ny1, ny2, ny3, ny4, ny5, ny6]
  refine wpAnyH_ready (rs := [2]) (by kernel_rfl) (by simp) ?_
  refine AllReadyH.cons rfl (fun K hK => ?_) AllReadyH.nil
  go_simp
  refine (HM.out _).mono ?_
  rintro e wq2 ⟨rfl, hbc⟩
  have M_q2 := lhd (M_q1.out.below hbc M_q1.out.2.2.2.2.2)
  have R_q2 := lhd (R_q1.out.below hbc R_q1.out.2.2.2.2.2)
  have X_q2 := lhd (X_q1.out.below hbc X_q1.out.2.2.2.2)
  have Z_q2 := lhd (Z_q1.out.trans (hbc.mono Z_q1.out.size))
  have K_q2 := lhd (K_q1.out.call hbc)
  dsimp only
  refine hK.out _ _ (hSm.out _ ⟨R_q2.out, X_q2.out⟩) (fun _ => ?_)
  clear hK K hbc
  try simp only [Act.put, ny1, ny2, ny3, ny4, ny5, ny6]
  refine wpAnyH_ready (rs := [4]) (by kernel_rfl) (by simp) ?_
  refine AllReadyH.cons rfl (fun K hK => ?_) AllReadyH.nil
  go_simp
  refine (HO.out _).mono ?_
  rintro e wq3 ⟨rfl, hbc⟩
  have M_q3 := lhd (M_q2.out.below hbc M_q2.out.2.2.2.2.2)
  have R_q3 := lhd (R_q2.out.below hbc R_q2.out.2.2.2.2.2)
  have X_q3 := lhd (X_q2.out.below hbc X_q2.out.2.2.2.2)
  have Z_q3 := lhd (Z_q2.out.trans (hbc.mono Z_q2.out.size))
  have K_q3 := lhd (K_q2.out.call hbc)
  dsimp only
  refine hK.out _ _ (hSm.out _ ⟨R_q3.out, X_q3.out⟩) (fun _ => ?_)
  clear hK K hbc
  try simp only [Act.put, ny1, ny2, ny3, ny4, ny5, ny6]
  refine wpAnyH_ready (rs := [5]) (by kernel_rfl) (by simp) ?_
  refine AllReadyH.cons rfl (fun K hK => ?_) AllReadyH.nil
  go_simp
  refine (HA.out _).mono ?_
  rintro e wq4 ⟨rfl, hbc⟩
  have M_q4 := lhd (M_q3.out.below hbc M_q3.out.2.2.2.2.2)
  have R_q4 := lhd (R_q3.out.below hbc R_q3.out.2.2.2.2.2)
  have X_q4 := lhd (X_q3.out.below hbc X_q3.out.2.2.2.2)
  have Z_q4 := lhd (Z_q3.out.trans (hbc.mono Z_q3.out.size))
  have K_q4 := lhd (K_q3.out.call hbc)
  dsimp only
  refine hK.out _ _ (hSm.out _ ⟨R_q4.out, X_q4.out⟩) (fun _ => ?_)
  clear hK K hbc
  try simp only [Act.put, ny1, ny2, ny3, ny4, ny5, ny6]
  refine wpAnyH_ready (rs := [6]) (by kernel_rfl) (by simp) ?_
  refine AllReadyH.cons rfl (fun K hK => ?_) AllReadyH.nil
  obtain ⟨z0, z1, z2, z3, zf, _⟩ := M_q4.out
  have zf0 := zf 0
  have zf1 := zf 1
  have zf2 := zf 2
  have zf3 := zf 3
  have M_q5 := lhd (M_q4.out.set4 (.bool CP2.neg) (.string CP2.mag) (.bool CQ2.neg) (.string CQ2.mag))
  have R_q5 := lhd (((((R_q4.out).far ⟨gs, 0, none⟩ (.bool CP2.neg) sr).far ⟨gs, 1, none⟩ (.string CP2.mag) sr).far ⟨gs, 2, none⟩ (.bool CQ2.neg) sr).far ⟨gs, 3, none⟩ (.string CQ2.mag) sr)
  have X_q5 := lhd (((((X_q4.out).far ⟨gs, 0, none⟩ (.bool CP2.neg) sx).far ⟨gs, 1, none⟩ (.string CP2.mag) sx).far ⟨gs, 2, none⟩ (.bool CQ2.neg) sx).far ⟨gs, 3, none⟩ (.string CQ2.mag) sx)
  have Z_q5 := lhd (((((Z_q4.out).setCell (p := ⟨gs, 0, none⟩) lew (.bool CP2.neg)).setCell (p := ⟨gs, 1, none⟩) lew (.string CP2.mag)).setCell (p := ⟨gs, 2, none⟩) lew (.bool CQ2.neg)).setCell (p := ⟨gs, 3, none⟩) lew (.string CQ2.mag))
  have K_q5 := lhd (((((K_q4.out).set 0 (.bool CP2.neg)).set 1 (.string CP2.mag)).set 2 (.bool CQ2.neg)).set 3 (.string CQ2.mag))
  go_simp
  refine hK.out _ _ (hSm.out _ ⟨R_q5.out, X_q5.out⟩) (fun _ => ?_)
  clear hK K z0 z1 z2 z3 zf zf0 zf1 zf2 zf3
  refine wpAnyH_done (by kernel_rfl) ?_ _
  gi_wp2
  have hE2 := Hend.out _ K_q5.out M_q5.out Z_q5.out
  rw [Hgre.out] at hE2
  exact hE2
 case done =>
  rintro D xs X hD hS ⟨k, P, Q, hk, hp, hq, hpq, hs', hr', hc', hbX, hsz⟩ hK
  have hk0 : k = 0 := desL_inj hk (Nat.zero_le _) (hp.symm.trans hS)
  subst hk0
  rw [Nat.sub_zero] at hpq
  have Hpq := lhd (And.intro hq hpq)
  have HK := lhd hK
  have HB := lhd hbX
  have HSx := lhd hs'
  have HCx := lhd hc'
  obtain ⟨CP, hCP⟩ : ∃ z, canon P = z := ⟨_, rfl⟩
  obtain ⟨CQ, hCQ⟩ : ∃ z, canon Q = z := ⟨_, rfl⟩
  rw [hCP, hCQ] at HSx
  have HCC := lhd (And.intro hCP hCQ)
  clear hK hS hp hbm hty5 hwb hR5 hqb hq hpq hs' hr' hc' hbX hS5 hr5 hc5 hCP hCQ
  obtain ⟨gc, hgc⟩ : ∃ k, w.heap.size + 1 = k := ⟨_, rfl⟩
  have lew : w.heap.size ≤ gc := by omega
  have nsc : ¬ gs = gc := by omega
  have hgcw : gc < w5.heap.size := by omega
  have ncs : ¬ gc = gs := by omega
  rw [hgc] at HCx
  try rw [hgc]
  clear hgc
  obtain ⟨s0, s1, s2, s3, _, _⟩ := HSx.out
  obtain ⟨c0, c1, c2, c3, c4, _⟩ := HCx.out
  have f0 := c4 0
  have f1 := c4 1
  have f2 := c4 2
  have f3 := c4 3
  have hgcX : gc < X.heap.size := HCx.out.2.2.2.2.2
  have nD : ¬ gc = D := by omega
  clear c4
  go_wp2_with fail
  have HK2 : Hid (((((X.setCell ⟨gc, 0, none⟩ (.bool CP.neg)).setCell ⟨gc, 1, none⟩ (.string CP.mag)).setCell ⟨gc, 2, none⟩ (.bool CQ.neg)).setCell ⟨gc, 3, none⟩ (.string CQ.mag)).heap[D]? = some (.deferred (some []))) := lhd (by
   rw [heap_setCell_ne _ _ _ _ (fun h => nD h.symm), heap_setCell_ne _ _ _ _ (fun h => nD h.symm), heap_setCell_ne _ _ _ _ (fun h => nD h.symm), heap_setCell_ne _ _ _ _ (fun h => nD h.symm)]
   exact HK.out)
  have HB2 := lhd ((((HB.out.setCell (p := ⟨gc, 0, none⟩) lew (.bool CP.neg)).setCell (p := ⟨gc, 1, none⟩) lew (.string CP.mag)).setCell (p := ⟨gc, 2, none⟩) lew (.bool CQ.neg)).setCell (p := ⟨gc, 3, none⟩) lew (.string CQ.mag))
  refine ⟨by simp, .inl ⟨_, _, rfl, run_takeDeferred HK2.out, ?_⟩⟩
  refine ⟨.tuple #[.agg #[.bool CP.neg, .string CP.mag, .bool CQ.neg, .string CQ.mag], .int .i64 0], ?_, ⟨P, Q, ?_, Hpq.out.1, Hpq.out.2, ?_⟩⟩
  ·have hB4 := HCx.out.set4 (.bool CP.neg) (.string CP.mag) (.bool CQ.neg) (.string CQ.mag)
   have hput : ∀ i, (((((X.setCell ⟨gc, 0, none⟩ (.bool CP.neg)).setCell ⟨gc, 1, none⟩ (.string CP.mag)).setCell ⟨gc, 2, none⟩ (.bool CQ.neg)).setCell ⟨gc, 3, none⟩ (.string CQ.mag)).putObj D (.deferred none)).cell? ⟨gc, i, none⟩ = ((((X.setCell ⟨gc, 0, none⟩ (.bool CP.neg)).setCell ⟨gc, 1, none⟩ (.string CP.mag)).setCell ⟨gc, 2, none⟩ (.bool CQ.neg)).setCell ⟨gc, 3, none⟩ (.string CQ.mag)).cell? ⟨gc, i, none⟩ := fun i => cell_of_block (World.putObj_heap_other nD) _
   have k0 := (hput 0).trans hB4.1
   have k1 := (hput 1).trans hB4.2.1
   have k2 := (hput 2).trans hB4.2.2.1
   have k3 := (hput 3).trans hB4.2.2.2.1
   generalize ((((X.setCell ⟨gc, 0, none⟩ (.bool CP.neg)).setCell ⟨gc, 1, none⟩ (.string CP.mag)).setCell ⟨gc, 2, none⟩ (.bool CQ.neg)).setCell ⟨gc, 3, none⟩ (.string CQ.mag)).putObj D (.deferred none) = WE at *
   simp [results, Tryz.results7, go_sem, k0, k1, k2, k3]
  ·unfold ratV; rw [HCC.out.1, HCC.out.2]
  ·exact HB2.out.trans (belowK_b (w := w) (Nat.le_refl _) _ D _ _ (by omega) HK2.out rfl rfl)
 case stop =>
  rintro D c pre X hD h hK
  exact h.elim
end Go.Proofs.YtmbamcpndbimaaaGreatDoor
