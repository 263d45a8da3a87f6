/- The walk of integer.short, and of integer.divide for a divisor of one digit. The walks of integer.Neg, Of, Check, Mul, Add. The walk of integer.Add. Plain laws: what the functions of package integer compute, as integers. The walk of integer.Of. The walk of integer.Div, for a divisor of one digit. -/
import Derived.Test.YtcafeffgaokiaaaJ13
import Derived.Deep.RegionHeld3
import Derived.Deep.DeepCutAuto
import Derived.Deep.DeepFit
namespace Go.Proofs.Ytcafeffgaokiaaa
open Go.RowKit

/-- What stands when the digits from i on are divided. -/
def Sh (xs : List Nat) (y i r : Nat) (F : Nat → Nat) : Prop :=
  (∀ j, F j < 4294967296) ∧ r < y ∧ val (xs.drop i) = val ((digList F xs.length).drop i) * y + r
theorem Sh.step {xs : List Nat} {y i r x : Nat} {F : Nat → Nat} (h : Sh xs y (i + 1) r F) (hi : i < xs.length) (hx : xs.getD i 0 = x) (hxl : x < 4294967296) :
    (r * 4294967296 + x) / y < 4294967296 ∧ Sh xs y i ((r * 4294967296 + x) % y) (fun j => if j = i then (r * 4294967296 + x) / y else F j) := by
  obtain ⟨h1, h2, h3⟩ := h
  have hq : (r * 4294967296 + x) / y < 4294967296 := by
    apply Nat.div_lt_of_lt_mul
    have : (r + 1) * 4294967296 ≤ y * 4294967296 := Nat.mul_le_mul_right _ h2
    omega
  refine ⟨hq, ?_, Nat.mod_lt _ (by omega), ?_⟩
  · intro j
    show (if j = i then (r * 4294967296 + x) / y else F j) < 4294967296
    split
    · exact hq
    · exact h1 j
  · rw [val_drop hi, hx, short_step h3 rfl rfl, val_drop_digList hi, if_pos rfl]
    congr 4
    apply congrArg
    apply List.ext_getElem?
    intro j
    simp only [List.getElem?_drop]
    by_cases hj : i + 1 + j < xs.length
    · simp only [digList, List.getElem?_map, List.getElem?_range hj, Option.map_some]
      rw [if_neg (by omega)]
    · simp only [digList, List.getElem?_map]
      rw [List.getElem?_eq_none (by simpa using hj)]; rfl

/-- What integer.short and integer.divide give. -/
def RetNat2 (a b : Nat) (w : World) (e : Ending) (w' : World) : Prop :=
  ∃ p c q d, e = .returned (.tuple #[.slice p (digs a).length c, .slice q (digs b).length d]) ∧ NatsAt w' p (digs a) ∧ (digs a).length ≤ c ∧ c ≤ 1000000000 ∧ NatsAt w' q (digs b) ∧ (digs b).length ≤ d ∧ d ≤ 1000000000 ∧ Below w.heap.size w w'
def RetShort (a b : Nat) (w : World) (e : Ending) (w' : World) : Prop :=
  ∃ p c, e = .returned (.tuple #[.slice p (digs a).length c, .int .u32 (b : Int)]) ∧ NatsAt w' p (digs a) ∧ (digs a).length ≤ c ∧ c ≤ 1000000000 ∧ Below w.heap.size w w'

set_option maxRecDepth 100000 in
set_option maxHeartbeats 4000000 in
theorem short_core (xs : List Nat) (y : Nat) (p : Option Addr) (c : Nat) (w : World) (hX : NatsAt w p xs) (hdx : Dg xs) (hy : 0 < y) (hyl : y < 4294967296) (hx : xs.length ≤ 200000000) {a b : Nat} (ha : val xs / y = a) (hb : val xs % y = b) :
    Calls Try.prog 144 #[.slice p xs.length c, .int .u32 (y : Int)] w (RetShort a b w) := by
  have hmk := make_nats .i64 .i64 xs.length (by omega)
  have HX := Lib.hid hX
  have hD := Lib.hid hdx
  have Ha := Lib.hid ha
  have Hbb := Lib.hid hb
  clear hX hdx ha hb
  go_enter Try.func144, Try.ntmps144
  go_wp2
  go_loopw [7, 8] (fun cv v wr => ∃ (i r : Nat) (F : Nat → Nat), i ≤ xs.length ∧ v = .int .i64 ((i : Int) - 1) ∧ cv = .int .u64 (r : Nat) ∧ Below w.heap.size w wr ∧ Hid (Sh xs y i r F) ∧ Hid (DigBlk wr w.heap.size F xs.length)) (fun _ v _ => (intOf v + 1).toNat)
  case atStart =>
    refine ⟨xs.length, 0, fun _ => 0, by omega, rfl, rfl, (Below.refl _ _).alloc (by simp) _, Lib.hid ⟨fun _ => (by decide : 0 < 4294967296), hy, ?_⟩, Lib.hid (DigBlk.new w xs.length)⟩
    rw [List.drop_of_length_le (Nat.le_refl _), List.drop_of_length_le (by rw [digList_len]; exact Nat.le_refl _)]; simp [val]
  case round =>
    clear hmk
    obtain ⟨i, r, F, hi, rfl, rfl, hb, hW, hB⟩ := hrel
    have Hb := Lib.hid hb
    clear hb
    by_cases hi0 : 0 < i
    · obtain ⟨i, rfl⟩ : ∃ k, i = k + 1 := ⟨i - 1, by omega⟩
      rw [show ((i + 1 : Nat) : Int) - 1 = (i : Int) from by omega]
      have hlt : i < xs.length := by omega
      obtain ⟨b, off, rfl, hbl, hcell⟩ := NatsAt.cells HX.out (k := i) hlt
      have hx1 := hcell i hlt
      rw [← Hb.out.cell (p := ⟨b, _, none⟩) hbl] at hx1
      obtain ⟨x, hxe⟩ : ∃ x, xs.getD i 0 = x := ⟨_, rfl⟩
      rw [hxe] at hx1
      have hxl : x < 4294967296 := by rw [← hxe]; exact hD.out.getD i
      have hst := hW.out.step hlt hxe hxl
      have hc0 := hB.out.cell hlt
      have hf := hB.out.frozen i
      have hrl := hW.out.2.1
      obtain ⟨N, hN⟩ : ∃ N, r * 4294967296 + x = N := ⟨_, rfl⟩
      rw [hN] at hst
      obtain ⟨q, hq⟩ : ∃ q, N / y = q := ⟨_, rfl⟩
      obtain ⟨s, hs⟩ : ∃ s, N % y = s := ⟨_, rfl⟩
      rw [hq, hs] at hst
      have Hst := Lib.hid hst.2
      have hql := hst.1
      have hor : bits .or .u64 ((r : Int) * 4294967296) (x : Int) = (N : Int) := by
        have h1 : ((r : Int) * 4294967296) = ((r * 4294967296 : Nat) : Int) := by simp
        rw [h1, u64_or_nat _ _ (by omega) (by omega), ← hN]
        have h2 := Nat.two_pow_add_eq_or_of_lt (i := 32) (b := x) (by omega) r
        rw [Nat.mul_comm] at h2
        rw [← h2]
      have e1 : (N : Int) / (y : Int) = (q : Int) := by rw [← hq]; simp
      have e2 : (N : Int) % (y : Int) = (s : Int) := by rw [← hs]; simp
      have hNl : N < 18446744073709551616 := by omega
      have e3 : ((y : Int) == 0) = false := by rw [beq_eq_false_iff_ne]; omega
      have e4 : (q : Int) % 4294967296 = (q : Int) := by omega
      clear hst hcell hxe hN hq hs
      go_wp2_with fail
      go_region
      go_wp2
      go_roundw
      case rel =>
        exact ⟨i, s, _, by omega, by go_num, by rw [e2], (Hb.out.setCell (p := ⟨w.heap.size, i, none⟩) (by simp) _).drew, Hst, Lib.hid (DigBlk.drew (hB.out.set (j := i) q))⟩
      case measure => simp [intOf]
    · obtain rfl : i = 0 := by omega
      obtain ⟨h1, h2, h3⟩ := hW.out
      rw [List.drop_zero, List.drop_zero] at h3
      have hq : val (digList F xs.length) = a := by
        rw [← Ha.out, h3, Nat.mul_comm, Nat.mul_add_div hy, Nat.div_eq_of_lt h2]; omega
      have hr : r = b := by
        rw [← Hbb.out, h3, Nat.mul_comm, Nat.mul_add_mod, Nat.mod_eq_of_lt h2]
      have hrl : r < 4294967296 := by omega
      have Hq := Lib.hid hq
      have Hr := Lib.hid hr
      have e4 : (r : Int) % 4294967296 = (r : Int) := by omega
      clear hq hr h3
      go_wp2_with (go_at_call 106; refine (trim_blk (w0 := w) (v := a) hB.out ?_ ?_ Hb.out Hq.out).mono ?_)
      · exact fun j _ => h1 j
      · omega
      · rintro e w2 ⟨p2, c2, rfl, hN, hc1, hc2, hb2⟩
        have HN := Lib.hid hN
        have Hb2 := Lib.hid hb2
        clear hN hb2
        go_wp2
        refine bodyPost_ret (v := .tuple #[.slice p2 (digs a).length c2, .int .u32 (b : Int)]) ?_ rfl ⟨p2, c2, rfl, HN.out, hc1, hc2, Hb2.out⟩
        simp [results, Try.results144, go_sem, Hr.out]

theorem DigBlk.one (w : World) (r : Nat) : DigBlk (w.alloc (.cells #[.int .u32 (r : Int)] 133)) w.heap.size (fun _ => r) 1 := by
  unfold DigBlk
  rw [heap_alloc_new]
  rfl

set_option maxRecDepth 100000 in
set_option maxHeartbeats 4000000 in
theorem divide_short (m n : Nat) (p q : Option Addr) (c d : Nat) (w : World) (hX : NatsAt w p (digs m)) (hY : NatsAt w q (digs n)) (hm : (digs m).length ≤ 100000000) (hcm : (digs m).length ≤ c) (hc : c ≤ 1000000000) (h0 : n ≠ 0) (hn : n < 4294967296) :
    Calls Try.prog 128 #[.slice p (digs m).length c, .slice q (digs n).length d] w (RetNat2 (m / n) (m % n) w) := by
  have hdn : digs n = [n] := by
    have := digs_cons hn (.inl h0) (m := 0)
    simpa [digs_zero] using this
  have HX := Lib.hid hX
  have HY := Lib.hid hY
  have hdl : (digs n).length = 1 := by rw [hdn]; rfl
  have hy1 := (NatsAt.cells hY (k := 0) (by omega))
  obtain ⟨b, off, rfl, hbl, hcell⟩ := hy1
  have hyc := hcell 0 (by omega)
  rw [hdn] at hyc
  simp only [List.getD_cons_zero, Nat.add_zero] at hyc
  have hcc := compare_any m n p (some ⟨b, off, none⟩) c d w hX hY hm (by omega)
  rw [hdl] at hcc ⊢
  have HC := Lib.hid hcc
  clear hX hY hcell hdn hcc hdl
  go_enter Try.func128, Try.ntmps128
  by_cases hlt : m < n
  · have hv1 : cmpN m n = -1 := if_pos hlt
    have hq : m / n = 0 := Nat.div_eq_of_lt hlt
    have hr : m % n = m := Nat.mod_eq_of_lt hlt
    have Hv1 := Lib.hid hv1
    have Hq := Lib.hid hq
    have Hr := Lib.hid hr
    clear hv1 hq hr
    go_wp2_with (go_at_call 131; refine HC.out.mono ?_; rintro e w' ⟨rfl, hd⟩; have Hd := Lib.hid hd; clear hd; rw [Hv1.out])
    refine bodyPost_ret (v := .tuple #[.slice none 0 0, .slice p (digs m).length c]) ?_ rfl ?_
    · simp [results, Try.results128, go_sem]
    · rw [Hq.out, Hr.out]
      exact ⟨none, 0, p, c, rfl, .inl rfl, Nat.le_refl _, by decide, HX.out.below (Nat.le_refl _) (Drawn.below Hd.out _), hcm, hc, Drawn.below Hd.out _⟩
  · have hv1 : ¬ cmpN m n < 0 := by unfold cmpN; rw [if_neg hlt]; split <;> decide
    obtain ⟨C, hC⟩ : ∃ C, cmpN m n = C := ⟨_, rfl⟩
    rw [hC] at hv1
    have HCC := Lib.hid hC
    have hpos : 0 < n := by omega
    have hmod : m % n < 4294967296 := Nat.lt_trans (Nat.mod_lt _ hpos) hn
    obtain ⟨a, ha⟩ : ∃ a, m / n = a := ⟨_, rfl⟩
    obtain ⟨r, hr⟩ : ∃ r, m % n = r := ⟨_, rfl⟩
    rw [hr] at hmod
    rw [ha, hr]
    have Ha := Lib.hid ha
    have Hr := Lib.hid hr
    clear hC ha hr
    go_wp2_with first
      | (go_at_call 131; refine HC.out.mono ?_; rintro e w1 ⟨rfl, hd⟩; have Hd := Lib.hid hd; have Hyc := (Hd.out.cell ⟨b, off, none⟩).trans hyc; rw [HCC.out]; clear hd)
      | (go_at_call 144; refine (short_core (digs m) n p c w1 (HX.out.below (Nat.le_refl _) (Drawn.below Hd.out _)) (dg_digs m) hpos hn (by omega) (a := a) (b := r) (by rw [val_digs]; exact Ha.out) (by rw [val_digs]; exact Hr.out)).mono ?_; rintro e w2 ⟨p2, c2, rfl, hN, hc1, hc2, hb2⟩; have HN := Lib.hid hN; have Hb2 := Lib.hid hb2; clear hN hb2)
      | (go_at_call 106; refine (trim_blk (F := fun _ => r) (w0 := w2) (v := r) (DigBlk.one w2 r) (fun _ _ => hmod) (by decide) ((Below.refl _ _).alloc (Nat.le_refl _) _) (by simp [digList, val])).mono ?_; rintro e w3 ⟨p3, c3, rfl, hN3, hc3, hc4, hb3⟩; have HN3 := Lib.hid hN3; have Hb3 := Lib.hid hb3; clear hN3 hb3)
    have hs1 := Hb2.out.size
    have hs0 : w1.heap.size = w.heap.size := by rw [Drawn.heap Hd.out]
    refine bodyPost_ret (v := .tuple #[.slice p2 (digs a).length c2, .slice p3 (digs r).length c3]) ?_ rfl ?_
    · simp [results, Try.results128, go_sem]
    · exact ⟨p2, c2, p3, c3, rfl, HN.out.below (Nat.le_refl _) Hb3.out, hc1, hc2, HN3.out, hc3, hc4, ((Drawn.below Hd.out _).trans (Hb2.out.mono (by omega))).trans (Hb3.out.mono (by omega))⟩
end Go.Proofs.Ytcafeffgaokiaaa

namespace Go.Proofs.Ytcafeffgaokiaaa
open Go.RowKit

theorem number_digs (neg : Bool) (v : Nat) (p : Option Addr) (c : Nat) (w : World) (hX : NatsAt w p (digs v)) (hc : (digs v).length ≤ c) (hcm : c ≤ 1000000000) :
    Calls Try.prog 78 #[.bool neg, .slice p (digs v).length c] w (RetZ (mkZ neg v) w) :=
  number_any neg (digs v) p c w hX (dg_digs v) hc hcm (val_digs v)

/-- A box of two cells. -/
def BoxAt (w : World) (g : Nat) (a b : Value) : Prop :=
  w.cell? ⟨g, 0, none⟩ = some a ∧ w.cell? ⟨g, 1, none⟩ = some b ∧ w.frozen? ⟨g, 0, none⟩ = false ∧ w.frozen? ⟨g, 1, none⟩ = false ∧ g < w.heap.size
theorem BoxAt.below {w w' : World} {g B : Nat} {a b : Value} (h : BoxAt w g a b) (hb : Below B w w') (hg : g < B) : BoxAt w' g a b := by
  obtain ⟨h1, h2, h3, h4, h5⟩ := h
  exact ⟨(hb.cell (p := ⟨g, 0, none⟩) hg).trans h1, (hb.cell (p := ⟨g, 1, none⟩) hg).trans h2, (hb.frozen (p := ⟨g, 0, none⟩) hg).trans h3, (hb.frozen (p := ⟨g, 1, none⟩) hg).trans h4, Nat.lt_of_lt_of_le h5 hb.size⟩
theorem BoxAt.new (w : World) (a b : Value) (t : TypeId) : BoxAt (w.alloc (.cells #[a, b] t)) w.heap.size a b := by
  have hb := Below.refl (w.heap.size + 1) (w.alloc (.cells #[a, b] t))
  obtain ⟨⟨h1, h2⟩, h3, _⟩ := box2 hb
  exact ⟨h1, h2, box_frozen hb (Nat.lt_succ_self _) 0, box_frozen hb (Nat.lt_succ_self _) 1, h3⟩
theorem BoxAt.alloc {w : World} {g : Nat} {a b : Value} (h : BoxAt w g a b) (o : Obj) : BoxAt (w.alloc o) g a b :=
  h.below ((Below.refl w.heap.size w).alloc (Nat.le_refl _) o) h.2.2.2.2

theorem digs_le : ∀ (k n : Nat), n < 256 ^ k → (digs n).length ≤ (k + 3) / 4 := by
  intro k n h
  apply Nat.le_of_not_lt
  intro hlt
  have h1 : digs n ≠ [] := fun h => by rw [h] at hlt; simp at hlt
  have h0 : n ≠ 0 := fun h => h1 (by rw [h, digs_zero])
  have h2 := digs_last h0
  have h3 := val_take_succ (xs := digs n) (k := (digs n).length - 1) (by omega)
  rw [show (digs n).length - 1 + 1 = (digs n).length from by omega, List.take_of_length_le (Nat.le_refl _), val_digs] at h3
  have h4 : 4294967296 ^ ((digs n).length - 1) * 1 ≤ 4294967296 ^ ((digs n).length - 1) * (digs n).getD ((digs n).length - 1) 0 := Nat.mul_le_mul_left _ (by omega)
  have h5 : (256 : Nat) ^ k ≤ 4294967296 ^ ((digs n).length - 1) := by
    rw [show (4294967296 : Nat) = 256 ^ 4 from by decide, ← Nat.pow_mul]
    exact Nat.pow_le_pow_right (by decide) (by omega)
  omega
theorem absZ_lt (z : ZI) : absZ z < 256 ^ z.mag.size := by
  have := bval_lt z.mag.data.toList
  simpa [absZ] using this
theorem digs_len_fit {z : ZI} (h : z.mag.size ≤ 100000000) : (digs (absZ z)).length ≤ 200000000 := by
  have := digs_le _ _ (absZ_lt z)
  omega

set_option maxRecDepth 100000 in
set_option maxHeartbeats 4000000 in
theorem neg_any (z : ZI) (hz : z.mag.size ≤ 100000000) (w : World) :
    Calls Try.prog 103 #[.agg #[.bool z.neg, .string z.mag]] w (RetZ (mkZ (!z.neg) (absZ z)) w) := by
  go_enter Try.func103, Try.ntmps103
  go_wp2_with fail
  have hA := (BoxAt.new w (.bool z.neg) (.string z.mag) 48).alloc (.cells #[.bool false, .string ⟨#[]⟩] 48)
  have hB := BoxAt.new (w.alloc (.cells #[.bool z.neg, .string z.mag] 48)) (.bool false) (.string ⟨#[]⟩) 48
  have hb0 : Below w.heap.size w ((w.alloc (.cells #[.bool z.neg, .string z.mag] 48)).alloc (.cells #[.bool false, .string ⟨#[]⟩] 48)) := ((Below.refl _ _).alloc (Nat.le_refl _) _).alloc (by simp) _
  have hs0 : ((w.alloc (.cells #[.bool z.neg, .string z.mag] 48)).alloc (.cells #[.bool false, .string ⟨#[]⟩] 48)).heap.size = w.heap.size + 2 := by simp
  rw [World.size_alloc] at hB
  generalize ((w.alloc (.cells #[.bool z.neg, .string z.mag] 48)).alloc (.cells #[.bool false, .string ⟨#[]⟩] 48)) = W at *
  have HA := Lib.hid hA
  have HB := Lib.hid hB
  have Hb0 := Lib.hid hb0
  have Hs0 := Lib.hid hs0
  obtain ⟨a0, a1, _, _, _⟩ := hA
  clear hB hb0 hs0
  go_region_held3 (fun w' => w'.cell? ⟨w.heap.size, 0, none⟩ = some (.bool z.neg) ∧ w'.cell? ⟨w.heap.size, 1, none⟩ = some (.string z.mag)) (go_keep)
    (first
      | (go_at_call 81; go_fit (digits_any z hz _); rintro e w2 ⟨p, c, rfl, hN, hc1, hc2, hb⟩; have HN := Lib.hid hN; have Hb2 := Lib.hid (show Below W.heap.size W w2 from Below.trans (by repeat (first | exact Below.refl _ _ | refine Below.drew ?_ | refine below_dr ?_)) (hb.mono (Nat.le_refl _))); have HA2 := Lib.hid (HA.out.below Hb2.out (by have := Hs0.out; omega)); obtain ⟨b0, b1, _, _, _⟩ := HA2.out; clear hb hN)
      | (go_at_call 78; refine (number_digs _ _ p c _ (HN.out.below (Nat.le_refl _) (by repeat (first | exact Below.refl _ _ | refine Below.drew ?_ | refine below_dr ?_))) hc1 hc2).mono ?_; rintro e w3 ⟨rfl, hb⟩; have Hb3 := Lib.hid (show Below W.heap.size W w3 from Below.trans Hb2.out (Below.trans (by repeat (first | exact Below.refl _ _ | refine Below.drew ?_ | refine below_dr ?_)) (hb.mono (by simpa using Hb2.out.size)))); have HA3 := Lib.hid (HA.out.below Hb3.out (by have := Hs0.out; omega)); have HB3 := Lib.hid (HB.out.below Hb3.out (by have := Hs0.out; omega)); obtain ⟨b0, b1, _, _, _⟩ := HA3.out; obtain ⟨c0, c1, c2, c3, _⟩ := HB3.out; clear hb))
  go_wp2
  refine bodyPost_ret (v := .agg #[.bool (mkZ (!z.neg) (absZ z)).neg, .string (mkZ (!z.neg) (absZ z)).mag]) ?_ rfl ⟨rfl, ?_⟩
  · simp [results, Try.results103, go_sem, c0, c1]
  · exact ((Hb0.out.trans (Hb3.out.mono (by have := Hs0.out; omega))).setCell (by simp) _).setCell (by simp) _
end Go.Proofs.Ytcafeffgaokiaaa

namespace Go.Proofs.Ytcafeffgaokiaaa
open Go.RowKit

/-- Two numbers as digits, in one world. -/
def TwoNat (W : World) (m n : Nat) (u v : Value) (wx : World) : Prop :=
  ∃ pa ca pb cb, u = .slice pa (digs m).length ca ∧ v = .slice pb (digs n).length cb ∧ NatsAt wx pa (digs m) ∧ (digs m).length ≤ ca ∧ ca ≤ 1000000000 ∧ NatsAt wx pb (digs n) ∧ (digs n).length ≤ cb ∧ cb ≤ 1000000000 ∧ Below W.heap.size W wx
/-- The sum by sign and size. -/
def addZ (x y : ZI) : ZI := if x.neg = y.neg then mkZ x.neg (absZ x + absZ y) else if absZ x < absZ y then mkZ y.neg (absZ y - absZ x) else mkZ x.neg (absZ x - absZ y)
theorem digs_len_fit1 {z : ZI} (h : z.mag.size ≤ 100000000) : (digs (absZ z)).length ≤ 100000000 := by
  have := digs_le _ _ (absZ_lt z)
  omega

set_option maxRecDepth 100000 in
set_option maxHeartbeats 8000000 in
theorem add_z (x y : ZI) (hx : x.mag.size ≤ 100000000) (hy : y.mag.size ≤ 100000000) (w : World) :
    Calls Try.prog 107 #[.agg #[.bool x.neg, .string x.mag], .agg #[.bool y.neg, .string y.mag]] w (RetZ (addZ x y) w) := by
  have hlx := Lib.hid (digs_len_fit1 hx)
  have hly := Lib.hid (digs_len_fit1 hy)
  go_enter Try.func107, Try.ntmps107
  go_upto_region 1 with (fail)
  obtain ⟨W, hW⟩ : ∃ W, (((w.alloc (.cells #[.bool x.neg, .string x.mag] 48)).alloc (.cells #[.bool y.neg, .string y.mag] 48)).alloc (.cells #[.bool false, .string ⟨#[]⟩] 48)) = W := ⟨_, rfl⟩
  have hA : BoxAt W w.heap.size (.bool x.neg) (.string x.mag) := by rw [← hW]; exact ((BoxAt.new w (.bool x.neg) (.string x.mag) 48).alloc _).alloc _
  have hB : BoxAt W (w.heap.size + 1) (.bool y.neg) (.string y.mag) := by
    rw [← hW]
    have := (BoxAt.new (w.alloc (.cells #[.bool x.neg, .string x.mag] 48)) (.bool y.neg) (.string y.mag) 48).alloc (.cells #[.bool false, .string ⟨#[]⟩] 48)
    rwa [World.size_alloc] at this
  have hC : BoxAt W (w.heap.size + 1 + 1) (.bool false) (.string ⟨#[]⟩) := by
    rw [← hW]
    have := BoxAt.new ((w.alloc (.cells #[.bool x.neg, .string x.mag] 48)).alloc (.cells #[.bool y.neg, .string y.mag] 48)) (.bool false) (.string ⟨#[]⟩) 48
    rwa [World.size_alloc, World.size_alloc] at this
  have hb0 : Below w.heap.size w W := by rw [← hW]; exact (((Below.refl _ _).alloc (Nat.le_refl _) _).alloc (by simp) _).alloc (by simp; omega) _
  have hs0 : W.heap.size = w.heap.size + 1 + 1 + 1 := by rw [← hW]; simp
  rw [hW]
  have HA := Lib.hid hA
  have HB := Lib.hid hB
  have HC := Lib.hid hC
  have Hb0 := Lib.hid hb0
  have Hs0 := Lib.hid hs0
  obtain ⟨a0, a1, _, _, _⟩ := hA
  obtain ⟨b0, b1, _, _, _⟩ := hB
  clear hC hb0 hs0 hW
  have n1 : ¬ (w.heap.size = w.heap.size + 1 + 1) := by omega
  have n2 : ¬ (w.heap.size + 1 + 1 = w.heap.size) := by omega
  go_cut [5, 6] (fun u v wx => TwoNat W (absZ x) (absZ y) u v wx)
  case first =>
    go_region_held3 (fun w' => w'.cell? ⟨w.heap.size, 0, none⟩ = some (.bool x.neg) ∧ w'.cell? ⟨w.heap.size, 1, none⟩ = some (.string x.mag) ∧ w'.cell? ⟨w.heap.size + 1, 0, none⟩ = some (.bool y.neg) ∧ w'.cell? ⟨w.heap.size + 1, 1, none⟩ = some (.string y.mag)) (go_keep)
    (first
      | (go_at_call 81; go_fit (digits_any x hx _); rintro e wa ⟨pa, ca, rfl, hN, hca1, hca2, hb⟩; have HNa := Lib.hid hN; have Hwa := Lib.hid (show Below W.heap.size W wa from Below.trans (by repeat (first | exact Hwb.out | exact Hwa.out | exact Below.refl _ _ | exact Hab.out | exact Hba.out | refine Below.drew ?_ | refine below_dr ?_)) (hb.mono (by first | exact Nat.le_refl _ | exact Hwa.out.size | exact Hwb.out.size | exact Hab.out.size | exact Hba.out.size))); (try (have Hba := Lib.hid (show Below wb.heap.size wb wa from Below.trans (by repeat (first | exact Hwb.out | exact Hwa.out | exact Below.refl _ _ | exact Hab.out | exact Hba.out | refine Below.drew ?_ | refine below_dr ?_)) (hb.mono (by first | exact Nat.le_refl _ | exact Hwa.out.size | exact Hwb.out.size | exact Hab.out.size | exact Hba.out.size))))); have HA2 := Lib.hid (HA.out.below Hwa.out (by have := Hs0.out; omega)); have HB2 := Lib.hid (HB.out.below Hwa.out (by have := Hs0.out; omega)); obtain ⟨d0, d1, _, _, _⟩ := HA2.out; obtain ⟨e0, e1, _, _, _⟩ := HB2.out; clear hb hN)
      | (go_at_call 81; go_fit (digits_any y hy _); rintro e wb ⟨pb, cb, rfl, hN, hcb1, hcb2, hb⟩; have HNb := Lib.hid hN; have Hwb := Lib.hid (show Below W.heap.size W wb from Below.trans (by repeat (first | exact Hwb.out | exact Hwa.out | exact Below.refl _ _ | exact Hab.out | exact Hba.out | refine Below.drew ?_ | refine below_dr ?_)) (hb.mono (by first | exact Nat.le_refl _ | exact Hwa.out.size | exact Hwb.out.size | exact Hab.out.size | exact Hba.out.size))); (try (have Hab := Lib.hid (show Below wa.heap.size wa wb from Below.trans (by repeat (first | exact Hwb.out | exact Hwa.out | exact Below.refl _ _ | exact Hab.out | exact Hba.out | refine Below.drew ?_ | refine below_dr ?_)) (hb.mono (by first | exact Nat.le_refl _ | exact Hwa.out.size | exact Hwb.out.size | exact Hab.out.size | exact Hba.out.size))))); have HA2 := Lib.hid (HA.out.below Hwb.out (by have := Hs0.out; omega)); have HB2 := Lib.hid (HB.out.below Hwb.out (by have := Hs0.out; omega)); obtain ⟨d0, d1, _, _, _⟩ := HA2.out; obtain ⟨e0, e1, _, _, _⟩ := HB2.out; clear hb hN))
    all_goals
      go_wp2_with fail
      go_meet
      exact ⟨pa, ca, pb, cb, rfl, rfl, HNa.out.below (Nat.le_refl _) (by repeat (first | exact Hwb.out | exact Hwa.out | exact Below.refl _ _ | exact Hab.out | exact Hba.out | refine Below.drew ?_ | refine below_dr ?_)), hca1, hca2, HNb.out.below (Nat.le_refl _) (by repeat (first | exact Hwb.out | exact Hwa.out | exact Below.refl _ _ | exact Hab.out | exact Hba.out | refine Below.drew ?_ | refine below_dr ?_)), hcb1, hcb2, by repeat (first | exact Hwb.out | exact Hwa.out | exact Below.refl _ _ | exact Hab.out | exact Hba.out | refine Below.drew ?_ | refine below_dr ?_)⟩
  case rest =>
    obtain ⟨pa, ca, pb, cb, rfl, rfl, hNa, hca1, hca2, hNb, hcb1, hcb2, hwx⟩ := hcut
    have HNa := Lib.hid hNa
    have HNb := Lib.hid hNb
    have Hwx := Lib.hid hwx
    have HA1 := HA.out.below hwx (by have := Hs0.out; omega)
    have HB1 := HB.out.below hwx (by have := Hs0.out; omega)
    clear a0 a1 b0 b1 hNa hNb hwx
    obtain ⟨a0, a1, _, _, _⟩ := HA1
    obtain ⟨b0, b1, _, _, _⟩ := HB1
    by_cases hs : x.neg = y.neg
    · have hsb : (x.neg == y.neg) = true := by rw [beq_iff_eq]; exact hs
      have hR : addZ x y = mkZ x.neg (absZ x + absZ y) := if_pos hs
      have HR := Lib.hid hR
      clear hR hs
      go_wp2_with fail
      go_region_held3 (fun w' => w'.cell? ⟨w.heap.size, 0, none⟩ = some (.bool x.neg)) (go_keep)
        (first
          | (go_at_call 129; go_fit (add_any (absZ x) (absZ y) pa pb ca cb _ (HNa.out.below (Nat.le_refl _) (by repeat (first | exact Below.refl _ _ | refine Below.drew ?_ | refine below_dr ?_ | exact Drawn.below Hd.out _))) (HNb.out.below (Nat.le_refl _) (by repeat (first | exact Below.refl _ _ | refine Below.drew ?_ | refine below_dr ?_ | exact Drawn.below Hd.out _))) (by have := hlx.out; omega) (by have := hly.out; omega)); rintro e wd ⟨pd, cd, rfl, hN, hcd1, hcd2, hb⟩; have HNd := Lib.hid hN; have Hwd := Lib.hid (show Below W.heap.size W wd from Below.trans Hwx.out (Below.trans (by repeat (first | exact Below.refl _ _ | refine Below.drew ?_ | refine below_dr ?_ | exact Drawn.below Hd.out _)) (hb.mono (by exact Hwx.out.size)))); have HA2 := Lib.hid (HA.out.below Hwd.out (by have := Hs0.out; omega)); have HB2 := Lib.hid (HB.out.below Hwd.out (by have := Hs0.out; omega)); obtain ⟨d0, d1, _, _, _⟩ := HA2.out; obtain ⟨e0, e1, _, _, _⟩ := HB2.out; clear hb hN)
          | (go_at_call 78; go_fit (number_digs _ _ pd cd _ (HNd.out.below (Nat.le_refl _) (by repeat (first | exact Below.refl _ _ | refine Below.drew ?_ | refine below_dr ?_ | exact Drawn.below Hd.out _))) hcd1 hcd2); rintro e w3 ⟨rfl, hb⟩; have Hb3 := Lib.hid (show Below W.heap.size W w3 from Below.trans Hwd.out (Below.trans (by repeat (first | exact Below.refl _ _ | refine Below.drew ?_ | refine below_dr ?_ | exact Drawn.below Hd.out _)) (hb.mono (by exact Hwd.out.size)))); have HA3 := Lib.hid (HA.out.below Hb3.out (by have := Hs0.out; omega)); have HB3 := Lib.hid (HB.out.below Hb3.out (by have := Hs0.out; omega)); have HC3 := Lib.hid (HC.out.below Hb3.out (by have := Hs0.out; omega)); obtain ⟨d0, d1, _, _, _⟩ := HA3.out; obtain ⟨e0, e1, _, _, _⟩ := HB3.out; obtain ⟨f0, f1, f2, f3, _⟩ := HC3.out; clear hb))
      go_wp2
      refine bodyPost_ret (v := .agg #[.bool (mkZ x.neg (absZ x + absZ y)).neg, .string (mkZ x.neg (absZ x + absZ y)).mag]) ?_ rfl ⟨by rw [HR.out], ?_⟩
      · simp [results, Try.results107, go_sem, f0, f1]
      · exact ((Hb0.out.trans (Hb3.out.mono (by have := Hs0.out; omega))).setCell (by simp; omega) _).setCell (by simp; omega) _
    · have hsb : (x.neg == y.neg) = false := by rw [beq_eq_false_iff_ne]; exact hs
      have hC1 : ∃ C, cmpN (absZ x) (absZ y) = C := ⟨_, rfl⟩
      obtain ⟨C, hCC⟩ := hC1
      have HCC := Lib.hid hCC
      by_cases hlt : absZ x < absZ y
      · have hR : addZ x y = mkZ y.neg (absZ y - absZ x) := by unfold addZ; rw [if_neg hs, if_pos hlt]
        have hC2 : C < 0 := by rw [← hCC]; unfold cmpN; rw [if_pos hlt]; decide
        have HR := Lib.hid hR
        have Hlt := Lib.hid (Nat.le_of_lt hlt)
        clear hR hs hCC hlt
        go_wp2_with (go_at_call 131; go_fit (compare_any (absZ x) (absZ y) pa pb ca cb wc HNa.out HNb.out hlx.out hly.out); rintro e w1 ⟨rfl, hd⟩; have Hd := Lib.hid hd; have k0 := (hd.cell ⟨w.heap.size, 0, none⟩).trans a0; have k1 := (hd.cell ⟨w.heap.size, 1, none⟩).trans a1; have k2 := (hd.cell ⟨w.heap.size + 1, 0, none⟩).trans b0; have k3 := (hd.cell ⟨w.heap.size + 1, 1, none⟩).trans b1; have Hsz := Lib.hid (show W.heap.size ≤ w1.heap.size from by rw [hd.heap]; exact Hwx.out.size); rw [HCC.out]; clear hd)
        go_region_held3 (fun w' => w'.cell? ⟨w.heap.size + 1, 0, none⟩ = some (.bool y.neg)) (go_keep)
          (first
            | (go_at_call 130; go_fit (subtract_any (absZ y) (absZ x) pb pa cb ca _ (HNb.out.below (Nat.le_refl _) (by repeat (first | exact Below.refl _ _ | refine Below.drew ?_ | refine below_dr ?_ | exact Drawn.below Hd.out _))) (HNa.out.below (Nat.le_refl _) (by repeat (first | exact Below.refl _ _ | refine Below.drew ?_ | refine below_dr ?_ | exact Drawn.below Hd.out _))) (by have := hly.out; omega) Hlt.out); rintro e wd ⟨pd, cd, rfl, hN, hcd1, hcd2, hb⟩; have HNd := Lib.hid hN; have Hwd := Lib.hid (show Below W.heap.size W wd from Below.trans Hwx.out (Below.trans (by repeat (first | exact Below.refl _ _ | refine Below.drew ?_ | refine below_dr ?_ | exact Drawn.below Hd.out _)) (hb.mono (by exact Hsz.out)))); have HA2 := Lib.hid (HA.out.below Hwd.out (by have := Hs0.out; omega)); have HB2 := Lib.hid (HB.out.below Hwd.out (by have := Hs0.out; omega)); obtain ⟨d0, d1, _, _, _⟩ := HA2.out; obtain ⟨e0, e1, _, _, _⟩ := HB2.out; clear hb hN)
            | (go_at_call 78; go_fit (number_digs _ _ pd cd _ (HNd.out.below (Nat.le_refl _) (by repeat (first | exact Below.refl _ _ | refine Below.drew ?_ | refine below_dr ?_ | exact Drawn.below Hd.out _))) hcd1 hcd2); rintro e w3 ⟨rfl, hb⟩; have Hb3 := Lib.hid (show Below W.heap.size W w3 from Below.trans Hwd.out (Below.trans (by repeat (first | exact Below.refl _ _ | refine Below.drew ?_ | refine below_dr ?_ | exact Drawn.below Hd.out _)) (hb.mono (by exact Hwd.out.size)))); have HA3 := Lib.hid (HA.out.below Hb3.out (by have := Hs0.out; omega)); have HB3 := Lib.hid (HB.out.below Hb3.out (by have := Hs0.out; omega)); have HC3 := Lib.hid (HC.out.below Hb3.out (by have := Hs0.out; omega)); obtain ⟨d0, d1, _, _, _⟩ := HA3.out; obtain ⟨e0, e1, _, _, _⟩ := HB3.out; obtain ⟨f0, f1, f2, f3, _⟩ := HC3.out; clear hb))
        go_wp2
        refine bodyPost_ret (v := .agg #[.bool (mkZ y.neg (absZ y - absZ x)).neg, .string (mkZ y.neg (absZ y - absZ x)).mag]) ?_ rfl ⟨by rw [HR.out], ?_⟩
        · simp [results, Try.results107, go_sem, f0, f1]
        · exact ((Hb0.out.trans (Hb3.out.mono (by have := Hs0.out; omega))).setCell (by simp; omega) _).setCell (by simp; omega) _
      · have hR : addZ x y = mkZ x.neg (absZ x - absZ y) := by unfold addZ; rw [if_neg hs, if_neg hlt]
        have hC2 : ¬ C < 0 := by rw [← hCC]; unfold cmpN; rw [if_neg hlt]; split <;> decide
        have HR := Lib.hid hR
        have Hlt := Lib.hid (Nat.le_of_not_lt hlt)
        clear hR hs hCC hlt
        go_wp2_with (go_at_call 131; go_fit (compare_any (absZ x) (absZ y) pa pb ca cb wc HNa.out HNb.out hlx.out hly.out); rintro e w1 ⟨rfl, hd⟩; have Hd := Lib.hid hd; have k0 := (hd.cell ⟨w.heap.size, 0, none⟩).trans a0; have k1 := (hd.cell ⟨w.heap.size, 1, none⟩).trans a1; have k2 := (hd.cell ⟨w.heap.size + 1, 0, none⟩).trans b0; have k3 := (hd.cell ⟨w.heap.size + 1, 1, none⟩).trans b1; have Hsz := Lib.hid (show W.heap.size ≤ w1.heap.size from by rw [hd.heap]; exact Hwx.out.size); rw [HCC.out]; clear hd)
        go_region_held3 (fun w' => w'.cell? ⟨w.heap.size, 0, none⟩ = some (.bool x.neg)) (go_keep)
          (first
            | (go_at_call 130; go_fit (subtract_any (absZ x) (absZ y) pa pb ca cb _ (HNa.out.below (Nat.le_refl _) (by repeat (first | exact Below.refl _ _ | refine Below.drew ?_ | refine below_dr ?_ | exact Drawn.below Hd.out _))) (HNb.out.below (Nat.le_refl _) (by repeat (first | exact Below.refl _ _ | refine Below.drew ?_ | refine below_dr ?_ | exact Drawn.below Hd.out _))) (by have := hlx.out; omega) Hlt.out); rintro e wd ⟨pd, cd, rfl, hN, hcd1, hcd2, hb⟩; have HNd := Lib.hid hN; have Hwd := Lib.hid (show Below W.heap.size W wd from Below.trans Hwx.out (Below.trans (by repeat (first | exact Below.refl _ _ | refine Below.drew ?_ | refine below_dr ?_ | exact Drawn.below Hd.out _)) (hb.mono (by exact Hsz.out)))); have HA2 := Lib.hid (HA.out.below Hwd.out (by have := Hs0.out; omega)); have HB2 := Lib.hid (HB.out.below Hwd.out (by have := Hs0.out; omega)); obtain ⟨d0, d1, _, _, _⟩ := HA2.out; obtain ⟨e0, e1, _, _, _⟩ := HB2.out; clear hb hN)
            | (go_at_call 78; go_fit (number_digs _ _ pd cd _ (HNd.out.below (Nat.le_refl _) (by repeat (first | exact Below.refl _ _ | refine Below.drew ?_ | refine below_dr ?_ | exact Drawn.below Hd.out _))) hcd1 hcd2); rintro e w3 ⟨rfl, hb⟩; have Hb3 := Lib.hid (show Below W.heap.size W w3 from Below.trans Hwd.out (Below.trans (by repeat (first | exact Below.refl _ _ | refine Below.drew ?_ | refine below_dr ?_ | exact Drawn.below Hd.out _)) (hb.mono (by exact Hwd.out.size)))); have HA3 := Lib.hid (HA.out.below Hb3.out (by have := Hs0.out; omega)); have HB3 := Lib.hid (HB.out.below Hb3.out (by have := Hs0.out; omega)); have HC3 := Lib.hid (HC.out.below Hb3.out (by have := Hs0.out; omega)); obtain ⟨d0, d1, _, _, _⟩ := HA3.out; obtain ⟨e0, e1, _, _, _⟩ := HB3.out; obtain ⟨f0, f1, f2, f3, _⟩ := HC3.out; clear hb))
        go_wp2
        refine bodyPost_ret (v := .agg #[.bool (mkZ x.neg (absZ x - absZ y)).neg, .string (mkZ x.neg (absZ x - absZ y)).mag]) ?_ rfl ⟨by rw [HR.out], ?_⟩
        · simp [results, Try.results107, go_sem, f0, f1]
        · exact ((Hb0.out.trans (Hb3.out.mono (by have := Hs0.out; omega))).setCell (by simp; omega) _).setCell (by simp; omega) _
end Go.Proofs.Ytcafeffgaokiaaa

namespace Go.Proofs.Ytcafeffgaokiaaa

theorem mkZ_val (b : Bool) (v : Nat) : mkZ b v = canon (if b then -(v : Int) else v) := by
  cases b
  · exact mkZ_pos v
  · exact mkZ_neg v
theorem addZ_val (x y : ZI) : addZ x y = canon (valZ x + valZ y) := by
  unfold addZ valZ
  rcases x with ⟨a, s⟩
  rcases y with ⟨b, t⟩
  generalize absZ ⟨a, s⟩ = m
  generalize absZ ⟨b, t⟩ = n
  cases a <;> cases b <;> simp only [mkZ_val, if_true, Bool.false_eq_true, if_false, reduceCtorEq]
  · congr 1
  · split
    · congr 1; omega
    · congr 1; omega
  · split
    · congr 1; omega
    · congr 1; omega
  · congr 1; omega
theorem negZ_val (z : ZI) : mkZ (!z.neg) (absZ z) = canon (-valZ z) := by
  rw [mkZ_val]; unfold valZ
  rcases z with ⟨a, s⟩
  cases a <;> simp
theorem mulZ_val (x y : ZI) : mkZ (!(x.neg == y.neg)) (absZ x * absZ y) = canon (valZ x * valZ y) := by
  rw [mkZ_val]; unfold valZ
  rcases x with ⟨a, s⟩
  rcases y with ⟨b, t⟩
  cases a <;> cases b <;> simp [Int.neg_mul, Int.mul_neg]
theorem canon_size (n : Int) {k : Nat} (h : n.natAbs < 256 ^ k) : (canon n).mag.size ≤ k := by
  have := beb_len k h
  show (beb n.natAbs).toArray.size ≤ k
  simpa using this

instance : DecidableEq ZI := fun a b => decidable_of_iff (a.neg = b.neg ∧ a.mag = b.mag) (by
  rcases a with ⟨a, s⟩
  rcases b with ⟨b, t⟩
  simp)
end Go.Proofs.Ytcafeffgaokiaaa

namespace Go.Proofs.Ytcafeffgaokiaaa
open Go.RowKit

theorem number_two (neg : Bool) (a b : Nat) (ha : a < 4294967296) (hb : b < 4294967296) (g : Nat) (w : World) (h0 : w.cell? ⟨g, 0, none⟩ = some (.int .u32 (a : Int))) (h1 : w.cell? ⟨g, 1, none⟩ = some (.int .u32 (b : Int))) (hg : g < w.heap.size) :
    Calls Try.prog 78 #[.bool neg, .slice (some ⟨g, 0, none⟩) 2 2] w (RetZ (mkZ neg (a + 4294967296 * b)) w) := by
  have hX : NatsAt w (some ⟨g, 0, none⟩) [a, b] := by
    refine .inr ⟨g, 0, rfl, hg, fun i hi j hj => ?_⟩
    have : j = 0 := by omega
    subst this
    match i, hi with
    | 0, _ => exact h0
    | 1, _ => exact h1
  exact number_any neg [a, b] (some ⟨g, 0, none⟩) 2 w hX (by
    intro x hx
    simp only [List.mem_cons, List.not_mem_nil, or_false] at hx
    rcases hx with rfl | rfl <;> omega) (by simp) (by decide) (by simp [val])

set_option maxRecDepth 100000 in
set_option maxHeartbeats 8000000 in
theorem of_any (n : Int) (h0 : -9223372036854775808 ≤ n) (h1 : n ≤ 9223372036854775807) (w : World) :
    Calls Try.prog 50 #[.int .i64 n] w (RetZ (canon n) w) := by
  obtain ⟨u, hu⟩ : ∃ u, n.natAbs = u := ⟨_, rfl⟩
  have hul : u ≤ 9223372036854775808 := by omega
  have hz : mkZ (decide (n < 0)) u = canon n := by
    rw [mkZ_val]
    by_cases h : n < 0
    · rw [if_pos (by simpa using h)]; congr 1; omega
    · rw [if_neg (by simpa using h)]; congr 1; omega
  obtain ⟨a, ha⟩ : ∃ a, u % 4294967296 = a := ⟨_, rfl⟩
  obtain ⟨b, hb⟩ : ∃ b, u / 4294967296 = b := ⟨_, rfl⟩
  have hal : a < 4294967296 := by omega
  have hbl : b < 4294967296 := by omega
  have hab : mkZ (decide (n < 0)) (a + 4294967296 * b) = canon n := by rw [← hz]; congr 1; omega
  have Hab := Lib.hid hab
  have ea : (u : Int) % 4294967296 = (a : Int) := by omega
  have eb : (u : Int) / 4294967296 = (b : Int) := by omega
  have eb2 : (b : Int) % 4294967296 = (b : Int) := by omega
  clear hz hab ha hb
  go_enter Try.func50, Try.ntmps50
  by_cases hneg : n < 0
  · have e1 : IntKind.u64.wrap (-IntKind.u64.wrap n) = (u : Int) := by
      simp only [IntKind.wrap, IntKind.bits, IntKind.signed, Bool.false_and, Bool.false_eq_true, if_false]; omega
    have Hab2 : Hid (mkZ true (a + 4294967296 * b) = canon n) := by rw [decide_eq_true hneg] at Hab; exact Hab
    clear hu
    go_wp2_with (go_at_call 78; go_fit (number_two true a b hal hbl (w.heap.size + 1) _ (by simp) (by simp) (by simp)); rintro e w2 ⟨rfl, hb⟩; rw [Hab2.out]; have Hb2 := Lib.hid (hb.mono (B' := w.heap.size) (by simp; omega)); have HX := Lib.hid (((BoxAt.new w (.bool false) (.string ⟨#[]⟩) 48).alloc _).below hb (by simp; omega)); obtain ⟨f0, f1, f2, f3, _⟩ := HX.out; clear hb)
    refine bodyPost_ret (v := .agg #[.bool (canon n).neg, .string (canon n).mag]) ?_ rfl ⟨rfl, ?_⟩
    · simp [results, Try.results50, go_sem, f0, f1]
    · exact (((((Below.refl _ _).alloc (Nat.le_refl _) _).alloc (by simp) _).trans Hb2.out).setCell (by simp) _).setCell (by simp) _
  · have e1 : IntKind.u64.wrap n = (u : Int) := by
      simp only [IntKind.wrap, IntKind.bits, IntKind.signed, Bool.false_and, Bool.false_eq_true, if_false]; omega
    have Hab2 : Hid (mkZ false (a + 4294967296 * b) = canon n) := by rw [decide_eq_false hneg] at Hab; exact Hab
    clear hu
    go_wp2_with (go_at_call 78; go_fit (number_two false a b hal hbl (w.heap.size + 1) _ (by simp) (by simp) (by simp)); rintro e w2 ⟨rfl, hb⟩; rw [Hab2.out]; have Hb2 := Lib.hid (hb.mono (B' := w.heap.size) (by simp; omega)); have HX := Lib.hid (((BoxAt.new w (.bool false) (.string ⟨#[]⟩) 48).alloc _).below hb (by simp; omega)); obtain ⟨f0, f1, f2, f3, _⟩ := HX.out; clear hb)
    refine bodyPost_ret (v := .agg #[.bool (canon n).neg, .string (canon n).mag]) ?_ rfl ⟨rfl, ?_⟩
    · simp [results, Try.results50, go_sem, f0, f1]
    · exact (((((Below.refl _ _).alloc (Nat.le_refl _) _).alloc (by simp) _).trans Hb2.out).setCell (by simp) _).setCell (by simp) _
end Go.Proofs.Ytcafeffgaokiaaa

namespace Go.Proofs.Ytcafeffgaokiaaa
open Go.RowKit

/-- Quotient and remainder by sign. -/
def quoZ (x y : ZI) : ZI := if x.neg = y.neg then mkZ false (absZ x / absZ y) else if absZ x % absZ y = 0 then mkZ true (absZ x / absZ y) else mkZ true (absZ x / absZ y + 1)
def remZ (x y : ZI) : ZI := if x.neg = y.neg then mkZ y.neg (absZ x % absZ y) else if absZ x % absZ y = 0 then mkZ y.neg (absZ x % absZ y) else mkZ y.neg (absZ y - absZ x % absZ y)
def RetDiv (q r : ZI) (w : World) (e : Ending) (w' : World) : Prop := e = .returned (.tuple #[.agg #[.bool q.neg, .string q.mag], .agg #[.bool r.neg, .string r.mag], .int .i64 0]) ∧ Below w.heap.size w w'

theorem add_one (m : Nat) (p : Option Addr) (c g : Nat) (w : World) (hX : NatsAt w p (digs m)) (h1 : DigBlk w g (fun _ => 1) 1) (hm : (digs m).length ≤ 200000000) :
    Calls Try.prog 129 #[.slice p (digs m).length c, .slice (some ⟨g, 0, none⟩) 1 1] w (RetNat (m + 1) w) :=
  add_any m 1 p (some ⟨g, 0, none⟩) c 1 w hX h1.nats hm (by decide)

end Go.Proofs.Ytcafeffgaokiaaa
