/- The walk of integer.short, and of integer.divide for a divisor of one digit. -/
import Derived.Test.YtlkajmdcffemeaaInt6
namespace Go.Proofs.Ytlkajmdcffemeaa
open Go.RowKit

/-- What stands when the digits from i on are divided. -/
def Sh (xs : List Nat) (y i r : Nat) (F : Nat → Nat) : Prop :=
  (∀ j, F j < 4294967296) ∧ r < y ∧ val (xs.drop i) = val ((digList F xs.length).drop i) * y + r
theorem Sh.step {xs : List Nat} {y i r x : Nat} {F : Nat → Nat} (h : Sh xs y (i + 1) r F) (hi : i < xs.length) (hx : xs.getD i 0 = x) (hxl : x < 4294967296) :
    (r * 4294967296 + x) / y < 4294967296 ∧ Sh xs y i ((r * 4294967296 + x) % y) (fun j => if j = i then (r * 4294967296 + x) / y else F j) := by
  obtain ⟨h1, h2, h3⟩ := h
  have hq : (r * 4294967296 + x) / y < 4294967296 := by
    apply Nat.div_lt_of_lt_mul
    have : (r + 1) * 4294967296 ≤ y * 4294967296 := Nat.mul_le_mul_right _ h2
    omega
  refine ⟨hq, ?_, Nat.mod_lt _ (by omega), ?_⟩
  · intro j
    show (if j = i then (r * 4294967296 + x) / y else F j) < 4294967296
    split
    · exact hq
    · exact h1 j
  · rw [val_drop hi, hx, short_step h3 rfl rfl, val_drop_digList hi, if_pos rfl]
    congr 4
    apply congrArg
    apply List.ext_getElem?
    intro j
    simp only [List.getElem?_drop]
    by_cases hj : i + 1 + j < xs.length
    · simp only [digList, List.getElem?_map, List.getElem?_range hj, Option.map_some]
      rw [if_neg (by omega)]
    · simp only [digList, List.getElem?_map]
      rw [List.getElem?_eq_none (by simpa using hj)]; rfl

/-- What integer.short and integer.divide give. -/
def RetNat2 (a b : Nat) (w : World) (e : Ending) (w' : World) : Prop :=
  ∃ p c q d, e = .returned (.tuple #[.slice p (digs a).length c, .slice q (digs b).length d]) ∧ NatsAt w' p (digs a) ∧ (digs a).length ≤ c ∧ c ≤ 1000000000 ∧ NatsAt w' q (digs b) ∧ (digs b).length ≤ d ∧ d ≤ 1000000000 ∧ Below w.heap.size w w'
def RetShort (a b : Nat) (w : World) (e : Ending) (w' : World) : Prop :=
  ∃ p c, e = .returned (.tuple #[.slice p (digs a).length c, .int .u32 (b : Int)]) ∧ NatsAt w' p (digs a) ∧ (digs a).length ≤ c ∧ c ≤ 1000000000 ∧ Below w.heap.size w w'

set_option maxRecDepth 100000 in
set_option maxHeartbeats 4000000 in
theorem short_core (xs : List Nat) (y : Nat) (p : Option Addr) (c : Nat) (w : World) (hX : NatsAt w p xs) (hdx : Dg xs) (hy : 0 < y) (hyl : y < 4294967296) (hx : xs.length ≤ 200000000) {a b : Nat} (ha : val xs / y = a) (hb : val xs % y = b) :
    Calls Try.prog 111 #[.slice p xs.length c, .int .u32 (y : Int)] w (RetShort a b w) := by
  have hmk := make_nats .i64 .i64 xs.length (by omega)
  have HX := Lib.hid hX
  have hD := Lib.hid hdx
  have Ha := Lib.hid ha
  have Hbb := Lib.hid hb
  clear hX hdx ha hb
  go_enter Try.func111, Try.ntmps111
  go_wp2
  go_loopw [7, 8] (fun cv v wr => ∃ (i r : Nat) (F : Nat → Nat), i ≤ xs.length ∧ v = .int .i64 ((i : Int) - 1) ∧ cv = .int .u64 (r : Nat) ∧ Below w.heap.size w wr ∧ Hid (Sh xs y i r F) ∧ Hid (DigBlk wr w.heap.size F xs.length)) (fun _ v _ => (intOf v + 1).toNat)
  case atStart =>
    refine ⟨xs.length, 0, fun _ => 0, by omega, rfl, rfl, (Below.refl _ _).alloc (by simp) _, Lib.hid ⟨fun _ => (by decide : 0 < 4294967296), hy, ?_⟩, Lib.hid (DigBlk.new w xs.length)⟩
    rw [List.drop_of_length_le (Nat.le_refl _), List.drop_of_length_le (by rw [digList_len]; exact Nat.le_refl _)]; simp [val]
  case round =>
    clear hmk
    obtain ⟨i, r, F, hi, rfl, rfl, hb, hW, hB⟩ := hrel
    have Hb := Lib.hid hb
    clear hb
    by_cases hi0 : 0 < i
    · obtain ⟨i, rfl⟩ : ∃ k, i = k + 1 := ⟨i - 1, by omega⟩
      rw [show ((i + 1 : Nat) : Int) - 1 = (i : Int) from by omega]
      have hlt : i < xs.length := by omega
      obtain ⟨b, off, rfl, hbl, hcell⟩ := NatsAt.cells HX.out (k := i) hlt
      have hx1 := hcell i hlt
      rw [← Hb.out.cell (p := ⟨b, _, none⟩) hbl] at hx1
      obtain ⟨x, hxe⟩ : ∃ x, xs.getD i 0 = x := ⟨_, rfl⟩
      rw [hxe] at hx1
      have hxl : x < 4294967296 := by rw [← hxe]; exact hD.out.getD i
      have hst := hW.out.step hlt hxe hxl
      have hc0 := hB.out.cell hlt
      have hf := hB.out.frozen i
      have hrl := hW.out.2.1
      obtain ⟨N, hN⟩ : ∃ N, r * 4294967296 + x = N := ⟨_, rfl⟩
      rw [hN] at hst
      obtain ⟨q, hq⟩ : ∃ q, N / y = q := ⟨_, rfl⟩
      obtain ⟨s, hs⟩ : ∃ s, N % y = s := ⟨_, rfl⟩
      rw [hq, hs] at hst
      have Hst := Lib.hid hst.2
      have hql := hst.1
      have hor : bits .or .u64 ((r : Int) * 4294967296) (x : Int) = (N : Int) := by
        have h1 : ((r : Int) * 4294967296) = ((r * 4294967296 : Nat) : Int) := by simp
        rw [h1, u64_or_nat _ _ (by omega) (by omega), ← hN]
        have h2 := Nat.two_pow_add_eq_or_of_lt (i := 32) (b := x) (by omega) r
        rw [Nat.mul_comm] at h2
        rw [← h2]
      have e1 : (N : Int) / (y : Int) = (q : Int) := by rw [← hq]; simp
      have e2 : (N : Int) % (y : Int) = (s : Int) := by rw [← hs]; simp
      have hNl : N < 18446744073709551616 := by omega
      have e3 : ((y : Int) == 0) = false := by rw [beq_eq_false_iff_ne]; omega
      have e4 : (q : Int) % 4294967296 = (q : Int) := by omega
      clear hst hcell hxe hN hq hs
      go_wp2_with fail
      go_region
      go_wp2
      go_roundw
      case rel =>
        exact ⟨i, s, _, by omega, by go_num, by rw [e2], (Hb.out.setCell (p := ⟨w.heap.size, i, none⟩) (by simp) _).drew, Hst, Lib.hid (DigBlk.drew (hB.out.set (j := i) q))⟩
      case measure => simp [intOf]
    · obtain rfl : i = 0 := by omega
      obtain ⟨h1, h2, h3⟩ := hW.out
      rw [List.drop_zero, List.drop_zero] at h3
      have hq : val (digList F xs.length) = a := by
        rw [← Ha.out, h3, Nat.mul_comm, Nat.mul_add_div hy, Nat.div_eq_of_lt h2]; omega
      have hr : r = b := by
        rw [← Hbb.out, h3, Nat.mul_comm, Nat.mul_add_mod, Nat.mod_eq_of_lt h2]
      have hrl : r < 4294967296 := by omega
      have Hq := Lib.hid hq
      have Hr := Lib.hid hr
      have e4 : (r : Int) % 4294967296 = (r : Int) := by omega
      clear hq hr h3
      go_wp2_with (go_at_call 89; refine (trim_blk (w0 := w) (v := a) hB.out ?_ ?_ Hb.out Hq.out).mono ?_)
      · exact fun j _ => h1 j
      · omega
      · rintro e w2 ⟨p2, c2, rfl, hN, hc1, hc2, hb2⟩
        have HN := Lib.hid hN
        have Hb2 := Lib.hid hb2
        clear hN hb2
        go_wp2
        refine bodyPost_ret (v := .tuple #[.slice p2 (digs a).length c2, .int .u32 (b : Int)]) ?_ rfl ⟨p2, c2, rfl, HN.out, hc1, hc2, Hb2.out⟩
        simp [results, Try.results111, go_sem, Hr.out]

theorem DigBlk.one (w : World) (r : Nat) : DigBlk (w.alloc (.cells #[.int .u32 (r : Int)] 93)) w.heap.size (fun _ => r) 1 := by
  unfold DigBlk
  rw [heap_alloc_new]
  rfl

set_option maxRecDepth 100000 in
set_option maxHeartbeats 4000000 in
theorem divide_short (m n : Nat) (p q : Option Addr) (c d : Nat) (w : World) (hX : NatsAt w p (digs m)) (hY : NatsAt w q (digs n)) (hm : (digs m).length ≤ 100000000) (hcm : (digs m).length ≤ c) (hc : c ≤ 1000000000) (h0 : n ≠ 0) (hn : n < 4294967296) :
    Calls Try.prog 100 #[.slice p (digs m).length c, .slice q (digs n).length d] w (RetNat2 (m / n) (m % n) w) := by
  have hdn : digs n = [n] := by
    have := digs_cons hn (.inl h0) (m := 0)
    simpa [digs_zero] using this
  have HX := Lib.hid hX
  have HY := Lib.hid hY
  have hdl : (digs n).length = 1 := by rw [hdn]; rfl
  have hy1 := (NatsAt.cells hY (k := 0) (by omega))
  obtain ⟨b, off, rfl, hbl, hcell⟩ := hy1
  have hyc := hcell 0 (by omega)
  rw [hdn] at hyc
  simp only [List.getD_cons_zero, Nat.add_zero] at hyc
  have hcc := compare_any m n p (some ⟨b, off, none⟩) c d w hX hY hm (by omega)
  rw [hdl] at hcc ⊢
  have HC := Lib.hid hcc
  clear hX hY hcell hdn hcc hdl
  go_enter Try.func100, Try.ntmps100
  by_cases hlt : m < n
  · have hv1 : cmpN m n = -1 := if_pos hlt
    have hq : m / n = 0 := Nat.div_eq_of_lt hlt
    have hr : m % n = m := Nat.mod_eq_of_lt hlt
    have Hv1 := Lib.hid hv1
    have Hq := Lib.hid hq
    have Hr := Lib.hid hr
    clear hv1 hq hr
    go_wp2_with (go_at_call 109; refine HC.out.mono ?_; rintro e w' ⟨rfl, hd⟩; have Hd := Lib.hid hd; clear hd; rw [Hv1.out])
    refine bodyPost_ret (v := .tuple #[.slice none 0 0, .slice p (digs m).length c]) ?_ rfl ?_
    · simp [results, Try.results100, go_sem]
    · rw [Hq.out, Hr.out]
      exact ⟨none, 0, p, c, rfl, .inl rfl, Nat.le_refl _, by decide, HX.out.below (Nat.le_refl _) (Drawn.below Hd.out _), hcm, hc, Drawn.below Hd.out _⟩
  · have hv1 : ¬ cmpN m n < 0 := by unfold cmpN; rw [if_neg hlt]; split <;> decide
    obtain ⟨C, hC⟩ : ∃ C, cmpN m n = C := ⟨_, rfl⟩
    rw [hC] at hv1
    have HCC := Lib.hid hC
    have hpos : 0 < n := by omega
    have hmod : m % n < 4294967296 := Nat.lt_trans (Nat.mod_lt _ hpos) hn
    obtain ⟨a, ha⟩ : ∃ a, m / n = a := ⟨_, rfl⟩
    obtain ⟨r, hr⟩ : ∃ r, m % n = r := ⟨_, rfl⟩
    rw [hr] at hmod
    rw [ha, hr]
    have Ha := Lib.hid ha
    have Hr := Lib.hid hr
    clear hC ha hr
    go_wp2_with first
      | (go_at_call 109; refine HC.out.mono ?_; rintro e w1 ⟨rfl, hd⟩; have Hd := Lib.hid hd; have Hyc := (Hd.out.cell ⟨b, off, none⟩).trans hyc; rw [HCC.out]; clear hd)
      | (go_at_call 111; refine (short_core (digs m) n p c w1 (HX.out.below (Nat.le_refl _) (Drawn.below Hd.out _)) (dg_digs m) hpos hn (by omega) (a := a) (b := r) (by rw [val_digs]; exact Ha.out) (by rw [val_digs]; exact Hr.out)).mono ?_; rintro e w2 ⟨p2, c2, rfl, hN, hc1, hc2, hb2⟩; have HN := Lib.hid hN; have Hb2 := Lib.hid hb2; clear hN hb2)
      | (go_at_call 89; refine (trim_blk (F := fun _ => r) (w0 := w2) (v := r) (DigBlk.one w2 r) (fun _ _ => hmod) (by decide) ((Below.refl _ _).alloc (Nat.le_refl _) _) (by simp [digList, val])).mono ?_; rintro e w3 ⟨p3, c3, rfl, hN3, hc3, hc4, hb3⟩; have HN3 := Lib.hid hN3; have Hb3 := Lib.hid hb3; clear hN3 hb3)
    have hs1 := Hb2.out.size
    have hs0 : w1.heap.size = w.heap.size := by rw [Drawn.heap Hd.out]
    refine bodyPost_ret (v := .tuple #[.slice p2 (digs a).length c2, .slice p3 (digs r).length c3]) ?_ rfl ?_
    · simp [results, Try.results100, go_sem]
    · exact ⟨p2, c2, p3, c3, rfl, HN.out.below (Nat.le_refl _) Hb3.out, hc1, hc2, HN3.out, hc3, hc4, ((Drawn.below Hd.out _).trans (Hb2.out.mono (by omega))).trans (Hb3.out.mono (by omega))⟩
end Go.Proofs.Ytlkajmdcffemeaa
