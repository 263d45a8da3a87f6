/- The walk of integer.divide for a divisor of several digits. -/
import Derived.Test.YtcafeffgaokiaaaJ26
import Derived.Test.YtcafeffgaokiaaaShelfA
import Derived.Deep.CutBlock
import Derived.Deep.QuietTactic
namespace Go.Proofs.Ytcafeffgaokiaaa
open Go.RowKit
theorem lz_bit {d : Nat} (h0 : 0 < d) (h : d < 4294967296) : Lib.bitLen d = Nat.log2 d + 1 := by
  have h1 := Nat.log2_self_le (show d ≠ 0 by omega)
  have h2 : d < 2 ^ (Nat.log2 d + 1) := Nat.lt_log2_self
  rw [Lib.bitLen_shift (Nat.log2 d) d h1 (by omega)]
  have h3 : d / 2 ^ Nat.log2 d = 1 := by
    refine Nat.div_eq_of_lt_le (by omega) ?_
    rw [Nat.pow_succ] at h2
    omega
  rw [h3, show Lib.bitLen 1 = 1 from by decide]
theorem digs_two {n : Nat} (h : 4294967296 ≤ n) : 2 ≤ (digs n).length := by
  rw [digs_pos (by omega), digs_pos (by omega)]
  simp
theorem DigBlk.drawn {w w' : World} {g n : Nat} {F : Nat → Nat} (h : DigBlk w g F n) (hd : Drawn w w') : DigBlk w' g F n := by obtain ⟨k, rfl⟩ := hd; exact h
theorem DigBlk.far {w : World} {g n : Nat} {F : Nat → Nat} (h : DigBlk w g F n) (p : Addr) (v : Value) (hp : g ≠ p.block) : DigBlk (w.setCell p v) g F n := by
  unfold DigBlk at *
  rw [Below.heap_setCell _ _ _ _ hp]; exact h
theorem or_sh {s x n : Nat} (hn : n ≤ 32) (hs : s < 2 ^ (32 - n)) (hx : x < 4294967296) : bits .or .u32 (s : Int) ((x : Int) * 2 ^ (32 - n) % 4294967296) = ((s + x % 2 ^ n * 2 ^ (32 - n) : Nat) : Int) := by
  have h1 := two32 hn
  have h2 : x * 2 ^ (32 - n) % 4294967296 = x % 2 ^ n * 2 ^ (32 - n) := by
    rw [← h1, Nat.mul_comm (2 ^ (32 - n)) (2 ^ n), Nat.mul_mod_mul_right]
  have h3 : ((x : Int) * 2 ^ (32 - n) % 4294967296) = ((x * 2 ^ (32 - n) % 4294967296 : Nat) : Int) := by simp
  have h4 : x * 2 ^ (32 - n) % 4294967296 < 4294967296 := Nat.mod_lt _ (by decide)
  have h5 : 2 ^ (32 - n) ≤ 4294967296 := Nat.le_trans (Nat.pow_le_pow_right (by decide) (by omega)) (show 2 ^ 32 ≤ 4294967296 by decide)
  rw [h3, u32_or_nat _ _ (by omega) h4, h2]
  congr 1
  rw [Nat.or_comm, Nat.mul_comm (x % 2 ^ n), ← Nat.two_pow_add_eq_or_of_lt hs]
  omega
set_option maxRecDepth 100000 in
set_option maxHeartbeats 16000000 in
theorem divide_long (a b : Nat) (p q : Option Addr) (c d : Nat) (w : World) (hX : NatsAt w p (digs a)) (hY : NatsAt w q (digs b)) (hm : (digs a).length ≤ 100000000) (hle : b ≤ a) (hb : 4294967296 ≤ b) :
    Calls Try.prog 128 #[.slice p (digs a).length c, .slice q (digs b).length d] w (RetNat2 (a / b) (a % b) w) := by
  have hM2 := digs_two hb
  have hlb := digs_len_le hle
  have hcc := compare_any a b p q c d w hX hY hm (by omega)
  have hcv : ¬ cmpN a b < 0 := by unfold cmpN; rw [if_neg (by omega)]; split <;> decide
  obtain ⟨C, hC⟩ : ∃ C, cmpN a b = C := ⟨_, rfl⟩
  rw [hC] at hcv hcc
  obtain ⟨nn, hn1, hn2, hn3, hn4⟩ := lz_ex (Nat.pos_of_ne_zero (digs_last (show b ≠ 0 by omega))) ((dg_digs b).getD _)
  have hlz := lz_bit (Nat.pos_of_ne_zero (digs_last (show b ≠ 0 by omega))) ((dg_digs b).getD _)
  obtain ⟨M, hM⟩ : ∃ M, (digs b).length = M := ⟨_, rfl⟩
  obtain ⟨L, hL⟩ : ∃ M, (digs a).length = M := ⟨_, rfl⟩
  obtain ⟨yb, yo, rfl, hyl, hyc⟩ := NatsAt.cells hY (k := M - 1) (by omega)
  have y0 := hyc (M - 1) (by omega)
  have hsv := shV (dg_digs b) hM (by omega) (by rw [← hM]; exact hn2) (by rw [← hM]; exact hn3) hn1
  rw [hM] at hM2 hlb hlz hn2 hn3 hn4
  obtain ⟨yt, hyt⟩ : ∃ z, (digs b).getD (M - 1) 0 = z := ⟨_, rfl⟩
  have hytl : yt < 4294967296 := by rw [← hyt]; exact (dg_digs b).getD _
  rw [hyt] at y0 hlz hn2 hn3 hn4
  rw [hL] at hlb hm
  have HSx := Lib.hid (fun W (hW : Below w.heap.size w W) => shift_any (digs a) nn p c W (hX.below (Nat.le_refl _) hW) (dg_digs a) hn1 (by omega))
  have HSy := Lib.hid (fun W (hW : Below w.heap.size w W) => shift_any (digs b) nn _ d W (hY.below (Nat.le_refl _) hW) (dg_digs b) hn1 (by omega))
  rw [hL] at HSx hcc ⊢
  rw [hM] at HSy hcc ⊢
  unfold RetShift at HSx HSy
  rw [hL] at HSx
  rw [hM] at HSy
  have hst := KInv.start (xs := digs a) (G := shU (digs b) nn) (dg_digs a) (m := M) (l := L + 1 - M) hn1 (by omega) hsv.2.1 (by omega)
  rw [val_digs] at hst hsv
  obtain ⟨G, hG⟩ : ∃ G, shU (digs b) nn = G := ⟨_, rfl⟩
  obtain ⟨F0, hF0⟩ : ∃ G, shU (digs a) nn = G := ⟨_, rfl⟩
  have HGl := Lib.hid (fun k => shU_lt (digs b) nn k)
  rw [hG] at hst hsv HSy HGl
  rw [hF0] at hst HSx
  have hG0 : G M = 0 := by
    rw [← hG]
    have h := shU_last (dg_digs b) hn1
    rw [hM, hsv.2.2] at h
    exact h
  have HGM := Lib.hid hG0
  have HV := Lib.hid hsv.1
  have HGt := Lib.hid hsv.2.1
  have HSt := Lib.hid hst
  obtain ⟨l, hl⟩ : ∃ l, L + 1 - M = l := ⟨_, rfl⟩
  rw [hl] at HSt
  have Hl := Lib.hid (show l + M = L + 1 by omega)
  have Hlz : Hid (Lib.bitLen yt = 32 - nn) := Lib.hid (by omega)
  obtain ⟨m1, hm1⟩ : ∃ k, M - 1 = k := ⟨_, rfl⟩
  have hm1e : M = m1 + 1 := by omega
  have m1e : (M : Int) - 1 = (m1 : Int) := by omega
  have hL8 : L ≤ 100000000 := hm
  have hl8 : l ≤ 100000001 := by omega
  have hM8 : M ≤ 100000000 := by omega
  rw [hm1] at y0
  have HC := Lib.hid hcc
  have Hm1e := Lib.hid hm1e
  have b0 : ((M : Int) == 1) = false := by rw [beq_eq_false_iff_ne]; omega
  have b1 : ¬ (M : Int) = 1 := by omega
  have m1l : (0 : Int) ≤ (m1 : Int) := by omega
  have m1u : m1 < M := by omega
  have hnL : 0 ≤ nn := Nat.zero_le _
  have HXD := Lib.hid (show ∃ A B : Nat, a / b = A ∧ a % b = B from ⟨_, _, rfl, rfl⟩)
  clear hX hY hcc hC hn2 hn3 hn4 hlz hyc hsv hst hG hF0 hG0 hM hL hyt hl hm hle hm1 hm1e hyl
  go_enter Try.func128, Try.ntmps128
  go_wp2_with fail
  refine HC.out.mono ?_
  rintro e w1 ⟨rfl, hd⟩
  dsimp only
  have y1 := (hd.cell _).trans y0
  have Hd := Lib.hid hd
  clear hd y0 HC
  go_wp2_with (go_at_call 145; go_fit (Try.bits_LeadingZeros32 (yt : Int) _ (by omega) (by omega)); rintro e w2 ⟨rfl, rfl⟩; rw [Int.toNat_natCast, Hlz.out, show (32 : Int) - ((32 - nn : Nat) : Int) = (nn : Int) from by omega])
  obtain ⟨X, hX⟩ : ∃ Z, w2 = Z := ⟨_, rfl⟩
  rw [hX] at Hd ⊢
  clear hX y1
  have hbX : Below w.heap.size w X := Drawn.below Hd.out _
  obtain ⟨SS, hSe⟩ : ∃ SS : World → Prop, SS = fun _ => True := ⟨_, rfl⟩
  have HS : Hid (∀ W, Below X.heap.size X W → SS W) := Lib.hid (fun W _ => by rw [hSe]; trivial)
  have hd : Below X.heap.size X X.drew := (Below.refl _ _).drew
  have HXw := Lib.hid hbX
  have hmk := make_nats .i64 .i64 l (by omega)
  have l1 : (L : Int) + 1 - (M : Int) = (l : Int) := by have := Hl.out; omega
  have l2 : ((L + 1 : Nat) : Int) - (M : Int) = (l : Int) := by have := Hl.out; omega
  have mM : (M : Int) ≤ (M : Int) + 1 := by omega
  clear hbX Hd
  refine wp_region_held_drew (S := SS) (by kernel_rfl) (HS.out _ hd) (fun hSS => ?_)
  refine wpAnyH_take (i := 0) (v := ?_) rfl (by kernel_rfl) (by kernel_rfl) (by kernel_rfl) (fun _ _ _ h => h) (Or.inl ⟨by rfl, ?_⟩) (HS.out _ hd) ?_
  rotate_left 1
  next => intro w hSw; rw [hSe] at hSw; have s1 := hSw; go_simp; try with_reducible rfl
  try simp only [Act.put, List.getElem_toArray, List.getElem_cons_zero, List.getElem_cons_succ, List.setIfInBounds_toArray, List.set_cons_zero, List.set_cons_succ]
  refine wpAnyH_take (i := 1) (v := ?_) rfl (by kernel_rfl) (by kernel_rfl) (by kernel_rfl) (fun _ _ _ h => h) (Or.inl ⟨by rfl, ?_⟩) (HS.out _ hd) ?_
  rotate_left 1
  next => intro w hSw; rw [hSe] at hSw; have s1 := hSw; go_simp; try with_reducible rfl
  try simp only [Act.put, List.getElem_toArray, List.getElem_cons_zero, List.getElem_cons_succ, List.setIfInBounds_toArray, List.set_cons_zero, List.set_cons_succ]
  refine wpAnyH_take (i := 3) (v := ?_) rfl (by kernel_rfl) (by kernel_rfl) (by kernel_rfl) (fun _ _ _ h => h) (Or.inl ⟨by rfl, ?_⟩) (HS.out _ hd) ?_
  rotate_left 1
  next => intro w hSw; rw [hSe] at hSw; have s1 := hSw; go_simp; try with_reducible rfl
  try simp only [Act.put, List.getElem_toArray, List.getElem_cons_zero, List.getElem_cons_succ, List.setIfInBounds_toArray, List.set_cons_zero, List.set_cons_succ]
  refine wpAnyH_take (i := 4) (v := ?_) rfl (by kernel_rfl) (by kernel_rfl) (by kernel_rfl) (fun _ _ _ h => h) (Or.inl ⟨by rfl, ?_⟩) (HS.out _ hd) ?_
  rotate_left 1
  next => intro w hSw; rw [hSe] at hSw; have s1 := hSw; go_simp; try with_reducible rfl
  try simp only [Act.put, List.getElem_toArray, List.getElem_cons_zero, List.getElem_cons_succ, List.setIfInBounds_toArray, List.set_cons_zero, List.set_cons_succ]
  refine wpAnyH_take (i := 6) (v := ?_) rfl (by kernel_rfl) (by kernel_rfl) (by kernel_rfl) (fun _ _ _ h => h) (Or.inl ⟨by rfl, ?_⟩) (HS.out _ hd) ?_
  rotate_left 1
  next => intro w hSw; rw [hSe] at hSw; have s1 := hSw; go_simp; try with_reducible rfl
  try simp only [Act.put, List.getElem_toArray, List.getElem_cons_zero, List.getElem_cons_succ, List.setIfInBounds_toArray, List.set_cons_zero, List.set_cons_succ]
  refine wpAnyH_take (i := 7) (v := ?_) rfl (by kernel_rfl) (by kernel_rfl) (by kernel_rfl) (fun _ _ _ h => h) (Or.inl ⟨by rfl, ?_⟩) (HS.out _ hd) ?_
  rotate_left 1
  next => intro w hSw; rw [hSe] at hSw; have s1 := hSw; go_simp; try with_reducible rfl
  try simp only [Act.put, List.getElem_toArray, List.getElem_cons_zero, List.getElem_cons_succ, List.setIfInBounds_toArray, List.set_cons_zero, List.set_cons_succ]
  try simp only [Act.put, List.getElem_toArray, List.getElem_cons_zero, List.getElem_cons_succ, List.setIfInBounds_toArray, List.set_cons_zero, List.set_cons_succ]
  refine wpAnyH_ready (rs := [2]) (by kernel_rfl) (by simp) ?_
  refine AllReadyH.cons rfl (fun K hK => ?_) AllReadyH.nil
  go_simp
  refine (HSx.out _ (HXw.out.trans (hd.mono HXw.out.size))).mono ?_
  rintro e w1 ⟨gu, rfl, hgu, hu, hbc⟩
  have hb1 : Below X.heap.size X w1 := hd.trans (hbc.mono hd.size)
  dsimp only
  have hu1 := hu
  refine hK.out _ _ (HS.out _ hb1) (fun _ => ?_)
  clear hK K hbc
  try simp only [Act.put, List.getElem_toArray, List.getElem_cons_zero, List.getElem_cons_succ, List.setIfInBounds_toArray, List.set_cons_zero, List.set_cons_succ]
  refine wpAnyH_ready (rs := [5]) (by kernel_rfl) (by simp) ?_
  refine AllReadyH.cons rfl (fun K hK => ?_) AllReadyH.nil
  go_simp
  refine (HSy.out _ (HXw.out.trans (hb1.mono HXw.out.size))).mono ?_
  rintro e w2 ⟨gv, rfl, hgv, hv, hbc⟩
  have hb2 : Below X.heap.size X w2 := hb1.trans (hbc.mono hb1.size)
  dsimp only
  have hu2 := hu1.below hbc hu1.lt
  have hne : gu < gv := Nat.lt_of_lt_of_le hu1.lt hgv
  clear hu1 hu
  refine hK.out _ _ (HS.out _ hb2) (fun _ => ?_)
  clear hK K hbc
  refine wpAnyH_take (i := 8) (v := ?_) rfl (by kernel_rfl) (by kernel_rfl) (by kernel_rfl) (fun _ _ _ h => h) (Or.inl ⟨by rfl, ?_⟩) (HS.out _ hb2) ?_
  rotate_left 1
  next => intro w hSw; rw [hSe] at hSw; have s1 := hSw; go_simp; try with_reducible rfl
  try simp only [Act.put, List.getElem_toArray, List.getElem_cons_zero, List.getElem_cons_succ, List.setIfInBounds_toArray, List.set_cons_zero, List.set_cons_succ]
  refine wpAnyH_take (i := 9) (v := ?_) rfl (by kernel_rfl) (by kernel_rfl) (by kernel_rfl) (fun _ _ _ h => h) (Or.inl ⟨by rfl, ?_⟩) (HS.out _ hb2) ?_
  rotate_left 1
  next => intro w hSw; rw [hSe] at hSw; have s1 := hSw; go_simp; try with_reducible rfl
  try simp only [Act.put, List.getElem_toArray, List.getElem_cons_zero, List.getElem_cons_succ, List.setIfInBounds_toArray, List.set_cons_zero, List.set_cons_succ]
  refine wpAnyH_take (i := 10) (v := ?_) rfl (by kernel_rfl) (by kernel_rfl) (by kernel_rfl) (fun _ _ _ h => h) (Or.inl ⟨by rfl, ?_⟩) (HS.out _ hb2) ?_
  rotate_left 1
  next => intro w hSw; rw [hSe] at hSw; have s1 := hSw; go_simp; try with_reducible rfl
  try simp only [Act.put, List.getElem_toArray, List.getElem_cons_zero, List.getElem_cons_succ, List.setIfInBounds_toArray, List.set_cons_zero, List.set_cons_succ]
  refine wpAnyH_done (by kernel_rfl) ?_ _
  have hB := HXw.out.trans (hb2.mono HXw.out.size)
  have hgX : X.heap.size ≤ gu := Nat.le_trans hd.size hgu
  have hguw : w.heap.size ≤ gu := Nat.le_trans HXw.out.size hgX
  have HU := Lib.hid hu2
  have HVv := Lib.hid hv
  have HB := Lib.hid hB
  clear HS hSe hSS hd hu2 hv hB HSx HSy HXw hgX hgu hgv
  generalize w2 = Y at *
  go_wp2_with fail
  obtain ⟨gq, hgq⟩ : ∃ g, Y.heap.size = g := ⟨_, rfl⟩
  have hal := (Below.refl Y.heap.size Y).alloc (Nat.le_refl _) (.cells (madeCells #[.int .u32 0] l) 133)
  have U0 := Lib.hid (HU.out.below hal HU.out.lt)
  have V0 := Lib.hid (HVv.out.below hal HVv.out.lt)
  have Q0 := Lib.hid (DigBlk.new Y l)
  have B0 := Lib.hid (HB.out.trans (hal.mono HB.out.size))
  have hvq : gv < gq := by rw [← hgq]; exact HVv.out.lt
  rw [hgq] at Q0 ⊢
  clear hmk hal HU HVv HB hgq l1 l2 mM
  generalize Y.alloc (.cells (madeCells #[.int .u32 0] l) 133) = W0 at *
  obtain ⟨m2, hm2⟩ : ∃ k, M - 2 = k := ⟨_, rfl⟩
  have m2e : (M : Int) - 2 = (m2 : Int) := by omega
  have m2l : (0 : Int) ≤ (m2 : Int) := by omega
  have Hm2 : Hid (M = m2 + 2) := Lib.hid (by omega)
  obtain ⟨v1, hv1⟩ : ∃ k, G m1 = k := ⟨_, rfl⟩
  obtain ⟨v2, hv2⟩ : ∃ k, G m2 = k := ⟨_, rfl⟩
  have v1l : 2147483648 ≤ v1 := by have := HGt.out; rw [show M - 1 = m1 from by have := Hm1e.out; omega, hv1] at this; exact this
  have v1u : v1 < 4294967296 := by rw [← hv1]; exact HGl.out m1
  have v2u : v2 < 4294967296 := by rw [← hv2]; exact HGl.out m2
  have Hv1 := Lib.hid hv1
  have Hv2 := Lib.hid hv2
  have v10 : ((v1 : Int) == 0) = false := by rw [beq_eq_false_iff_ne]; omega
  have v1n : ¬ v1 = 0 := by omega
  clear hv1 hv2 hm2
  go_loopw [13] (fun jv wr => ∃ (i : Nat) (F Q : Nat → Nat), i ≤ l ∧ jv = .int .i64 ((i : Int) - 1) ∧ Hid (KInv (a * 2 ^ nn) G M l F Q i) ∧ Hid (DigBlk wr gu F (L + 1)) ∧ Hid (DigBlk wr gv G (M + 1)) ∧ Hid (DigBlk wr gq Q l) ∧ Hid (Below w.heap.size w wr)) (fun v _ => (intOf v + 1).toNat)
  case atStart => exact ⟨l, F0, _, Nat.le_refl _, rfl, HSt, U0, V0, Q0, B0⟩
  case round =>
    clear HSt U0 V0 Q0 B0
    obtain ⟨i, F, Q, hi, rfl, HI, HU, HW, HQ, HB⟩ := hrel
    by_cases hi0 : 0 < i
    · obtain ⟨j, rfl⟩ : ∃ k, i = k + 1 := ⟨i - 1, by omega⟩
      rw [show ((j + 1 : Nat) : Int) - 1 = (j : Int) from by omega]
      have hj : j < l := by omega
      have j0 : (0 : Int) ≤ (j : Int) := by omega
      have HK := Lib.hid (HI.out.kst hM2 HGl.out HGt.out)
      obtain ⟨a0, ha0⟩ : ∃ k, j + M = k := ⟨_, rfl⟩
      have hlM := Hl.out
      have a0e : (j : Int) + (M : Int) = (a0 : Int) := by omega
      have a0u : a0 < L + 1 := by omega
      have a0l : 2 ≤ a0 := by omega
      obtain ⟨a1, ha1⟩ : ∃ k, a0 - 1 = k := ⟨_, rfl⟩
      obtain ⟨a2, ha2⟩ : ∃ k, a0 - 2 = k := ⟨_, rfl⟩
      have a1e : (a0 : Int) - 1 = (a1 : Int) := by omega
      have a2e : (a0 : Int) - 2 = (a2 : Int) := by omega
      have a0i : (a0 : Int) < (L : Int) + 1 := by omega
      have a1i : (a1 : Int) < (L : Int) + 1 := by omega
      have a2i : (a2 : Int) < (L : Int) + 1 := by omega
      have m1i : (m1 : Int) < (M : Int) := by omega
      have m2i : (m2 : Int) < (M : Int) := by have := Hm2.out; omega
      have x0 := HU.out.cell a0u
      have x1 := HU.out.cell (show a1 < L + 1 by omega)
      have x2 := HU.out.cell (show a2 < L + 1 by omega)
      have z1 := HW.out.cell (show m1 < M + 1 by omega)
      have z2 := HW.out.cell (show m2 < M + 1 by omega)
      rw [Hv1.out] at z1
      rw [Hv2.out] at z2
      obtain ⟨t1, ht1⟩ : ∃ k, F a0 = k := ⟨_, rfl⟩
      obtain ⟨t0, ht0⟩ : ∃ k, F a1 = k := ⟨_, rfl⟩
      obtain ⟨u2, hu2⟩ : ∃ k, F a2 = k := ⟨_, rfl⟩
      have t1u : t1 < 4294967296 := by rw [← ht1]; exact HK.out.hF _
      have t0u : t0 < 4294967296 := by rw [← ht0]; exact HK.out.hF _
      have u2u : u2 < 4294967296 := by rw [← hu2]; exact HK.out.hF _
      rw [ht1] at x0
      rw [ht0] at x1
      rw [hu2] at x2
      obtain ⟨T, hT⟩ : ∃ k, t1 * 4294967296 + t0 = k := ⟨_, rfl⟩
      obtain ⟨g0, hg0⟩ : ∃ k, T / v1 = k := ⟨_, rfl⟩
      obtain ⟨r0, hr0⟩ : ∃ k, T % v1 = k := ⟨_, rfl⟩
      have hr0l : r0 < 4294967296 := by rw [← hr0]; exact Nat.lt_trans (Nat.mod_lt _ (by omega)) v1u
      have hst := HK.out.start
      rw [ha0, ha1, show M - 1 = m1 from by have := Hm1e.out; omega, ht1, ht0, Hv1.out, hT, hg0, hr0] at hst
      have hg0l := hst.2.2
      have HG0 := Lib.hid hst
      have hor : bits .or .u64 ((t1 : Int) * 4294967296) (t0 : Int) = (T : Int) := by
        have h1 : ((t1 : Int) * 4294967296) = ((t1 * 4294967296 : Nat) : Int) := by simp
        rw [h1, u64_or_nat _ _ (by omega) (by omega), ← hT]
        have h2 := Nat.two_pow_add_eq_or_of_lt (i := 32) (b := t0) (by omega) t1
        rw [Nat.mul_comm] at h2
        rw [← h2]
      have hTl : T < 18446744073709551616 := by omega
      have e1 : (T : Int) / (v1 : Int) = (g0 : Int) := by rw [← hg0]; simp
      have e2 : (T : Int) % (v1 : Int) = (r0 : Int) := by rw [← hr0]; simp
      have e3 : (T : Int).tdiv (v1 : Int) = (g0 : Int) := by rw [Int.tdiv_eq_ediv_of_nonneg (by omega)]; exact e1
      have e4 : (T : Int).tmod (v1 : Int) = (r0 : Int) := by rw [Int.tmod_eq_emod_of_nonneg (by omega)]; exact e2
      have Hidx := Lib.hid (show j + M = a0 ∧ a0 - 1 = a1 ∧ a0 - 2 = a2 ∧ F a0 = t1 ∧ F a1 = t0 ∧ F a2 = u2 ∧ t1 * 4294967296 + t0 = T ∧ M - 1 = m1 ∧ M - 2 = m2 from ⟨ha0, ha1, ha2, ht1, ht0, hu2, hT, by have := Hm1e.out; omega, by have := Hm2.out; omega⟩)
      clear ha0 ha1 ha2 ht1 ht0 hu2 hT hg0 hr0 hst hlM hi hi0 m1i m2i
      have m1i : (m1 : Int) < (M : Int) := by omega
      have m2i : (m2 : Int) < (M : Int) := by have := Hm2.out; omega
      go_upto_region 13 with (fail)
      go_wp2_with fail
      go_quiet (fail)
      go_wp2_with fail
      go_quiet (fail)
      generalize wr = V at *
      have He5 : Hid (G (M - 2) = v2) := Lib.hid (by rw [Hidx.out.2.2.2.2.2.2.2.2]; exact Hv2.out)
      have He6 : Hid (F (j + M - 2) = u2) := Lib.hid (by rw [Hidx.out.1, Hidx.out.2.2.1]; exact Hidx.out.2.2.2.2.2.1)
      go_upto_block 2 with (fail)
      go_cut [15] (fun gv wx => ∃ g : Nat, gv = .int .u64 (g : Nat) ∧ Hid (KGe F G j M g) ∧ Hid (Drawn V wx))
      case first =>
        go_wp2_with fail
        go_loopw [15, 16] (fun gv rv wr => ∃ g r : Nat, gv = .int .u64 (g : Nat) ∧ rv = .int .u64 (r : Nat) ∧ r < 4294967296 ∧ Hid (KGs F G j M g r) ∧ Hid (Drawn V wr)) (fun gv _ _ => (intOf gv).toNat)
        case atStart => exact ⟨g0, r0, rfl, rfl, hr0l, HG0, Lib.hid (((Drawn.refl V).drewN _).drewN _)⟩
        case round =>
          clear HG0 hor hTl e1 e2 e3 e4
          obtain ⟨g, r, rfl, rfl, hrl, HGs, HD⟩ := hrel
          have x2' := (HD.out.cell _).trans x2
          have z1' := (HD.out.cell _).trans z1
          have z2' := (HD.out.cell _).trans z2
          have hgl := HGs.out.2.2
          clear x0 x1 x2 z1 z2
          by_cases hA : 4294967296 ≤ g
          · have hA1 : (g : Int) ≥ 4294967296 := by omega
            have hA2 : decide (4294967296 ≤ g) = true := decide_eq_true hA
            have hdec := HGs.out.dec HK.out (.inl hA)
            obtain ⟨hgp, hgs⟩ := hdec
            rw [Hidx.out.2.2.2.2.2.2.2.1, Hv1.out] at hgs
            obtain ⟨g', hg'⟩ : ∃ k, g - 1 = k := ⟨_, rfl⟩
            obtain ⟨r', hr'⟩ : ∃ k, r + v1 = k := ⟨_, rfl⟩
            rw [hg', hr'] at hgs
            have d1 : (g : Int) - 1 = (g' : Int) := by omega
            have d2 : (r : Int) + (v1 : Int) = (r' : Int) := by omega
            have d3 : r' < 8589934592 := by omega
            have d4 : g' < g := by omega
            have Hgs2 := Lib.hid hgs
            
            clear hgs hg' hr' hgp
            go_upto_region 15 with (fail)
            go_quiet (fail)
            by_cases hB : 4294967296 ≤ r'
            · have hB1 : (r' : Int) ≥ 4294967296 := by omega
              go_wp2_with fail
              go_meet
              exact ⟨g', rfl, Lib.hid (Hgs2.out.done HK.out (.inl hB)), Lib.hid (HD.out.drewN _)⟩
            · have hB1 : ¬ (r' : Int) ≥ 4294967296 := by omega
              go_wp2_with fail
              go_roundw
              case rel => exact ⟨g', r', rfl, rfl, by omega, Hgs2, Lib.hid (HD.out.drewN _)⟩
              case measure => simp [intOf]; omega
          · have hA1 : ¬ (g : Int) ≥ 4294967296 := by omega
            have hA2 : decide (4294967296 ≤ g) = false := decide_eq_false hA
            have hgv : g * v2 ≤ 4294967295 * 4294967295 := Nat.mul_le_mul (by omega) (by omega)
            obtain ⟨gv', hgv'⟩ : ∃ k, g * v2 = k := ⟨_, rfl⟩
            obtain ⟨R, hR⟩ : ∃ k, r * 4294967296 + u2 = k := ⟨_, rfl⟩
            have f1 : (g : Int) * (v2 : Int) = (gv' : Int) := by rw [← hgv']; simp
            have f2 : bits .or .u64 ((r : Int) * 4294967296) (u2 : Int) = (R : Int) := by
              have h1 : ((r : Int) * 4294967296) = ((r * 4294967296 : Nat) : Int) := by simp
              rw [h1, u64_or_nat _ _ (by omega) (by omega), ← hR]
              have h2 := Nat.two_pow_add_eq_or_of_lt (i := 32) (b := u2) (by omega) r
              rw [Nat.mul_comm] at h2
              rw [← h2]
            have f3 : gv' < 18446744073709551616 := by omega
            have f4 : R < 18446744073709551616 := by omega
            have Hgr := Lib.hid (show g * v2 = gv' ∧ r * 4294967296 + u2 = R from ⟨hgv', hR⟩)
            clear hgv hgv' hR
            by_cases hC : R < gv'
            · have hC1 : (gv' : Int) > (R : Int) := by omega
              have hC2 : decide (R < gv') = true := decide_eq_true hC
              have hdec := HGs.out.dec HK.out (.inr (by rw [He5.out, He6.out, Hgr.out.1, Hgr.out.2]; exact hC))
              obtain ⟨hgp, hgs⟩ := hdec
              rw [Hidx.out.2.2.2.2.2.2.2.1, Hv1.out] at hgs
              obtain ⟨g', hg'⟩ : ∃ k, g - 1 = k := ⟨_, rfl⟩
              obtain ⟨r', hr'⟩ : ∃ k, r + v1 = k := ⟨_, rfl⟩
              rw [hg', hr'] at hgs
              have d1 : (g : Int) - 1 = (g' : Int) := by omega
              have d2 : (r : Int) + (v1 : Int) = (r' : Int) := by omega
              have d3 : r' < 8589934592 := by omega
              have d4 : g' < g := by omega
              have Hgs2 := Lib.hid hgs
              
              clear hgs hg' hr' hgp
              go_upto_region 15 with (fail)
              go_quiet (fail)
              by_cases hB : 4294967296 ≤ r'
              · have hB1 : (r' : Int) ≥ 4294967296 := by omega
                go_wp2_with fail
                go_meet
                exact ⟨g', rfl, Lib.hid (Hgs2.out.done HK.out (.inl hB)), Lib.hid (HD.out.drewN _)⟩
              · have hB1 : ¬ (r' : Int) ≥ 4294967296 := by omega
                go_wp2_with fail
                go_roundw
                case rel => exact ⟨g', r', rfl, rfl, by omega, Hgs2, Lib.hid (HD.out.drewN _)⟩
                case measure => simp [intOf]; omega
            · have hC1 : ¬ (gv' : Int) > (R : Int) := by omega
              have hC2 : decide (R < gv') = false := decide_eq_false hC
              go_upto_region 15 with (fail)
              go_quiet (fail)
              go_wp2_with fail
              go_meet
              exact ⟨g, rfl, Lib.hid (HGs.out.done HK.out (.inr ⟨by omega, by rw [He5.out, He6.out, Hgr.out.1, Hgr.out.2]; omega⟩)), Lib.hid (HD.out.drewN _)⟩
      case rest =>
        obtain ⟨g, rfl, HGe, HD⟩ := hcut
        have hgl := HGe.out.2.2
        have HU1 := Lib.hid (HU.out.drawn HD.out)
        have HW1 := Lib.hid (HW.out.drawn HD.out)
        have HQ1 := Lib.hid (HQ.out.drawn HD.out)
        have HB1 := Lib.hid (HB.out.trans (HD.out.below _))
        clear HG0 hor hTl e1 e2 e3 e4 x0 x1 x2 z1 z2 HU HW HQ HB HD He5 He6 hg0l hr0l v10 v1n m1i m2i a1i a2i a1e a2e t0u u2u
        go_wp2_with fail
        go_loopw [17, 18, 151] (fun bv cv iv wr => ∃ (i bo ca : Nat) (H : Nat → Nat), i ≤ M ∧ iv = .int .i64 (i : Nat) ∧ bv = .int .i64 (bo : Nat) ∧ cv = .int .u64 (ca : Nat) ∧ Hid (KSub F G j M g H i bo ca) ∧ Hid (DigBlk wr gu H (L + 1)) ∧ Hid (DigBlk wr gv G (M + 1)) ∧ Hid (DigBlk wr gq Q l) ∧ Hid (Below w.heap.size w wr)) (fun _ _ iv _ => M - (intOf iv).toNat)
        case atStart => exact ⟨0, 0, 0, F, by omega, by go_num, by go_num, by go_num, Lib.hid (KSub.start HK.out.hF), HU1, HW1, HQ1, HB1⟩
        case round =>
          clear HU1 HW1 HQ1 HB1
          obtain ⟨i, bo, ca, H, hi, rfl, rfl, rfl, HS, HU, HW, HQ, HB⟩ := hrel
          have hbo := HS.out.2.2.1
          have hca := HS.out.2.2.2.1
          by_cases hiM : i < M
          · have i0 : (0 : Int) ≤ (i : Int) := by omega
            have i1 : (i : Int) < (M : Int) := by omega
            obtain ⟨k, hk⟩ : ∃ k, j + i = k := ⟨_, rfl⟩
            have hkL : k < L + 1 := by have := Hidx.out.1; omega
            have k1 : (i : Int) + (j : Int) = (k : Int) := by omega
            have k2 : (k : Int) < (L : Int) + 1 := by omega
            have y0 := HW.out.cell (show i < M + 1 by omega)
            have x0 := HU.out.cell hkL
            have hf := HU.out.frozen k
            have hHk : H k = F k := HS.out.2.1 k (by omega)
            rw [hHk] at x0
            obtain ⟨x, hx⟩ : ∃ z, F k = z := ⟨_, rfl⟩
            obtain ⟨y, hy⟩ : ∃ z, G i = z := ⟨_, rfl⟩
            have hxu : x < 4294967296 := by rw [← hx]; exact HK.out.hF _
            have hyu : y < 4294967296 := by rw [← hy]; exact HGl.out _
            rw [hx] at x0
            rw [hy] at y0
            have hpp := KSub.p (i := i) HGl.out hgl hca
            rw [hy] at hpp
            obtain ⟨hp1, hp2⟩ := hpp
            obtain ⟨gy, hgy⟩ : ∃ z, g * y = z := ⟨_, rfl⟩
            rw [hgy] at hp1 hp2
            obtain ⟨PP, hPP⟩ : ∃ z, gy + ca = z := ⟨_, rfl⟩
            rw [hPP] at hp1 hp2
            obtain ⟨ca', hca'⟩ : ∃ z, PP / 4294967296 = z := ⟨_, rfl⟩
            obtain ⟨pl, hpl⟩ : ∃ z, PP % 4294967296 = z := ⟨_, rfl⟩
            rw [hca'] at hp2
            have p1 : (g : Int) * (y : Int) = (gy : Int) := by rw [← hgy]; simp
            have p2 : (gy : Int) + (ca : Int) = (PP : Int) := by omega
            have p3 : (PP : Int) / 4294967296 = (ca' : Int) := by omega
            have p4 : (PP : Int) % 4294967296 = (pl : Int) := by omega
            have p5 : pl < 4294967296 := by omega
            have p6 : gy < 18446744073709551616 := by omega
            have Hpp : Hid (g * G i + ca = PP) := Lib.hid (by rw [hy, hgy, hPP])
            have Hq3 := Lib.hid (show PP / 4294967296 = ca' ∧ PP % 4294967296 = pl ∧ j + i = k ∧ F k = x from ⟨hca', hpl, hk, hx⟩)
            obtain ⟨D, hD⟩ : ∃ z : Int, (x : Int) - (bo : Int) - (pl : Int) = z := ⟨_, rfl⟩
            have hDr : -4294967296 ≤ D ∧ D < 4294967296 := by omega
            obtain ⟨hDr1, hDr2⟩ := hDr
            clear hHk hx hy hgy hPP hca' hpl hk
            by_cases hD0 : D < 0
            · obtain ⟨dd, hdd⟩ : ∃ z : Nat, D + 4294967296 = (z : Int) := ⟨(D + 4294967296).toNat, by omega⟩
              have hddl : dd < 4294967296 := by omega
              have ddm : (dd : Int) % 4294967296 = (dd : Int) := by omega
              have Hst2 := Lib.hid (KSub.step (b' := 1) (d := dd) HGl.out hgl HS.out (by omega) hddl (by rw [Hpp.out, Hq3.out.2.1, Hq3.out.2.2.1, Hq3.out.2.2.2]; omega))
              rw [Hpp.out, Hq3.out.1, Hq3.out.2.2.1] at Hst2
              go_wp2_with fail
              go_roundw
              case rel => exact ⟨i + 1, 1, ca', _, by omega, by go_num, by go_num, by go_num, Hst2, Lib.hid (HU.out.set (j := k) dd), Lib.hid (HW.out.far ⟨gu, k, none⟩ _ (by dsimp only; omega)), Lib.hid (HQ.out.far ⟨gu, k, none⟩ _ (by dsimp only; omega)), Lib.hid (HB.out.setCell (p := ⟨gu, k, none⟩) hguw _)⟩
              case measure => simp [intOf]; omega
            · obtain ⟨dd, hdd⟩ : ∃ z : Nat, D = (z : Int) := ⟨D.toNat, by omega⟩
              subst hdd
              have hddl : dd < 4294967296 := by omega
              have ddm : (dd : Int) % 4294967296 = (dd : Int) := by omega
              have Hst2 := Lib.hid (KSub.step (b' := 0) (d := dd) HGl.out hgl HS.out (by omega) hddl (by rw [Hpp.out, Hq3.out.2.1, Hq3.out.2.2.1, Hq3.out.2.2.2]; omega))
              rw [Hpp.out, Hq3.out.1, Hq3.out.2.2.1] at Hst2
              go_wp2_with fail
              go_roundw
              case rel => exact ⟨i + 1, 0, ca', _, by omega, by go_num, by go_num, by go_num, Hst2, Lib.hid (HU.out.set (j := k) dd), Lib.hid (HW.out.far ⟨gu, k, none⟩ _ (by dsimp only; omega)), Lib.hid (HQ.out.far ⟨gu, k, none⟩ _ (by dsimp only; omega)), Lib.hid (HB.out.setCell (p := ⟨gu, k, none⟩) hguw _)⟩
              case measure => simp [intOf]; omega
          · obtain rfl : M = i := by omega
            have x0 := HU.out.cell a0u
            have hf := HU.out.frozen a0
            have hHk : H a0 = t1 := by rw [HS.out.2.1 a0 (by have := Hidx.out.1; omega)]; exact Hidx.out.2.2.2.1
            rw [hHk] at x0
            have i1 : ¬ (M : Int) < (M : Int) := by omega
            have HFa := Lib.hid (show F (j + M) = t1 from by rw [Hidx.out.1]; exact Hidx.out.2.2.2.1)
            obtain ⟨D, hD⟩ : ∃ z : Int, (t1 : Int) - (bo : Int) - (ca : Int) = z := ⟨_, rfl⟩
            have hDr1 : -4294967296 ≤ D := by omega
            have hDr2 : D < 4294967296 := by omega
            have n1 : ¬ gq = gu := by omega
            have n2 : ¬ gu = gq := by omega
            clear hHk
            by_cases hD0 : D < 0
            · obtain ⟨dd, hdd⟩ : ∃ z : Nat, D % 4294967296 = (z : Int) := ⟨(D % 4294967296).toNat, by omega⟩
              have hddl : dd < 4294967296 := by omega
              have hov : dd + (ca + bo) = F (j + M) + 4294967296 := by rw [HFa.out]; omega
              have hgp := HS.out.pos hov hddl
              obtain ⟨g', hg'⟩ : ∃ z, g - 1 = z := ⟨_, rfl⟩
              have d1 : (g : Int) - 1 = (g' : Int) := by omega
              have g'l : g' < 4294967296 := by omega
              have g'm : (g' : Int) % 4294967296 = (g' : Int) := by omega
              have Hov := Lib.hid hov
              have Hg' := Lib.hid hg'
              obtain ⟨H2, hH2⟩ : ∃ z, (fun k => if k = a0 then dd else H k) = z := ⟨_, rfl⟩
              have HUs := Lib.hid (HU.out.set (j := a0) dd)
              have HWs := Lib.hid (HW.out.far ⟨gu, a0, none⟩ (.int .u32 (dd : Int)) (by dsimp only; omega))
              have HQs := Lib.hid (HQ.out.far ⟨gu, a0, none⟩ (.int .u32 (dd : Int)) (by dsimp only; omega))
              have HBs := Lib.hid (HB.out.setCell (p := ⟨gu, a0, none⟩) hguw (.int .u32 (dd : Int)))
              have HH := Lib.hid (show ∀ k, H2 k < 4294967296 from fun k => by rw [← hH2]; dsimp only; split <;> first | exact hddl | exact HS.out.1 k)
              have HH2 := Lib.hid (show H2 = fun k => if k = j + M then dd else H k from by rw [← hH2, Hidx.out.1])
              have HH3 := Lib.hid (show H2 a0 = dd from by rw [← hH2]; exact if_pos rfl)
              rw [hH2] at HUs
              clear hov hg' hgp hH2
              go_wp2_with fail
              clear x0 hf hdd hD hD0 hDr1 hDr2 HU HW HQ HB
              generalize wr.setCell ⟨gu, a0, none⟩ (.int .u32 (dd : Int)) = V2 at *
              go_loopw [23, 215] (fun cv iv wr => ∃ (i c2 : Nat) (K : Nat → Nat), i ≤ M ∧ iv = .int .i64 (i : Nat) ∧ cv = .int .u64 (c2 : Nat) ∧ Hid (KAdd H2 G j K i c2) ∧ Hid (DigBlk wr gu K (L + 1)) ∧ Hid (DigBlk wr gv G (M + 1)) ∧ Hid (DigBlk wr gq Q l) ∧ Hid (Below w.heap.size w wr)) (fun _ iv _ => M - (intOf iv).toNat)
              case atStart => exact ⟨0, 0, H2, by omega, by go_num, by go_num, Lib.hid (KAdd.start HH.out), HUs, HWs, HQs, HBs⟩
              case round =>
                clear HUs HWs HQs HBs
                obtain ⟨i, c2, K, hi, rfl, rfl, HA, HU, HW, HQ, HB⟩ := hrel
                have hc2 := HA.out.2.2.1
                by_cases hiM : i < M
                · have i0 : (0 : Int) ≤ (i : Int) := by omega
                  have i1 : (i : Int) < (M : Int) := by omega
                  obtain ⟨k, hk⟩ : ∃ k, j + i = k := ⟨_, rfl⟩
                  have hkL : k < L + 1 := by have := Hidx.out.1; omega
                  have k1 : (i : Int) + (j : Int) = (k : Int) := by omega
                  have k2 : (k : Int) < (L : Int) + 1 := by omega
                  have y0 := HW.out.cell (show i < M + 1 by omega)
                  have x0 := HU.out.cell hkL
                  have hHk : K k = H2 k := HA.out.2.1 k (by omega)
                  rw [hHk] at x0
                  obtain ⟨x, hx⟩ : ∃ z, H2 k = z := ⟨_, rfl⟩
                  obtain ⟨y, hy⟩ : ∃ z, G i = z := ⟨_, rfl⟩
                  have hxu : x < 4294967296 := by rw [← hx]; exact HH.out _
                  have hyu : y < 4294967296 := by rw [← hy]; exact HGl.out _
                  rw [hx] at x0
                  rw [hy] at y0
                  obtain ⟨xy, hxy⟩ : ∃ z, x + y = z := ⟨_, rfl⟩
                  obtain ⟨S, hS⟩ : ∃ z, xy + c2 = z := ⟨_, rfl⟩
                  obtain ⟨c3, hc3⟩ : ∃ z, S / 4294967296 = z := ⟨_, rfl⟩
                  obtain ⟨sl, hsl⟩ : ∃ z, S % 4294967296 = z := ⟨_, rfl⟩
                  have p1 : (x : Int) + (y : Int) = (xy : Int) := by omega
                  have p2 : (xy : Int) + (c2 : Int) = (S : Int) := by omega
                  have p3 : (S : Int) / 4294967296 = (c3 : Int) := by omega
                  have p4 : (S : Int) % 4294967296 = (sl : Int) := by omega
                  have p5 : xy < 8589934592 := by omega
                  have p6 : S < 17179869184 := by omega
                  have Hst2 := Lib.hid (KAdd.step HH.out HGl.out HA.out)
                  rw [hk, hx, hy, hxy, hS, hc3, hsl] at Hst2
                  clear hHk hx hy hxy hS hc3 hsl hk
                  go_upto_region 40 with (fail)
                  go_quiet (fail)
                  have HU3 := Lib.hid (HU.out.drewN nq)
                  have HW3 := Lib.hid (HW.out.drewN nq)
                  have HQ3 := Lib.hid (HQ.out.drewN nq)
                  have HB3 := Lib.hid (HB.out.trans (Drawn.below (Drawn.drewN (Drawn.refl wr) nq) _))
                  clear x0 y0 HU HW HQ HB
                  generalize wr.drewN nq = V3 at *
                  have x0 := HU3.out.cell hkL
                  have hf := HU3.out.frozen k
                  go_wp2_with fail
                  go_roundw
                  case rel => exact ⟨i + 1, c3, _, by omega, by go_num, by go_num, Hst2, Lib.hid (HU3.out.set (j := k) sl), Lib.hid (HW3.out.far ⟨gu, k, none⟩ _ (by dsimp only; omega)), Lib.hid (HQ3.out.far ⟨gu, k, none⟩ _ (by dsimp only; omega)), Lib.hid (HB3.out.setCell (p := ⟨gu, k, none⟩) hguw _)⟩
                  case measure => simp [intOf]; omega
                · obtain rfl : M = i := by omega
                  have ho := KAdd.over HGl.out HGe.out HS.out Hov.out hddl (by rw [← HH2.out]; exact HA.out)
                  rw [Hg'.out] at ho
                  obtain ⟨_, ho2, ho3⟩ := ho
                  have Ho3 := Lib.hid ho3
                  have hK0 : K a0 = dd := by rw [HA.out.2.1 a0 (by have := Hidx.out.1; omega)]; exact HH3.out
                  have x0 := HU.out.cell a0u
                  have hf := HU.out.frozen a0
                  rw [hK0] at x0
                  have i1 : ¬ (M : Int) < (M : Int) := by omega
                  have e0 : ((dd : Int) + (c2 : Int)) % 4294967296 = 0 := by omega
                  have e1 : (c2 : Int) % 4294967296 = (c2 : Int) := by omega
                  have x3 := HQ.out.cell hj
                  have hf3 := HQ.out.frozen j
                  have jl : (j : Int) < (l : Int) := by omega
                  have hset := HU.out.set (j := a0) 0
                  rw [show (((0 : Nat) : Int)) = 0 from rfl] at hset
                  have HU9 := Lib.hid (DigBlk.congr (G := fun k => if k = j + M then 0 else K k) hset (fun k _ => by rw [Hidx.out.1]))
                  have HI9 := Lib.hid (HI.out.step hj Ho3.out)
                  clear hK0 ho2 ho3 hset
                  go_wp2_with fail
                  go_roundw
                  case rel => exact ⟨j, _, _, by omega, by go_num, HI9, Lib.hid (HU9.out.far ⟨gq, j, none⟩ _ (by dsimp only; omega)), Lib.hid ((HW.out.far ⟨gu, a0, none⟩ _ (by dsimp only; omega)).far ⟨gq, j, none⟩ _ (by dsimp only; omega)), Lib.hid ((HQ.out.far ⟨gu, a0, none⟩ _ (by dsimp only; omega)).set (j := j) g'), Lib.hid ((HB.out.setCell (p := ⟨gu, a0, none⟩) hguw _).setCell (p := ⟨gq, j, none⟩) (by dsimp only; omega) _)⟩
                  case measure => simp [intOf]
            · obtain ⟨dd, hdd⟩ : ∃ z : Nat, D = (z : Int) := ⟨D.toNat, by omega⟩
              subst hdd
              have hddl : dd < 4294967296 := by omega
              have ddm : (dd : Int) % 4294967296 = (dd : Int) := by omega
              have gm : (g : Int) % 4294967296 = (g : Int) := by omega
              have hfit : dd + (ca + bo) = F (j + M) := by rw [HFa.out]; omega
              have HDg := Lib.hid (KSub.none HGl.out HGe.out HS.out hfit hddl)
              have x3 := HQ.out.cell hj
              have hf3 := HQ.out.frozen j
              have jl : (j : Int) < (l : Int) := by omega
              have HU9 := Lib.hid (DigBlk.congr (G := fun k => if k = j + M then dd else H k) (HU.out.set (j := a0) dd) (fun k _ => by rw [Hidx.out.1]))
              have HI9 := Lib.hid (HI.out.step hj HDg.out)
              clear hfit
              go_wp2_with fail
              go_roundw
              case rel => exact ⟨j, _, _, by omega, by go_num, HI9, Lib.hid (HU9.out.far ⟨gq, j, none⟩ _ (by dsimp only; omega)), Lib.hid ((HW.out.far ⟨gu, a0, none⟩ _ (by dsimp only; omega)).far ⟨gq, j, none⟩ _ (by dsimp only; omega)), Lib.hid ((HQ.out.far ⟨gu, a0, none⟩ _ (by dsimp only; omega)).set (j := j) g), Lib.hid ((HB.out.setCell (p := ⟨gu, a0, none⟩) hguw _).setCell (p := ⟨gq, j, none⟩) (by dsimp only; omega) _)⟩
              case measure => simp [intOf]
    · obtain rfl : 0 = i := by omega
      rw [show ((0 : Nat) : Int) - 1 = -1 from rfl]
      have hend := HI.out.end
      rw [HV.out, Nat.mul_div_mul_right _ _ (Nat.two_pow_pos nn), Nat.mul_mod_mul_right] at hend
      have hFM : F M = 0 := by have := HI.out.2.2.1; rwa [Nat.zero_add] at this
      have hFl := HI.out.1
      have hQl := HI.out.2.1
      have hre := shD_end (F := F) (n := nn) (by omega) hFM hend.2
      have hqe := hend.1
      unfold sV at hqe hre
      simp only [Nat.zero_add] at hqe hre
      have Hre := Lib.hid hre
      have Hqe := Lib.hid hqe
      have HFl := Lib.hid hFl
      have HQl := Lib.hid hQl
      have hmk := make_nats .i64 .i64 M (by omega)
      obtain ⟨P, hP⟩ : ∃ P, 2 ^ nn = P := ⟨_, rfl⟩
      have hPi : ((2 : Int) ^ nn) = (P : Int) := by rw [← hP]; simp
      obtain ⟨k2, hk2⟩ : ∃ k, 32 - nn = k := ⟨_, rfl⟩
      have k2e : (32 : Int) - (nn : Int) = (k2 : Int) := by omega
      obtain ⟨P2, hP2⟩ : ∃ P, 2 ^ k2 = P := ⟨_, rfl⟩
      have hP2i : ((2 : Int) ^ k2) = (P2 : Int) := by rw [← hP2]; simp
      have HP := Lib.hid (show 2 ^ nn = P ∧ 32 - nn = k2 ∧ 2 ^ k2 = P2 from ⟨hP, hk2, hP2⟩)
      have hk2l : k2 ≤ 32 := by omega
      have nn0 : (0 : Int) ≤ (nn : Int) := by omega
      have k20 : (0 : Int) ≤ (k2 : Int) := by omega
      clear hend hFM hFl hQl hre hqe hP hk2 hP2 hi hi0 HI
      go_wp2_with fail
      obtain ⟨gr, hgr⟩ : ∃ g, wr.heap.size = g := ⟨_, rfl⟩
      have hal := (Below.refl wr.heap.size wr).alloc (Nat.le_refl _) (.cells (madeCells #[.int .u32 0] M) 133)
      have U0 := Lib.hid (HU.out.below hal HU.out.lt)
      have Q0 := Lib.hid (HQ.out.below hal HQ.out.lt)
      have R0 := Lib.hid (DigBlk.new wr M)
      have B0 := Lib.hid (HB.out.trans (hal.mono HB.out.size))
      have hqr : gq < gr := by rw [← hgr]; exact HQ.out.lt
      rw [hgr] at R0 ⊢
      clear hmk hal HU HW HQ HB hgr
      generalize wr.alloc (.cells (madeCells #[.int .u32 0] M) 133) = W0 at *
      go_loopw [262] (fun iv wr => ∃ i : Nat, i ≤ M ∧ iv = .int .i64 (i : Nat) ∧ Hid (DigBlk wr gr (fun k => if k < i then shD F nn k else 0) M) ∧ Hid (DigBlk wr gu F (L + 1)) ∧ Hid (DigBlk wr gq Q l) ∧ Hid (Below w.heap.size w wr)) (fun iv _ => M - (intOf iv).toNat)
      case atStart => exact ⟨0, by omega, by go_num, Lib.hid (R0.out.congr fun k _ => rfl), U0, Q0, B0⟩
      case round =>
        clear R0 U0 Q0 B0
        obtain ⟨i, hi, rfl, HR, HU, HQ, HB⟩ := hrel
        by_cases hiM : i < M
        · have i0 : (0 : Int) ≤ (i : Int) := by omega
          have i1 : (i : Int) < (M : Int) := by omega
          have hl9 := Hl.out
          have i2 : (i : Int) < (L : Int) + 1 := by omega
          have i3 : (i : Int) + 1 < (L : Int) + 1 := by omega
          have x0 := HU.out.cell (show i < L + 1 by omega)
          have x1 := HU.out.cell (show i + 1 < L + 1 by omega)
          have r0 := HR.out.cell hiM
          simp only [Nat.lt_irrefl, if_false] at r0
          have hf := HR.out.frozen i
          have i4 : ((i : Int) + 1).toNat = i + 1 := by omega
          obtain ⟨y0, hy0⟩ : ∃ z, F i = z := ⟨_, rfl⟩
          obtain ⟨y1, hy1⟩ : ∃ z, F (i + 1) = z := ⟨_, rfl⟩
          have hy0l : y0 < 4294967296 := by rw [← hy0]; exact HFl.out _
          have hy1l : y1 < 4294967296 := by rw [← hy1]; exact HFl.out _
          rw [hy0] at x0
          rw [hy1] at x1
          obtain ⟨s0, hs0⟩ : ∃ z, y0 / P = z := ⟨_, rfl⟩
          have e0 : (y0 : Int) / (P : Int) = (s0 : Int) := by rw [← hs0]; simp
          have hs0l : s0 < 4294967296 := by rw [← hs0]; exact Nat.lt_of_le_of_lt (Nat.div_le_self _ _) hy0l
          have hsh : shD F nn i = s0 + y1 % P * P2 := by unfold shD; rw [hy0, hy1, HP.out.1, hs0, HP.out.2.1, HP.out.2.2]
          have Hstep := Lib.hid (fun j => stepF (shD F nn) i j)
          have n3 : ¬ gr = gu := by omega
          have n4 : ¬ gu = gr := by omega
          have HSh := Lib.hid hsh
          have Hy := Lib.hid (show y0 / P = s0 from hs0)
          clear hl9 hy0 hy1 hs0 hsh
          by_cases hn0 : nn = 0
          · have hn1' : ¬ (nn : Int) > 0 := by omega
            have hn2' : decide ((nn : Int) > 0) = false := decide_eq_false hn1'
            have hn3' : decide (0 < nn) = false := decide_eq_false (by omega)
            have hss : shD F nn i = s0 := by
              rw [HSh.out, ← HP.out.1, hn0]; simp [Nat.mod_one]
            have Hss := Lib.hid hss
            clear hss hn0
            go_wp2_with fail
            go_roundw
            case rel => exact ⟨i + 1, by omega, by go_num, Lib.hid ((HR.out.set (j := i) s0).congr fun k _ => by rw [← Hstep.out k, Hss.out]), Lib.hid (HU.out.far ⟨gr, i, none⟩ _ (by dsimp only; omega)), Lib.hid (HQ.out.far ⟨gr, i, none⟩ _ (by dsimp only; omega)), Lib.hid (HB.out.setCell (p := ⟨gr, i, none⟩) (by dsimp only; omega) _)⟩
            case measure => simp [intOf]; omega
          · have hn1' : (nn : Int) > 0 := by omega
            have hn2' : decide ((nn : Int) > 0) = true := decide_eq_true hn1'
            have hn3' : decide (0 < nn) = true := decide_eq_true (by omega)
            have hsl : s0 < 2 ^ (32 - nn) := by
              rw [← Hy.out, ← HP.out.1]
              exact Nat.div_lt_of_lt_mul (by rw [Nat.mul_comm, two32 (by omega)]; exact hy0l)
            have hor := or_sh (x := y1) (show nn ≤ 32 by omega) hsl hy1l
            rw [HP.out.1, HP.out.2.1, HP.out.2.2, hP2i] at hor
            obtain ⟨rv, hrv⟩ : ∃ z, s0 + y1 % P * P2 = z := ⟨_, rfl⟩
            rw [hrv] at hor
            have Hss := Lib.hid (show shD F nn i = rv from by rw [HSh.out, hrv])
            clear hrv hsl
            go_wp2_with fail
            go_region
            go_wp2_with fail
            go_roundw
            case rel => exact ⟨i + 1, by omega, by go_num, Lib.hid (DigBlk.drew (((HR.out.set (j := i) s0).set (j := i) rv).congr fun k _ => by rw [← Hstep.out k, Hss.out]; by_cases e : k = i <;> simp [e])), Lib.hid (DigBlk.drew ((HU.out.far ⟨gr, i, none⟩ _ (by dsimp only; omega)).far ⟨gr, i, none⟩ _ (by dsimp only; omega))), Lib.hid (DigBlk.drew ((HQ.out.far ⟨gr, i, none⟩ _ (by dsimp only; omega)).far ⟨gr, i, none⟩ _ (by dsimp only; omega))), Lib.hid ((HB.out.setCell (p := ⟨gr, i, none⟩) (by dsimp only; omega) _).setCell (p := ⟨gr, i, none⟩) (by dsimp only; omega) _).drew⟩
            case measure => simp [intOf]; omega
        · obtain rfl : M = i := by omega
          have i1 : ¬ (M : Int) < (M : Int) := by omega
          have HT1 := Lib.hid (trim_blk (w0 := wr) HQ.out (fun k _ => HQl.out k) (by omega) (Below.refl _ _) Hqe.out)
          go_wp2_with fail
          refine HT1.out.mono ?_
          rintro e w3 ⟨p3, c3, rfl, hN3, hc1, hc2, hb3⟩
          dsimp only
          have HN3 := Lib.hid hN3
          have Hb3 := Lib.hid hb3
          have HR3 := HR.out.below hb3 HR.out.lt
          have hvr : val (digList (fun k => if k < M then shD F nn k else 0) M) = a % b := by
            rw [digList_congr (G := shD F nn) fun k hk => if_pos hk]; exact Hre.out
          have HT2 := Lib.hid (trim_blk (w0 := w3) HR3 (fun k hk => by (try dsimp only); rw [if_pos hk]; exact shD_lt (by omega) HFl.out k) (by omega) (Below.refl _ _) hvr)
          clear hN3 hb3 HR3 hvr HT1
          go_wp2_with fail
          refine HT2.out.mono ?_
          rintro e w4 ⟨p4, c4, rfl, hN4, hc3, hc4, hb4⟩
          dsimp only
          have HN4 := Lib.hid hN4
          have Hb4 := Lib.hid hb4
          clear hN4 hb4 HT2
          go_wp2_with fail
          refine bodyPost_ret (v := .tuple #[.slice p3 (digs (a / b)).length c3, .slice p4 (digs (a % b)).length c4]) ?_ rfl ?_
          · simp [results, Try.results128, go_sem]
          · exact ⟨p3, c3, p4, c4, rfl, HN3.out.below (Nat.le_refl _) Hb4.out, hc1, hc2, HN4.out, hc3, hc4, (HB.out.trans (Hb3.out.mono HB.out.size)).trans (Hb4.out.mono (Nat.le_trans HB.out.size Hb3.out.size))⟩
end Go.Proofs.Ytcafeffgaokiaaa
