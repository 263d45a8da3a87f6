/- grooveref03.Derivative: the walk. Decimal digits of a number that is held as bytes: plain laws. -/
import Derived.Test.YteoemijgdcpopaaDoorE41
import Derived.Test.YteoemijgdcpopaaDoorE31
import Derived.Test.YteoemijgdcpopaaDoorE34
namespace Go.Proofs.YteoemijgdcpopaaDoor
open Go.RowKit Go.Shelf
theorem dgN_der (f : Nat → Int) : ∀ n, dgN (deC f) (n - 1) = dgN f n - 1
  | 0 => rfl
  | 1 => by
    show 0 = (if f 0 = 0 then dgN f 0 else 0 + 1) - 1
    split <;> rfl
  | n + 2 => by
    have ih := dgN_der f (n + 1)
    rw [Nat.add_sub_cancel] at ih
    show dgN (deC f) (n + 1) = _
    rw [dgN, dgN]
    by_cases h : f (n + 1) = 0
    · rw [if_pos h, if_pos (by unfold deC; rw [h]; simp), ih]
    · rw [if_neg h, if_neg (by
        unfold deC
        intro h1
        rcases Int.mul_eq_zero.1 h1 with h2 | h2
        · exact h h2
        · omega)]
      omega
set_option maxRecDepth 100000 in
set_option maxHeartbeats 8000000 in
theorem refDer3_any (n : Nat) (Z : Nat → ZI) (p : Option Addr) (c : Nat) (hn : n ≤ 1000) (hz : ∀ k, k < n → (Z k).mag.size < 10000000) (w : World) (hX : GRow w p n Z) :
    Calls Tryd.prog 30 #[.slice p n c] w (RetPol (dgN (fun k => valZ (Z k)) n - 1) (deC fun k => valZ (Z k)) w) := by
  have HX := Lib.hid hX
  have hcs : ∀ i : Nat, i < n → (canon ((i : Nat) : Int)).mag.size ≤ 8 := fun i hi => canon_size _ (by rw [Int.natAbs_natCast]; omega)
  have HMu := Lib.hid (fun i (hi : i < n) W => refMulZ_any (Z i) (canon ((i : Nat) : Int)) (by have := hz i hi; omega) (by have := hcs i hi; omega) (valZ (Z i)) (i : Int) rfl (valZ_canon _) (by have := hz i hi; have := hcs i hi; omega) W)
  have HOf := Lib.hid (fun i (hi : i < n) W => refOfAll_any i (by omega) W)
  have hsz : ∀ k, k < n - 1 → (canon (deC (fun k => valZ (Z k)) k)).mag.size < 100000000 := fun k hk => by
    have hz1 := hz (k + 1) (by omega)
    obtain ⟨K, hK⟩ : ∃ K, 10000000 = K := ⟨_, rfl⟩
    rw [hK] at hz1
    have h1 : (valZ (Z (k + 1))).natAbs < 256 ^ K := by
      rw [valZ_abs3]
      exact absP hz1
    have h3 := canon_size (deC (fun k => valZ (Z k)) k) (k := K + 2) (by
      show (valZ (Z (k + 1)) * ((k : Int) + 1)).natAbs < _
      rw [Int.natAbs_mul, Nat.pow_succ, Nat.pow_succ]
      have h4 : ((k : Int) + 1).natAbs ≤ 1000 := by omega
      generalize 256 ^ K = T at *
      have h5 : (valZ (Z (k + 1))).natAbs * ((k : Int) + 1).natAbs ≤ (valZ (Z (k + 1))).natAbs * 1000 := Nat.mul_le_mul_left _ h4
      omega)
    omega
  have hdd := dgN_der (fun k => valZ (Z k)) n
  obtain ⟨f, hf⟩ : ∃ f : Nat → Int, (fun k => valZ (Z k)) = f := ⟨_, rfl⟩
  have Hf : Hid (∀ k, valZ (Z k) = f k) := Lib.hid (fun k => by rw [← hf])
  rw [hf] at hsz hdd ⊢
  have HCn := Lib.hid (fun r cr W (h : RowF W r (n - 1) (deC f)) => refCan3_any (n - 1) (fun k => canon (deC f k)) r cr (by omega) (fun k hk => hsz k hk) W h)
  simp only [valZ_canon] at HCn
  rw [hdd] at HCn
  clear hX hz hcs hsz hf hdd
  go_enter Tryd.func30, Tryd.ntmps30
  go_wp2_with fail
  go_loopw [3, 4] (fun ov iv wr => ∃ i : Nat, 1 ≤ i ∧ (i ≤ n ∨ i = 1) ∧ iv = .int .i64 (i : Nat) ∧ Hid (OwnZ wr w.heap.size ov (zsF (deC f) (i - 1))) ∧ Hid (Below w.heap.size w wr)) (fun _ iv _ => n - (intOf iv).toNat)
  case atStart => exact ⟨1, by omega, .inr rfl, by go_num, Lib.hid (OwnZ.made w (Nat.le_refl _)), Lib.hid ((Below.refl _ _).alloc (Nat.le_refl _) _)⟩
  case round =>
    obtain ⟨i, h1i, hi, rfl, HO, HB⟩ := hrel
    by_cases hil : i < n
    · have i0 : (0 : Int) ≤ (i : Int) := by omega
      have i1 : (i : Int) < (n : Int) := by omega
      obtain ⟨bb, bo, rfl, hbl, hbc⟩ := GRow.cells HX.out hil
      obtain ⟨b3, b4⟩ := hbc i hil
      have Hcell := Lib.hid (fun W (hW : Below w.heap.size w W) => And.intro (cell_below hW b3) (cell_below hW b4))
      have hmu := fun W => HMu.out i hil W
      rw [Hf.out i] at hmu
      have hof := fun W => HOf.out i hil W
      have hde : deC f (i - 1) = f i * (i : Int) := by unfold deC; rw [show i - 1 + 1 = i from by omega, show ((i - 1 : Nat) : Int) + 1 = (i : Int) from by omega]
      have Hnx : Hid (zsF (deC f) (i + 1 - 1) = zsF (deC f) (i - 1) ++ [f i * (i : Int)]) := Lib.hid (by
        rw [show i + 1 - 1 = i - 1 + 1 from by omega, zsF_snoc, hde])
      obtain ⟨y, hy⟩ : ∃ y, f i * (i : Int) = y := ⟨_, rfl⟩
      obtain ⟨CI, hCI⟩ : ∃ z, canon (i : Int) = z := ⟨_, rfl⟩
      obtain ⟨CY, hCY⟩ : ∃ z, canon y = z := ⟨_, rfl⟩
      obtain ⟨z, hzz⟩ : ∃ z, Z i = z := ⟨_, rfl⟩
      rw [hzz] at Hcell
      rw [hCI] at hof
      rw [hy, hCI, hCY, hzz] at hmu
      rw [hy] at Hnx
      have HOf2 := Lib.hid hof
      have HMu2 := Lib.hid hmu
      have HCY := Lib.hid hCY
      have HL : Hid ((zsF (deC f) (i - 1)).length < 1000000000) := Lib.hid (by rw [zsF_len]; omega)
      clear hof hmu hde hy hCI hCY hbc b3 b4 hzz
      go_upto_region 5 with (fail)
      obtain ⟨SS, hSe⟩ : ∃ SS : World → Prop, SS = fun W => W.cell? ⟨bb, bo + i * 2, none⟩ = some (.bool z.neg) ∧ W.cell? ⟨bb, bo + i * 2 + 1, none⟩ = some (.string z.mag) := ⟨_, rfl⟩
      have HS : Hid (∀ W, Below wr.heap.size wr W → SS W) := Lib.hid (fun W hW => by
        rw [hSe]; exact Hcell.out W (HB.out.trans (hW.mono HB.out.size)))
      have hd : Below wr.heap.size wr wr.drew := (Below.refl _ _).drew
      refine wp_region_held_drew (S := SS) (by kernel_rfl) (HS.out _ hd) (fun hSS => ?_)
      refine wpAnyH_take (i := 0) (v := ?_) rfl (by kernel_rfl) (by kernel_rfl) (by kernel_rfl) (fun _ _ _ h => h) (Or.inl ⟨by rfl, ?_⟩) (HS.out _ hd) ?_
      rotate_left 1
      next => intro w hSw; rw [hSe] at hSw; obtain ⟨s1, s2⟩ := hSw; go_simp; try with_reducible rfl
      try simp only [Act.put, List.getElem_toArray, List.getElem_cons_zero, List.getElem_cons_succ, List.setIfInBounds_toArray, List.set_cons_zero, List.set_cons_succ]
      refine wpAnyH_take (i := 1) (v := ?_) rfl (by kernel_rfl) (by kernel_rfl) (by kernel_rfl) (fun _ _ _ h => h) (Or.inl ⟨by rfl, ?_⟩) (HS.out _ hd) ?_
      rotate_left 1
      next => intro w hSw; rw [hSe] at hSw; obtain ⟨s1, s2⟩ := hSw; go_simp; try with_reducible rfl
      try simp only [Act.put, List.getElem_toArray, List.getElem_cons_zero, List.getElem_cons_succ, List.setIfInBounds_toArray, List.set_cons_zero, List.set_cons_succ]
      refine wpAnyH_take (i := 2) (v := ?_) rfl (by kernel_rfl) (by kernel_rfl) (by kernel_rfl) (fun _ _ _ h => h) (Or.inl ⟨by rfl, ?_⟩) (HS.out _ hd) ?_
      rotate_left 1
      next => intro w hSw; rw [hSe] at hSw; obtain ⟨s1, s2⟩ := hSw; go_simp; try with_reducible rfl
      try simp only [Act.put, List.getElem_toArray, List.getElem_cons_zero, List.getElem_cons_succ, List.setIfInBounds_toArray, List.set_cons_zero, List.set_cons_succ]
      refine wpAnyH_take (i := 3) (v := ?_) rfl (by kernel_rfl) (by kernel_rfl) (by kernel_rfl) (fun _ _ _ h => h) (Or.inl ⟨by rfl, ?_⟩) (HS.out _ hd) ?_
      rotate_left 1
      next => intro w hSw; rw [hSe] at hSw; obtain ⟨s1, s2⟩ := hSw; go_simp; try with_reducible rfl
      try simp only [Act.put, List.getElem_toArray, List.getElem_cons_zero, List.getElem_cons_succ, List.setIfInBounds_toArray, List.set_cons_zero, List.set_cons_succ]
      refine wpAnyH_take (i := 4) (v := ?_) rfl (by kernel_rfl) (by kernel_rfl) (by kernel_rfl) (fun _ _ _ h => h) (Or.inl ⟨by rfl, ?_⟩) (HS.out _ hd) ?_
      rotate_left 1
      next => intro w hSw; rw [hSe] at hSw; obtain ⟨s1, s2⟩ := hSw; go_simp; try with_reducible rfl
      try simp only [Act.put, List.getElem_toArray, List.getElem_cons_zero, List.getElem_cons_succ, List.setIfInBounds_toArray, List.set_cons_zero, List.set_cons_succ]
      refine wpAnyH_take (i := 5) (v := ?_) rfl (by kernel_rfl) (by kernel_rfl) (by kernel_rfl) (fun _ _ _ h => h) (Or.inl ⟨by rfl, ?_⟩) (HS.out _ hd) ?_
      rotate_left 1
      next => intro w hSw; rw [hSe] at hSw; obtain ⟨s1, s2⟩ := hSw; go_simp; try with_reducible rfl
      try simp only [Act.put, List.getElem_toArray, List.getElem_cons_zero, List.getElem_cons_succ, List.setIfInBounds_toArray, List.set_cons_zero, List.set_cons_succ]
      try simp only [Act.put, List.getElem_toArray, List.getElem_cons_zero, List.getElem_cons_succ, List.setIfInBounds_toArray, List.set_cons_zero, List.set_cons_succ]
      refine wpAnyH_ready (rs := [6]) (by kernel_rfl) (by simp) ?_
      refine AllReadyH.cons rfl (fun K hK => ?_) AllReadyH.nil
      go_simp
      refine (HOf2.out _).mono ?_
      rintro e w1 ⟨rfl, hbc⟩
      have hb1 : Below wr.heap.size wr w1 := hd.trans (hbc.mono hd.size)
      dsimp only
      refine hK.out _ _ (HS.out _ hb1) (fun _ => ?_)
      clear hK K hbc
      try simp only [Act.put, List.getElem_toArray, List.getElem_cons_zero, List.getElem_cons_succ, List.setIfInBounds_toArray, List.set_cons_zero, List.set_cons_succ]
      refine wpAnyH_ready (rs := [7]) (by kernel_rfl) (by simp) ?_
      refine AllReadyH.cons rfl (fun K hK => ?_) AllReadyH.nil
      go_simp
      refine (HMu2.out _).mono ?_
      rintro e w2 ⟨rfl, hbc⟩
      have hb2 : Below wr.heap.size wr w2 := hb1.trans (hbc.mono hb1.size)
      dsimp only
      refine hK.out _ _ (HS.out _ hb2) (fun _ => ?_)
      clear hK K hbc
      try simp only [Act.put, List.getElem_toArray, List.getElem_cons_zero, List.getElem_cons_succ, List.setIfInBounds_toArray, List.set_cons_zero, List.set_cons_succ]
      refine wpAnyH_ready (rs := [8]) (by kernel_rfl) (by simp) ?_
      refine AllReadyH.cons rfl (fun K hK => ?_) AllReadyH.nil
      go_simp
      have hal := (Below.refl w2.heap.size w2).alloc (Nat.le_refl _) (.cells #[.bool CY.neg, .string CY.mag] 35)
      have hb3 := hb2.alloc hb2.size (.cells #[.bool CY.neg, .string CY.mag] 35)
      have hbx := BoxAt.new w2 (.bool CY.neg) (.string CY.mag) 35
      obtain ⟨gz, hgz⟩ : ∃ k, w2.heap.size = k := ⟨_, rfl⟩
      rw [hgz] at hbx ⊢
      clear hal hgz
      generalize w2.alloc (.cells #[.bool CY.neg, .string CY.mag] 35) = w3 at *
      refine hK.out _ _ (HS.out _ hb3) (fun _ => ?_)
      clear hK K
      try simp only [Act.put, List.getElem_toArray, List.getElem_cons_zero, List.getElem_cons_succ, List.setIfInBounds_toArray, List.set_cons_zero, List.set_cons_succ]
      refine wpAnyH_ready (rs := [9]) (by kernel_rfl) (by simp) ?_
      refine AllReadyH.cons rfl (fun K hK => ?_) AllReadyH.nil
      have hO := HO.out.below (Nat.le_refl _) hb3
      refine step_append_z1 rfl _ _ rfl w.heap.size _ _ rfl hO gz 1 y rfl (by rw [HCY.out]; exact hbx.1) (by rw [HCY.out]; exact hbx.2.1) HL.out (Nat.le_trans HB.out.size hb3.size) ?_
      intro v9 w4 hown9 hgr9
      have hb9 : Below w.heap.size w w4 := below_append (HB.out.trans (hb3.mono HB.out.size)) hO hgr9 (Nat.le_trans HB.out.size hb3.size) (Nat.le_refl _)
      rw [← Hnx.out] at hown9
      have HZ9 := Lib.hid hown9
      have HY9 := Lib.hid hb9
      have hSw : SS w4 := by rw [hSe]; exact Hcell.out _ hb9
      have HS := Lib.hid (fun W (h : SS W) => h)
      refine hK.out _ _ hSw (fun _ => ?_)
      clear hK K hown9 hgr9 hb9 hO
      refine wpAnyH_take (i := 10) (v := ?_) rfl (by kernel_rfl) (by kernel_rfl) (by kernel_rfl) (fun _ _ _ h => h) (Or.inl ⟨by rfl, ?_⟩) (HS.out _ hSw) ?_
      rotate_left 1
      next => intro w hSw; rw [hSe] at hSw; obtain ⟨s1, s2⟩ := hSw; go_simp; try with_reducible rfl
      try simp only [Act.put, List.getElem_toArray, List.getElem_cons_zero, List.getElem_cons_succ, List.setIfInBounds_toArray, List.set_cons_zero, List.set_cons_succ]
      refine wpAnyH_done (by kernel_rfl) ?_ _
      go_wp2_with fail
      go_roundw
      case rel => exact ⟨i + 1, by omega, .inl (by omega), by go_num, HZ9, HY9⟩
      case measure => simp [intOf]; omega
    · have i1 : ¬ (i : Int) < (n : Int) := by omega
      have hie : i - 1 = n - 1 := by omega
      have hz9 := HO.out
      rw [hie] at hz9
      obtain ⟨r, cap, rfl, _, hrow, _⟩ := hz9.rowF
      have Hrow := Lib.hid hrow
      clear hz9 hie hrow HO
      go_wp2_with fail
      refine (HCn.out _ _ _ Hrow.out).mono ?_
      rintro e w5 ⟨q5, c5, rfl, hr5, hb5⟩
      dsimp only
      have Hr5 := Lib.hid hr5
      have Hb5 := Lib.hid (HB.out.trans (hb5.mono HB.out.size))
      clear hr5 hb5
      go_wp2_with fail
      go_ret
      exact ⟨q5, c5, rfl, Hr5.out, Hb5.out⟩
end Go.Proofs.YteoemijgdcpopaaDoor
namespace Go.Proofs.YteoemijgdcpopaaDoor
/-- The value of k bytes from a on. -/
def bvA (F : Nat → Nat) (a : Nat) : Nat → Nat
  | 0 => 0
  | k + 1 => bvA F a k * 256 + F (a + k)
theorem bvA_congr {F G : Nat → Nat} {a : Nat} : ∀ {k : Nat}, (∀ j, a ≤ j → j < a + k → F j = G j) → bvA F a k = bvA G a k
  | 0, _ => rfl
  | k + 1, h => by rw [bvA, bvA, bvA_congr fun j h1 h2 => h j h1 (by omega), h (a + k) (by omega) (by omega)]
theorem bvA_front {F : Nat → Nat} {a : Nat} (h : F a = 0) : ∀ k, bvA F a (k + 1) = bvA F (a + 1) k
  | 0 => by simp [bvA, h]
  | k + 1 => by rw [bvA, bvA_front h k, bvA, show a + (k + 1) = a + 1 + k from by omega]
theorem bvA_pos {F : Nat → Nat} {a : Nat} (h : F a ≠ 0) : ∀ k, 0 < bvA F a (k + 1)
  | 0 => by simp [bvA]; omega
  | k + 1 => by rw [bvA]; have := bvA_pos h k; omega
theorem bvA_lt {F : Nat → Nat} (hF : ∀ j, F j < 256) (a : Nat) : ∀ k, bvA F a k < 256 ^ k
  | 0 => by simp [bvA]
  | k + 1 => by rw [bvA, Nat.pow_succ]; have := bvA_lt hF a k; have := hF (a + k); omega
theorem bval_bvA (l : List UInt8) : ∀ k, k ≤ l.length → bval (l.take k) = bvA (fun j => (l.getD j 0).toNat) 0 k
  | 0, _ => by simp [bvA, bval]
  | k + 1, h => by
    rw [bvA, ← bval_bvA l k (by omega), bval_take (by omega)]
    simp [List.getD_eq_getElem?_getD, show k < l.length from by omega]
    try rfl
/-- A step of the division by 10. -/
theorem div10_step (A g : Nat) : (A * 256 + g) / 10 = A / 10 * 256 + (A % 10 * 256 + g) / 10 ∧ (A * 256 + g) % 10 = (A % 10 * 256 + g) % 10 := by omega
/-- Digits, the last one first. -/
def rdg (N : Nat) : Nat → List UInt8
  | 0 => []
  | t + 1 => rdg N t ++ [UInt8.ofNat (48 + N / 10 ^ t % 10)]
theorem rdg_len (N : Nat) : ∀ t, (rdg N t).length = t
  | 0 => rfl
  | t + 1 => by rw [rdg, List.length_append, rdg_len N t]; rfl
theorem rdg_rev (N : Nat) : ∀ t, (rdg N (t + 1)).reverse = (rdg (N / 10) t).reverse ++ [UInt8.ofNat (48 + N % 10)]
  | 0 => by simp [rdg]
  | t + 1 => by
    rw [rdg, List.reverse_append, rdg_rev N t, rdg, List.reverse_append]
    simp [Nat.div_div_eq_div_mul, Nat.pow_succ, Nat.mul_comm]
theorem decL_ten : ∀ v, v ≠ 0 → decL v = decL (v / 10) ++ [UInt8.ofNat (48 + v % 10)] := by
  intro v
  induction v using Nat.strongRecOn with
  | ind v ih =>
    intro hv
    by_cases h : v < 1000000000
    · rw [decL_lt h, decL_lt (show v / 10 < 1000000000 by omega), ndg_pos hv, Nat.add_comm 1, pad]
    · rw [decL_ge h]
      obtain ⟨q, hq⟩ : ∃ q, v / 1000000000 = q := ⟨_, rfl⟩
      obtain ⟨r, hr⟩ : ∃ r, v % 1000000000 = r := ⟨_, rfl⟩
      have hq0 : 0 < q := by omega
      have key : ∀ k, k ≤ 8 → ∀ s, s < 10 ^ k → decL (q * 10 ^ k + s) = decL q ++ pad k s := by
        intro k
        induction k with
        | zero =>
          intro _ s hs
          obtain rfl : s = 0 := by simp at hs; exact hs
          simp [pad]
        | succ k ihk =>
          intro hk s hs
          have h10 : 10 ^ (k + 1) = 10 ^ k * 10 := Nat.pow_succ ..
          have hle : 10 ^ (k + 1) ≤ 10 ^ 8 := Nat.pow_le_pow_right (by decide) hk
          have hlt : q * 10 ^ (k + 1) + s < v := by
            have h1 : q * 10 ^ (k + 1) ≤ q * 10 ^ 8 := Nat.mul_le_mul_left _ hle
            have h2 : (10 : Nat) ^ 8 = 100000000 := by decide
            rw [h2] at h1 hle
            omega
          have h3 : (q * 10 ^ (k + 1) + s) / 10 = q * 10 ^ k + s / 10 := by
            rw [h10, ← Nat.mul_assoc, Nat.mul_comm _ 10, Nat.mul_add_div (by decide)]
          have h4 : (q * 10 ^ (k + 1) + s) % 10 = s % 10 := by
            rw [h10, ← Nat.mul_assoc, Nat.mul_comm _ 10, Nat.mul_add_mod]
          have hp : 0 < 10 ^ k := Nat.pow_pos (by decide)
          have h5 : 0 < q * 10 ^ (k + 1) := Nat.mul_pos hq0 (Nat.pow_pos (by decide))
          rw [ih _ hlt (by omega), h3, h4, ihk (by omega) (s / 10) (by omega), pad, List.append_assoc]
      have h6 : v / 10 = q * 10 ^ 8 + r / 10 := by omega
      rw [hq, hr, h6, key 8 (Nat.le_refl _) (r / 10) (by omega), show (9 : Nat) = 8 + 1 from rfl, pad, List.append_assoc]
      rw [show v % 10 = r % 10 from by omega]
/-- The digits of a number, turned, are its text. -/
theorem rdg_dec : ∀ (t N : Nat), N < 10 ^ t → (∀ s, s < t → 0 < N / 10 ^ s) → (rdg N t).reverse = decL N
  | 0, N, h, _ => by
    obtain rfl : N = 0 := by simp at h; exact h
    rw [decL_zero]; rfl
  | t + 1, N, h, h2 => by
    have h0 : N ≠ 0 := by have := h2 0 (by omega); simp at this; omega
    have h10 : 10 ^ (t + 1) = 10 ^ t * 10 := Nat.pow_succ ..
    rw [rdg_rev, decL_ten N h0, rdg_dec t (N / 10) (by omega) fun s hs => by
      have := h2 (s + 1) (by omega)
      rwa [Nat.pow_succ, Nat.mul_comm, ← Nat.div_div_eq_div_mul] at this]
theorem beb_head0 : ∀ n, beb n ≠ [] → ((beb n).getD 0 0).toNat ≠ 0 := by
  intro n
  induction n using Nat.strongRecOn with
  | ind n ih =>
    intro h
    have h0 : n ≠ 0 := fun e => h (by rw [e]; rfl)
    rw [beb_pos h0]
    by_cases h1 : n / 256 = 0
    · rw [h1, beb_zero]
      have h2 : n < 256 := by omega
      show (UInt8.ofNat (n % 256)).toNat ≠ 0
      rw [UInt8.toNat_ofNat', Nat.mod_mod, Nat.mod_eq_of_lt h2]
      exact h0
    · have h3 : beb (n / 256) ≠ [] := fun e => h1 (beb_len_zero.1 (by rw [e]; rfl))
      have h4 := ih (n / 256) (by omega) h3
      cases hb : beb (n / 256) with
      | nil => exact absurd hb h3
      | cons c t =>
        rw [hb] at h4
        exact h4
end Go.Proofs.YteoemijgdcpopaaDoor
