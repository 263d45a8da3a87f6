/- grooveref01.divMag: the walk. -/
import Derived.Test.YtcafeffgaokiaaaZ23
import Derived.Test.YtcafeffgaokiaaaZ26
namespace Go.Proofs.Ytcafeffgaokiaaa
open Go.RowKit Go.Shelf
/-- The text of digits of a number. -/
def bsN (n : Nat) : ByteArray := ⟨(beb n).toArray⟩
theorem bsN_size {n k : Nat} (h : n < 256 ^ k) : (bsN n).size ≤ k := by
  show (beb n).toArray.size ≤ k
  rw [List.size_toArray]
  exact beb_len k h
theorem bsN_mono {m n : Nat} (h : m ≤ n) : (bsN m).size ≤ (bsN n).size := by
  show (beb m).toArray.size ≤ (beb n).toArray.size
  rw [List.size_toArray, List.size_toArray]
  refine Nat.le_of_not_lt fun hh => ?_
  have := beb_short hh
  omega
theorem bsN_val (n : Nat) : bval (bsN n).data.toList = n := bval_beb n
/-- The quotient's digit t. -/
def dvD (a : List UInt8) (B t : Nat) : Nat := bval (a.take (t + 1)) / B % 256
theorem dvD_lt (a : List UInt8) (B t : Nat) : dvD a B t < 256 := Nat.mod_lt _ (by decide)
theorem dv_next (Q R B c : Nat) (hR : R < B) (hc : c < 256) : ((Q * B + R) * 256 + c) / B = Q * 256 + (R * 256 + c) / B ∧ ((Q * B + R) * 256 + c) % B = (R * 256 + c) % B ∧ (R * 256 + c) / B < 256 := by
  have h0 : 0 < B := by omega
  have h1 : (Q * B + R) * 256 + c = R * 256 + c + B * (Q * 256) := by
    rw [Nat.add_mul, show Q * B * 256 = B * (Q * 256) from by rw [Nat.mul_comm Q B, Nat.mul_assoc]]; omega
  rw [h1, Nat.add_mul_div_left _ _ h0, Nat.add_mul_mod_self_left]
  refine ⟨by omega, rfl, ?_⟩
  rw [Nat.div_lt_iff_lt_mul h0]
  omega
theorem dv_dig (Q X : Nat) (h : X < 256) : Q * 256 + (Q * 256 + X) % 256 = Q * 256 + X := by omega
theorem w64_nat {n : Nat} (h : n ≤ 256) : wrap64 (n : Int) = (n : Int) := IntWalk.wrap64_in _ (by omega)
theorem dv_dig2 (Q X : Nat) (h : X < 256) : (Q * 256 + X) % 256 = X := by omega
theorem dvD_hN (a : List UInt8) (B : Nat) (hB : 0 < B) : ∀ n, n ≤ a.length → bval (bytF (dvD a B) n) = bval (a.take n) / B
  | 0, _ => by
    show bval [] = bval [] / B
    rw [show bval [] = 0 from rfl, Nat.zero_div]
  | n + 1, h => by
    have h1 := dvD_hN a B hB n (by omega)
    have h2 := bval_take (show n < a.length by omega)
    have h3 := dv_next (bval (a.take n) / B) (bval (a.take n) % B) B a[n].toNat (Nat.mod_lt _ hB) (UInt8.toNat_lt _)
    rw [bytF_succ, bval_snoc, h1, UInt8.toNat_ofNat', Nat.mod_eq_of_lt (dvD_lt _ _ _)]
    unfold dvD
    rw [h2]
    have h4 : bval (a.take n) / B * B + bval (a.take n) % B = bval (a.take n) := by rw [Nat.mul_comm]; exact Nat.div_add_mod _ _
    rw [h4] at h3
    obtain ⟨h5, _, h6⟩ := h3
    rw [h5]
    exact dv_dig _ _ h6
set_option maxRecDepth 100000 in
set_option maxHeartbeats 8000000 in
theorem refDivMag_any (a : ByteArray) (B : Nat) (ha : a.size ≤ 90000000) (hB : 0 < B) (hBs : (bsN B).size ≤ 90000000) (w : World) :
    Calls Try.prog 140 #[.string a, .string (bsN B)] w fun e w' => e = .returned (.tuple #[.string (bsN (bval a.data.toList / B)), .string (bsN (bval a.data.toList % B))]) ∧ Below w.heap.size w w' := by
  have HT0 : Hid (HAt (w.alloc (.cells #[.string ⟨#[]⟩, .string ⟨#[]⟩, .string ⟨#[]⟩, .string ⟨#[]⟩, .string ⟨#[]⟩, .string ⟨#[]⟩, .string ⟨#[]⟩, .string ⟨#[]⟩] 196)) w.heap.size 8 (fun _ => .string ⟨#[]⟩)) := Lib.hid (by
    have hblk : (w.alloc (.cells #[.string ⟨#[]⟩, .string ⟨#[]⟩, .string ⟨#[]⟩, .string ⟨#[]⟩, .string ⟨#[]⟩, .string ⟨#[]⟩, .string ⟨#[]⟩, .string ⟨#[]⟩] 196)).heap[w.heap.size]? = some (.cells #[.string ⟨#[]⟩, .string ⟨#[]⟩, .string ⟨#[]⟩, .string ⟨#[]⟩, .string ⟨#[]⟩, .string ⟨#[]⟩, .string ⟨#[]⟩, .string ⟨#[]⟩] 196 (0, 0)) := heap_alloc_new w _
    refine ⟨by simp, fun k hk => ⟨?_, ?_⟩⟩
    · unfold World.cell?; simp only [hblk]
      match k, hk with
      | 0, _ => rfl
      | 1, _ => rfl
      | 2, _ => rfl
      | 3, _ => rfl
      | 4, _ => rfl
      | 5, _ => rfl
      | 6, _ => rfl
      | 7, _ => rfl
    · unfold World.frozen?; simp only [hblk]
      simp)
  have HB0 := Lib.hid ((Below.refl w.heap.size w).alloc (Nat.le_refl _) (.cells #[.string ⟨#[]⟩, .string ⟨#[]⟩, .string ⟨#[]⟩, .string ⟨#[]⟩, .string ⟨#[]⟩, .string ⟨#[]⟩, .string ⟨#[]⟩, .string ⟨#[]⟩] 196))
  obtain ⟨b, hb⟩ : ∃ b, bsN B = b := ⟨_, rfl⟩
  have Hbe := Lib.hid hb
  rw [hb]
  rw [hb] at hBs
  clear hb
  go_enter Try.func140, Try.ntmps140
  go_upto_region 2 with (fail)
  obtain ⟨g, hg⟩ : ∃ g, w.heap.size = g := ⟨_, rfl⟩
  have hgw : w.heap.size ≤ g := by omega
  rw [hg] at HT0 ⊢
  rw [← hg] at hgw
  generalize w.alloc (.cells #[.string ⟨#[]⟩, .string ⟨#[]⟩, .string ⟨#[]⟩, .string ⟨#[]⟩, .string ⟨#[]⟩, .string ⟨#[]⟩, .string ⟨#[]⟩, .string ⟨#[]⟩] 196) = V at *
  have HT1 : Hid (HAt (V.setCell ⟨g, 0, none⟩ (.string b)) g 8 (fun k => .string (if k < 1 then bsN (B * 2 ^ k) else ⟨#[]⟩))) := Lib.hid ((HT0.out.set (k := 0) (.string b)).congr fun k hk => by
    by_cases h : k = 0
    · rw [if_pos h, if_pos (by omega), h, Nat.pow_zero, Nat.mul_one, Hbe.out]
    · rw [if_neg h, if_neg (by omega)])
  have HB1 := Lib.hid (HB0.out.setCell (p := ⟨g, 0, none⟩) (by rw [← hg]; exact Nat.le_refl _) (.string b))
  obtain ⟨t0, t1⟩ := HT0.out.2 0 (by decide)
  have Hg := Lib.hid hg
  clear HT0 HB0 hg
  go_upto_region 3 with (fail)
  clear t0 t1
  generalize V.setCell ⟨g, 0, none⟩ (.string b) = V1 at *
  have HSz : Hid (∀ k, k ≤ 8 → (bsN (B * 2 ^ k)).size ≤ 90000001) := Lib.hid (fun k hk => by
    obtain ⟨s, hs⟩ : ∃ s, (bsN B).size = s := ⟨_, rfl⟩
    have h1 : B < 256 ^ s := by
      have := bval_lt (bsN B).data.toList
      rw [bsN_val, Array.length_toList] at this
      rw [← hs]; exact this
    have h2 : (2 : Nat) ^ k ≤ 2 ^ 8 := Nat.pow_le_pow_right (by decide) hk
    have h3 : B * 2 ^ k < 256 ^ (s + 1) := by
      rw [Nat.pow_succ]
      exact Nat.lt_of_le_of_lt (Nat.mul_le_mul_left _ h2) (Nat.mul_lt_mul_of_pos_right h1 (by decide))
    have h4 := bsN_size h3
    rw [Hbe.out] at hs
    omega)
  have HAd : Hid (∀ k, k < 8 → ∀ W, Calls Try.prog 148 #[.string (bsN (B * 2 ^ k)), .string (bsN (B * 2 ^ k))] W fun e w' => e = .returned (.string (bsN (B * 2 ^ (k + 1)))) ∧ Below W.heap.size W w') := Lib.hid (fun k hk W => by
    have h1 := HSz.out k (by omega)
    have h := refAddMag_any (bsN (B * 2 ^ k)) (bsN (B * 2 ^ k)) (by omega) (by omega) W
    rw [bsN_val, show B * 2 ^ k + B * 2 ^ k = B * 2 ^ (k + 1) from by rw [Nat.pow_succ, ← Nat.mul_assoc]; omega] at h
    exact h)
  go_wp2_with fail
  go_loopw [7] (fun iv wr => ∃ j : Nat, j + 1 ≤ 8 ∧ iv = .int .i64 ((j + 1 : Nat) : Int) ∧ Hid (HAt wr g 8 (fun k => .string (if k < j + 1 then bsN (B * 2 ^ k) else ⟨#[]⟩))) ∧ Hid (Below w.heap.size w wr)) (fun iv _ => 8 - (intOf iv).toNat)
  case atStart => exact ⟨0, by decide, by go_num, HT1, HB1⟩
  case round =>
    clear HT1 HB1
    obtain ⟨j, hj, rfl, HT, HBl⟩ := hrel
    by_cases hj8 : j + 1 < 8
    · have i0 : ((j + 1 : Nat) : Int) < 8 := by omega
      have i1 : ((j + 1 : Nat) : Int) - 1 = (j : Int) := by omega
      have i2 : (0 : Int) ≤ ((j + 1 : Nat) : Int) := by omega
      have i3 : (0 : Int) ≤ (j : Int) := by omega
      have i4 : (j : Int) < 8 := by omega
      have i5 : IntKind.i64.wrap (j : Int) = (j : Int) := IntWalk.i64_in _ (by omega)
      have i6 : IntKind.i64.wrap ((j : Int) + 1) = (j : Int) + 1 := IntWalk.i64_in _ (by omega)
      have i7 : ((j : Int) + 1).toNat = j + 1 := by omega
      have i8 : (0 : Int) ≤ (j : Int) + 1 := by omega
      have i9 : (j : Int) + 1 < 8 := by omega
      obtain ⟨c0, f0⟩ := HT.out.2 j (by omega)
      obtain ⟨c1, f1⟩ := HT.out.2 (j + 1) (by omega)
      dsimp only at c0 c1
      rw [if_pos (by omega)] at c0
      rw [if_neg (by omega)] at c1
      have HA2 := Lib.hid (HAd.out j (by omega))
      obtain ⟨P, hP⟩ : ∃ P, bsN (B * 2 ^ j) = P := ⟨_, rfl⟩
      obtain ⟨R, hR⟩ : ∃ P, bsN (B * 2 ^ (j + 1)) = P := ⟨_, rfl⟩
      have HR := Lib.hid hR
      rw [hP] at c0 HA2
      rw [hR] at HA2
      clear hP hR
      go_upto_region 6 with (fail)
      refine wp_region_held_drew (S := fun _ => True) (by kernel_rfl) trivial (fun _ => ?_)
      refine wpAnyH_take (i := 0) (v := ?_) rfl (by kernel_rfl) (by kernel_rfl) (by kernel_rfl) (fun _ _ _ h => h) (Or.inl ⟨by rfl, ?_⟩) trivial ?_
      rotate_left 1
      next => intro w hSw; go_simp; try with_reducible rfl
      try simp only [Act.put, List.getElem_toArray, List.getElem_cons_zero, List.getElem_cons_succ, List.setIfInBounds_toArray, List.set_cons_zero, List.set_cons_succ]
      refine wpAnyH_take (i := 1) (v := ?_) rfl (by kernel_rfl) (by kernel_rfl) (by kernel_rfl) (fun _ _ _ h => h) (Or.inl ⟨by rfl, ?_⟩) trivial ?_
      rotate_left 1
      next => intro w hSw; go_simp; try with_reducible rfl
      try simp only [Act.put, List.getElem_toArray, List.getElem_cons_zero, List.getElem_cons_succ, List.setIfInBounds_toArray, List.set_cons_zero, List.set_cons_succ]
      refine wpAnyH_take (i := 2) (v := ?_) rfl (by kernel_rfl) (by kernel_rfl) (by kernel_rfl) (fun _ _ _ h => h) (Or.inl ⟨by rfl, ?_⟩) trivial ?_
      rotate_left 1
      next => intro w hSw; go_simp; try with_reducible rfl
      try simp only [Act.put, List.getElem_toArray, List.getElem_cons_zero, List.getElem_cons_succ, List.setIfInBounds_toArray, List.set_cons_zero, List.set_cons_succ]
      refine wpAnyH_take (i := 3) (v := ?_) rfl (by kernel_rfl) (by kernel_rfl) (by kernel_rfl) (fun _ _ _ h => h) (Or.inl ⟨by rfl, ?_⟩) trivial ?_
      rotate_left 1
      next => intro w hSw; go_simp; try with_reducible rfl
      try simp only [Act.put, List.getElem_toArray, List.getElem_cons_zero, List.getElem_cons_succ, List.setIfInBounds_toArray, List.set_cons_zero, List.set_cons_succ]
      refine wpAnyH_take (i := 5) (v := ?_) rfl (by kernel_rfl) (by kernel_rfl) (by kernel_rfl) (fun _ _ _ h => h) (Or.inl ⟨by rfl, ?_⟩) trivial ?_
      rotate_left 1
      next => intro w hSw; go_simp; try with_reducible rfl
      try simp only [Act.put, List.getElem_toArray, List.getElem_cons_zero, List.getElem_cons_succ, List.setIfInBounds_toArray, List.set_cons_zero, List.set_cons_succ]
      refine wpAnyH_take (i := 6) (v := ?_) rfl (by kernel_rfl) (by kernel_rfl) (by kernel_rfl) (fun _ _ _ h => h) (Or.inl ⟨by rfl, ?_⟩) trivial ?_
      rotate_left 1
      next => intro w hSw; go_simp; try with_reducible rfl
      try simp only [Act.put, List.getElem_toArray, List.getElem_cons_zero, List.getElem_cons_succ, List.setIfInBounds_toArray, List.set_cons_zero, List.set_cons_succ]
      refine wpAnyH_take (i := 7) (v := ?_) rfl (by kernel_rfl) (by kernel_rfl) (by kernel_rfl) (fun _ _ _ h => h) (Or.inl ⟨by rfl, ?_⟩) trivial ?_
      rotate_left 1
      next => intro w hSw; go_simp; try with_reducible rfl
      try simp only [Act.put, List.getElem_toArray, List.getElem_cons_zero, List.getElem_cons_succ, List.setIfInBounds_toArray, List.set_cons_zero, List.set_cons_succ]
      try simp only [Act.put, List.getElem_toArray, List.getElem_cons_zero, List.getElem_cons_succ, List.setIfInBounds_toArray, List.set_cons_zero, List.set_cons_succ]
      refine wpAnyH_ready (rs := [4, 8]) (by kernel_rfl) (by simp) ?_
      refine AllReadyH.cons rfl (fun K hK => ?_) (AllReadyH.cons rfl (fun K hK => ?_) AllReadyH.nil)
      · go_simp
        refine hK.out _ _ trivial (fun _ => ?_)
        clear hK K
        try simp only [Act.put, List.getElem_toArray, List.getElem_cons_zero, List.getElem_cons_succ, List.setIfInBounds_toArray, List.set_cons_zero, List.set_cons_succ]
        refine wpAnyH_ready (rs := [8]) (by kernel_rfl) (by simp) ?_
        refine AllReadyH.cons rfl (fun K hK => ?_) AllReadyH.nil
        go_simp
        refine hK.out _ _ trivial (fun _ => ?_)
        clear hK K
        try simp only [Act.put, List.getElem_toArray, List.getElem_cons_zero, List.getElem_cons_succ, List.setIfInBounds_toArray, List.set_cons_zero, List.set_cons_succ]
        refine wpAnyH_ready (rs := [9]) (by kernel_rfl) (by simp) ?_
        refine AllReadyH.cons rfl (fun K hK => ?_) AllReadyH.nil
        go_simp
        refine (HA2.out _).mono ?_
        rintro e w4 ⟨rfl, hb4⟩
        have HT4 := Lib.hid (HT.out.below (show Below wr.heap.size wr w4 from by first | exact hb4 | exact (Below.refl _ wr).drew.trans hb4) HT.out.1)
        have HB4 := Lib.hid (HBl.out.trans ((show Below wr.heap.size wr w4 from by first | exact hb4 | exact (Below.refl _ wr).drew.trans hb4).mono HBl.out.size))
        obtain ⟨d1, f2⟩ := HT4.out.2 (j + 1) (by omega)
        dsimp only at d1
        rw [if_neg (by omega)] at d1
        have HT5 : Hid (HAt (w4.setCell ⟨g, j + 1, none⟩ (.string R)) g 8 (fun k => .string (if k < j + 1 + 1 then bsN (B * 2 ^ k) else ⟨#[]⟩))) := Lib.hid ((HT4.out.set (k := j + 1) (.string R)).congr fun k hk => by
          by_cases h : k = j + 1
          · rw [if_pos h, if_pos (by omega), h, HR.out]
          · rw [if_neg h]
            by_cases h2 : k < j + 1
            · rw [if_pos h2, if_pos (by omega)]
            · rw [if_neg h2, if_neg (by omega)])
        have HB5 := Lib.hid (HB4.out.setCell (p := ⟨g, j + 1, none⟩) (by rw [← Hg.out]; exact Nat.le_refl _) (.string R))
        dsimp only
        refine hK.out _ _ trivial (fun _ => ?_)
        clear hK K hb4
        refine wpAnyH_take (i := 10) (v := ?_) rfl (by kernel_rfl) (by kernel_rfl) (by kernel_rfl) (fun _ _ _ h => h) (Or.inl ⟨by rfl, ?_⟩) trivial ?_
        rotate_left 1
        next => intro w hSw; go_simp; try with_reducible rfl
        try simp only [Act.put, List.getElem_toArray, List.getElem_cons_zero, List.getElem_cons_succ, List.setIfInBounds_toArray, List.set_cons_zero, List.set_cons_succ]
        try simp only [Act.put, List.getElem_toArray, List.getElem_cons_zero, List.getElem_cons_succ, List.setIfInBounds_toArray, List.set_cons_zero, List.set_cons_succ]
        refine wpAnyH_ready (rs := [11]) (by kernel_rfl) (by simp) ?_
        refine AllReadyH.cons rfl (fun K hK => ?_) AllReadyH.nil
        go_simp
        refine hK.out _ _ trivial (fun _ => ?_)
        clear hK K
        refine wpAnyH_done (by kernel_rfl) ?_ _
        go_wp2_with fail
        go_roundw
        case rel => exact ⟨j + 1, by omega, by go_num, by first | exact HT5 | exact Lib.hid (show HAt _ g 8 _ from HT5.out), by first | exact HB5 | exact Lib.hid HB5.out.drew⟩
        case measure => simp [intOf]; omega
      · go_simp
        refine hK.out _ _ trivial (fun _ => ?_)
        clear hK K
        try simp only [Act.put, List.getElem_toArray, List.getElem_cons_zero, List.getElem_cons_succ, List.setIfInBounds_toArray, List.set_cons_zero, List.set_cons_succ]
        refine wpAnyH_ready (rs := [4]) (by kernel_rfl) (by simp) ?_
        refine AllReadyH.cons rfl (fun K hK => ?_) AllReadyH.nil
        go_simp
        refine hK.out _ _ trivial (fun _ => ?_)
        clear hK K
        try simp only [Act.put, List.getElem_toArray, List.getElem_cons_zero, List.getElem_cons_succ, List.setIfInBounds_toArray, List.set_cons_zero, List.set_cons_succ]
        refine wpAnyH_ready (rs := [9]) (by kernel_rfl) (by simp) ?_
        refine AllReadyH.cons rfl (fun K hK => ?_) AllReadyH.nil
        go_simp
        refine (HA2.out _).mono ?_
        rintro e w4 ⟨rfl, hb4⟩
        have HT4 := Lib.hid (HT.out.below (show Below wr.heap.size wr w4 from by first | exact hb4 | exact (Below.refl _ wr).drew.trans hb4) HT.out.1)
        have HB4 := Lib.hid (HBl.out.trans ((show Below wr.heap.size wr w4 from by first | exact hb4 | exact (Below.refl _ wr).drew.trans hb4).mono HBl.out.size))
        obtain ⟨d1, f2⟩ := HT4.out.2 (j + 1) (by omega)
        dsimp only at d1
        rw [if_neg (by omega)] at d1
        have HT5 : Hid (HAt (w4.setCell ⟨g, j + 1, none⟩ (.string R)) g 8 (fun k => .string (if k < j + 1 + 1 then bsN (B * 2 ^ k) else ⟨#[]⟩))) := Lib.hid ((HT4.out.set (k := j + 1) (.string R)).congr fun k hk => by
          by_cases h : k = j + 1
          · rw [if_pos h, if_pos (by omega), h, HR.out]
          · rw [if_neg h]
            by_cases h2 : k < j + 1
            · rw [if_pos h2, if_pos (by omega)]
            · rw [if_neg h2, if_neg (by omega)])
        have HB5 := Lib.hid (HB4.out.setCell (p := ⟨g, j + 1, none⟩) (by rw [← Hg.out]; exact Nat.le_refl _) (.string R))
        dsimp only
        refine hK.out _ _ trivial (fun _ => ?_)
        clear hK K hb4
        refine wpAnyH_take (i := 10) (v := ?_) rfl (by kernel_rfl) (by kernel_rfl) (by kernel_rfl) (fun _ _ _ h => h) (Or.inl ⟨by rfl, ?_⟩) trivial ?_
        rotate_left 1
        next => intro w hSw; go_simp; try with_reducible rfl
        try simp only [Act.put, List.getElem_toArray, List.getElem_cons_zero, List.getElem_cons_succ, List.setIfInBounds_toArray, List.set_cons_zero, List.set_cons_succ]
        try simp only [Act.put, List.getElem_toArray, List.getElem_cons_zero, List.getElem_cons_succ, List.setIfInBounds_toArray, List.set_cons_zero, List.set_cons_succ]
        refine wpAnyH_ready (rs := [11]) (by kernel_rfl) (by simp) ?_
        refine AllReadyH.cons rfl (fun K hK => ?_) AllReadyH.nil
        go_simp
        refine hK.out _ _ trivial (fun _ => ?_)
        clear hK K
        refine wpAnyH_done (by kernel_rfl) ?_ _
        go_wp2_with fail
        go_roundw
        case rel => exact ⟨j + 1, by omega, by go_num, by first | exact HT5 | exact Lib.hid (show HAt _ g 8 _ from HT5.out), by first | exact HB5 | exact Lib.hid HB5.out.drew⟩
        case measure => simp [intOf]; omega
    · obtain rfl : j = 7 := by omega
      rw [show ((7 + 1 : Nat) : Int) = 8 from rfl]
      have hj9 : ¬ (8 : Int) < 8 := by omega
      have HTt : Hid (HAt wr g 8 (fun k => .string (bsN (B * 2 ^ k)))) := Lib.hid (HT.out.congr fun k hk => by rw [if_pos (by omega)])
      clear HT
      have hmk := make_u8 a.size (by omega) wr
      have hz0 := made_u8 wr a.size 5
      have hb0 := (Below.refl wr.heap.size wr).alloc (Nat.le_refl _) (.cells (madeCells #[.int .u8 0] a.size) 5)
      have HTq := Lib.hid (HTt.out.below hb0 HTt.out.1)
      have HBq := Lib.hid (HBl.out.trans (hb0.mono HBl.out.size))
      obtain ⟨gq, hgq⟩ : ∃ g, wr.heap.size = g := ⟨_, rfl⟩
      have hggq : g < gq := by rw [← hgq]; exact HTt.out.1
      have hwgq : w.heap.size ≤ gq := by rw [← hgq]; exact HBl.out.size
      rw [hgq] at hmk hz0
      generalize wr.alloc (.cells (madeCells #[.int .u8 0] a.size) 5) = w1 at *
      obtain ⟨n, hn⟩ : ∃ n, a.size = n := ⟨_, rfl⟩
      rw [hn] at hmk hz0 ha
      have Hz0 : Hid (HAt w1 gq n (fun t => .int .u8 ((if t < 0 then dvD a.data.toList B t else 0 : Nat) : Int))) := Lib.hid (hz0.congr fun k hk => by rw [if_neg (by omega)]; rfl)
      clear hz0 hb0 HTt HBl hgq
      go_upto_region 8 with (fail)
      have HTr := Lib.hid (fun x (h : x.size ≤ 100000000) W => refTrim_any x h W)
      have Hn := Lib.hid hn
      have HRs : Hid (∀ i, (bsN (bval (a.data.toList.take i) % B)).size ≤ 90000000) := Lib.hid (fun i => by
        have h1 := bsN_mono (Nat.le_of_lt (Nat.mod_lt (bval (a.data.toList.take i)) hB))
        rw [Hbe.out] at h1
        omega)
      clear HAd hn
      go_wp2_with fail
      go_loopw [9, 10] (fun rv iv wr => ∃ i : Nat, i ≤ n ∧ iv = .int .i64 (i : Nat) ∧ rv = .string (bsN (bval (a.data.toList.take i) % B)) ∧ Hid (HAt wr gq n (fun t => .int .u8 ((if t < i then dvD a.data.toList B t else 0 : Nat) : Int))) ∧ Hid (HAt wr g 8 (fun k => .string (bsN (B * 2 ^ k)))) ∧ Hid (Below w.heap.size w wr)) (fun _ iv _ => n - (intOf iv).toNat)
      case atStart => exact ⟨0, by omega, by go_num, by rw [List.take_zero, show bval [] = 0 from rfl, Nat.zero_mod]; rfl, Hz0, HTq, HBq⟩
      case round =>
        clear Hz0 HTq HBq
        obtain ⟨i, hi, rfl, rfl, HQ, HT, HBl⟩ := hrel
        by_cases hin : i < n
        · have i0 : (i : Int) < (n : Int) := by omega
          have i1 : (0 : Int) ≤ (i : Int) := by omega
          have i2 : (i : Int) + 1 ≤ (n : Int) := by omega
          have i3 : (i : Int) ≤ (i : Int) + 1 := by omega
          have hrs := HRs.out i
          have hlt : i < a.data.toList.length := by rw [Array.length_toList]; have := Hn.out; exact (show i < a.size by omega)
          obtain ⟨Ri, hRi⟩ : ∃ r, bval (a.data.toList.take i) % B = r := ⟨_, rfl⟩
          rw [hRi] at hrs ⊢
          obtain ⟨O, hO⟩ : ∃ s, bsN Ri = s := ⟨_, rfl⟩
          rw [hO] at hrs ⊢
          have hex : (a.extract i (i + 1)).data.toList = [a.data.toList[i]] := by
            rw [ByteArray.data_extract, Array.toList_extract, List.extract_eq_take_drop, Nat.add_sub_cancel_left, List.drop_eq_getElem_cons hlt]; rfl
          have hsz1 : (a.extract i (i + 1)).size = 1 := by
            show (a.extract i (i + 1)).data.size = 1
            rw [← Array.length_toList, hex]; rfl
          have hcat : bval ((O ++ a.extract i (i + 1)).data.toList) = Ri * 256 + (a.data.toList[i]).toNat := by
            rw [ByteArray.data_append, Array.toList_append, hex, bval_snoc, ← hO, bsN_val]
          have s0 : ¬ 9223372036854775807 < O.size + (a.extract i (i + 1)).size := by omega
          have ht := HTr.out (O ++ a.extract i (i + 1)) (by rw [ByteArray.size_append]; omega)
          rw [hcat] at ht
          have HTx := Lib.hid ht
          have HRi := Lib.hid hRi
          have Hlt := Lib.hid hlt
          have hRB : Ri < B := by rw [← hRi]; exact Nat.mod_lt _ hB
          clear hcat ht hex hRi hO
          go_wp2_with fail
          refine (HTx.out _).mono ?_
          rintro e w4 ⟨rfl, rfl⟩
          dsimp only
          obtain ⟨c8, hc8⟩ : ∃ c, (a.data.toList[i]).toNat = c := ⟨_, rfl⟩
          have hcl : c8 < 256 := by rw [← hc8]; exact UInt8.toNat_lt _
          have Hc8 := Lib.hid hc8
          rw [hc8]
          obtain ⟨R2, hR2⟩ : ∃ r, Ri * 256 + c8 = r := ⟨_, rfl⟩
          have HR2 := Lib.hid hR2
          have hR2B : R2 < B * 256 := by omega
          have hbb : (⟨(beb (Ri * 256 + c8)).toArray⟩ : ByteArray) = bsN R2 := by rw [hR2]; rfl
          rw [hbb]
          have HSs : Hid (∀ S, S ≤ R2 → (bsN S).size ≤ 90000001) := Lib.hid (fun S hS => by
            have h1 := bsN_mono (show S ≤ B * 2 ^ 8 from by rw [show (2 : Nat) ^ 8 = 256 from by decide]; omega)
            have h2 := HSz.out 8 (by decide)
            omega)
          have HCp := Lib.hid (fun S k W => refCmpMag_any S (B * 2 ^ k) W)
          have HSb : Hid (∀ S k, B * 2 ^ k ≤ S → S ≤ R2 → ∀ W, Calls Try.prog 149 #[.string (bsN S), .string (bsN (B * 2 ^ k))] W fun e w' => e = .returned (.string (bsN (S - B * 2 ^ k))) ∧ Below W.heap.size W w') := Lib.hid (fun S k hk hS W => by
            have h := refSubMag_any (bsN S) (bsN (B * 2 ^ k)) (by have := HSs.out S hS; omega) (bsN_mono hk) (by rw [bsN_val, bsN_val]; exact hk) W
            rw [bsN_val, bsN_val] at h
            exact h)
          have HT0 := HT
          have HQ0 := HQ
          have HB0 := HBl
          clear hc8 hR2 hbb hcl hRB hsz1 s0 hrs HTx HT HQ HBl
          go_wp2_with fail
          have hdec : decide (i < a.size) = true := decide_eq_true (by have := Hn.out; omega)
          try rw [hdec]
          clear hdec
          go_loopw [9, 11, 12] (fun rv dv kv wr => ∃ (j D S : Nat), j ≤ 8 ∧ kv = .int .i64 ((j : Int) - 1) ∧ dv = .int .i64 (D : Nat) ∧ rv = .string (bsN S) ∧ Hid (S + D * B = R2) ∧ Hid (S < B * 2 ^ j) ∧ Hid (D + 2 ^ j ≤ 256) ∧ Hid (HAt wr gq n (fun t => .int .u8 ((if t < i then dvD a.data.toList B t else 0 : Nat) : Int))) ∧ Hid (HAt wr g 8 (fun k => .string (bsN (B * 2 ^ k)))) ∧ Hid (Below w.heap.size w wr)) (fun _ _ kv _ => (intOf kv + 1).toNat)
          case atStart => exact ⟨8, 0, R2, by decide, by go_num, by go_num, rfl, Lib.hid (by omega), Lib.hid hR2B, Lib.hid (by decide), HQ0, HT0, HB0⟩
          case round =>
            clear HQ0 HT0 HB0
            obtain ⟨j, D, S, hj, rfl, rfl, rfl, HE, HL, HD, HQ, HT, HBl⟩ := hrel
            by_cases hj0 : 0 < j
            · obtain ⟨k, rfl⟩ : ∃ k, j = k + 1 := ⟨j - 1, by omega⟩
              rw [show ((k + 1 : Nat) : Int) - 1 = (k : Int) from by omega]
              have k0 : (0 : Int) ≤ (k : Int) := by omega
              have k1 : (k : Int) < 8 := by omega
              have k2 : (k : Int) ≥ 0 := by omega
              obtain ⟨c0, f0⟩ := HT.out.2 k (by omega)
              have hcp := fun W => HCp.out S k W
              have hSR : S ≤ R2 := by have := HE.out; omega
              by_cases hge : B * 2 ^ k ≤ S
              · have hcv : ¬ cmpV S (B * 2 ^ k) < 0 := by unfold cmpV; rw [if_neg (by omega)]; split <;> omega
                have hcv2 : cmpV S (B * 2 ^ k) ≥ 0 := by omega
                have HSm := Lib.hid (HSb.out S k hge hSR)
                have HCv := Lib.hid hcp
                have Hj := Lib.hid hge
                obtain ⟨cv, hcve⟩ : ∃ c, cmpV S (B * 2 ^ k) = c := ⟨_, rfl⟩
                rw [hcve] at hcv hcv2 HCv
                clear hcp hge hcve
                go_wp2_with fail
                refine (HCv.out _).mono ?_
                rintro e w5 ⟨rfl, rfl⟩
                dsimp only
                go_wp2_with fail
                refine (HSm.out _).mono ?_
                rintro e w6 ⟨rfl, hb6⟩
                dsimp only
                have HQ6 := Lib.hid (HQ.out.below hb6 HQ.out.1)
                have HT6 := Lib.hid (HT.out.below hb6 HT.out.1)
                have HB6 := Lib.hid (HBl.out.trans (hb6.mono HBl.out.size))
                have HE6 : Hid (S - B * 2 ^ k + (D + 2 ^ k) * B = R2) := Lib.hid (by
                  have h1 := HE.out
                  have h2 := Hj.out
                  rw [Nat.add_mul, Nat.mul_comm (2 ^ k) B]
                  omega)
                have HL6 : Hid (S - B * 2 ^ k < B * 2 ^ k) := Lib.hid (by
                  have h1 := HL.out
                  have h2 := Hj.out
                  rw [Nat.pow_succ, ← Nat.mul_assoc] at h1
                  omega)
                have HD6 : Hid (D + 2 ^ k + 2 ^ k ≤ 256) := Lib.hid (by
                  have h1 := HD.out
                  rw [Nat.pow_succ] at h1
                  omega)
                clear hb6 c0 f0 HQ HT HBl HE HL HCv HSm hcv hcv2
                obtain ⟨P2, hP2⟩ : ∃ p : Nat, 2 ^ k = p := ⟨_, rfl⟩
                have hD6 := HD6.out
                rw [hP2] at hD6
                have w1_ : wrap64 ((2 : Int) ^ k) = (P2 : Int) := by
                  rw [show ((2 : Int) ^ k) = (P2 : Int) from by rw [← hP2]; simp]
                  exact w64_nat (Nat.le_trans (Nat.le_add_left P2 D) (Nat.le_trans (Nat.le_add_right _ P2) hD6))
                have w2_ : wrap64 ((D : Int) + (P2 : Int)) = ((D + P2 : Nat) : Int) := by
                  rw [show (D : Int) + (P2 : Int) = ((D + P2 : Nat) : Int) from (Int.natCast_add D P2).symm]
                  exact w64_nat (Nat.le_trans (Nat.le_add_right _ P2) hD6)
                have HP2 := Lib.hid hP2
                clear hD6 hP2
                go_wp2_with fail
                go_roundw
                case rel => exact ⟨k, D + P2, S - B * 2 ^ k, by omega, by go_num, by go_num, rfl, by rw [← HP2.out]; exact HE6, HL6, by rw [← HP2.out]; exact HD6, HQ6, HT6, HB6⟩
                case measure => simp [intOf]
              · have hcv : cmpV S (B * 2 ^ k) < 0 := by unfold cmpV; rw [if_pos (by omega)]; decide
                have hcv2 : ¬ cmpV S (B * 2 ^ k) ≥ 0 := by omega
                have HCv := Lib.hid hcp
                have HL6 : Hid (S < B * 2 ^ k) := Lib.hid (by omega)
                have HD6 : Hid (D + 2 ^ k ≤ 256) := Lib.hid (by
                  have h1 := HD.out
                  rw [Nat.pow_succ] at h1
                  omega)
                obtain ⟨cv, hcve⟩ : ∃ c, cmpV S (B * 2 ^ k) = c := ⟨_, rfl⟩
                rw [hcve] at hcv hcv2 HCv
                clear hcp hge hcve
                go_wp2_with fail
                refine (HCv.out _).mono ?_
                rintro e w5 ⟨rfl, rfl⟩
                dsimp only
                clear HCv HL HD c0 f0
                go_wp2_with fail
                go_roundw
                case rel => exact ⟨k, D, S, by omega, by go_num, by go_num, rfl, HE, HL6, HD6, HQ, HT, HBl⟩
                case measure => simp [intOf]
            · obtain rfl : j = 0 := by omega
              rw [show ((0 : Nat) : Int) - 1 = -1 from rfl]
              have hSB : S < B := by have := HL.out; rw [Nat.pow_zero, Nat.mul_one] at this; exact this
              have hDl : D < 256 := by have := HD.out; rw [Nat.pow_zero] at this; omega
              have hdv := dv_next (bval (a.data.toList.take i) / B) Ri B c8 (by rw [← HRi.out]; exact Nat.mod_lt _ hB) (by rw [← Hc8.out]; exact UInt8.toNat_lt _)
              have htk := bval_take Hlt.out
              have hbq : bval (a.data.toList.take i) / B * B + Ri = bval (a.data.toList.take i) := by rw [← HRi.out, Nat.mul_comm]; exact Nat.div_add_mod _ _
              rw [hbq, ← Hc8.out, ← htk, Hc8.out, HR2.out] at hdv
              have hDq : R2 / B = D := by
                rw [← HE.out, Nat.add_mul_div_right _ _ hB, Nat.div_eq_of_lt hSB, Nat.zero_add]
              have hSq : R2 % B = S := by
                rw [← HE.out, Nat.add_mul_mod_self_right, Nat.mod_eq_of_lt hSB]
              rw [hDq, hSq] at hdv
              have hdd : dvD a.data.toList B i = D := by
                unfold dvD
                rw [hdv.1]
                exact dv_dig2 _ _ hDl
              obtain ⟨q0, q1⟩ := HQ.out.2 i hin
              have HQ7 : Hid (HAt (wr.setCell ⟨gq, i, none⟩ (.int .u8 (D : Int))) gq n (fun t => .int .u8 ((if t < i + 1 then dvD a.data.toList B t else 0 : Nat) : Int))) := Lib.hid ((HQ.out.set (k := i) (.int .u8 (D : Int))).congr fun t ht => by
                by_cases h : t = i
                · rw [if_pos h, if_pos (by omega), h, hdd]
                · rw [if_neg h]
                  by_cases h2 : t < i
                  · rw [if_pos h2, if_pos (by omega)]
                  · rw [if_neg h2, if_neg (by omega)])
              have HT7 := Lib.hid (HT.out.other ⟨gq, i, none⟩ (.int .u8 (D : Int)) (by show gq ≠ g; omega))
              have HB7 := Lib.hid (HBl.out.setCell (p := ⟨gq, i, none⟩) hwgq (.int .u8 (D : Int)))
              have hu8 : IntKind.u8.wrap (D : Int) = (D : Int) := by show (D : Int) % 256 = _; omega
              have HS7 := Lib.hid hdv.2.1
              clear hdv htk hbq hDq hSq hdd HE HL HD HQ HT HBl
              go_wp2_with fail
              go_roundw
              case rel => exact ⟨i + 1, by omega, by go_num, by rw [HS7.out], HQ7, HT7, HB7⟩
              case measure => simp [intOf]; omega
        · obtain rfl : i = n := by omega
          have i0 : ¬ (i : Int) < (i : Int) := by omega
          have i5 : ¬ i < a.size := by have := Hn.out; omega
          have hal : a.data.toList.length = i := by rw [Array.length_toList]; exact Hn.out
          have hcvt := convert_hat wr gq i i (dvD a.data.toList B) (fun k _ => dvD_lt _ _ _) (HQ.out.congr fun k hk => by rw [if_pos hk])
          have hqv := dvD_hN a.data.toList B hB i (by omega)
          rw [← hal, List.take_length, hal] at hqv
          have HR9 : Hid (bval (a.data.toList.take i) % B = bval a.data.toList % B) := Lib.hid (by rw [← hal, List.take_length])
          have HTx := Lib.hid (refTrim_any ⟨(bytF (dvD a.data.toList B) i).toArray⟩ (by show (bytF _ i).toArray.size ≤ _; rw [List.size_toArray, bytF_len]; omega) wr)
          have HVl : Hid (bval ((⟨(bytF (dvD a.data.toList B) i).toArray⟩ : ByteArray).data.toList) = bval a.data.toList / B) := Lib.hid hqv
          generalize (⟨(bytF (dvD a.data.toList B) i).toArray⟩ : ByteArray) = tx at *
          clear hqv HQ HT hal HTr
          go_wp2_with fail
          refine HTx.out.mono ?_
          rintro e w9 ⟨rfl, rfl⟩
          dsimp only
          go_wp2_with fail
          go_ret2
          exact ⟨by rw [HVl.out, HR9.out]; rfl, HBl.out⟩
end Go.Proofs.Ytcafeffgaokiaaa
