/- grooveref23: checkVector, Zero, Sums. -/
import Derived.Test.YtlaoijfphkhchaaGreatB34
import Derived.Test.YtlaoijfphkhchaaGreatB23
namespace Go.Proofs.YtlaoijfphkhchaaGreat
open Go.RowKit Go.Shelf
set_option maxRecDepth 100000 in
set_option maxHeartbeats 4000000 in
theorem rZero_any (n : Nat) (p : Option Addr) (c : Nat) (f : Nat → Int) (w : World) (hV : VRow w p n f) (hn : n ≤ 1000000000000) :
    Calls Tryz.prog 30 #[.slice p n c] w (RetB (!anyN (fun k => f k != 0) n) w) := by
  have HA := Lib.hid hV
  clear hV
  go_enter Tryz.func30, Tryz.ntmps30
  go_wp2
  go_loopw [3] (fun i wr => ∃ k : Nat, k ≤ n ∧ i = .int .i64 k ∧ wr = w ∧ Hid (∀ j, j < k → f j = 0)) (fun i _ => n - (intOf i).toNat)
  case atStart => exact ⟨0, by omega, rfl, rfl, Lib.hid (fun j hj => by omega)⟩
  case round =>
    obtain ⟨k, hk, rfl, rfl, He⟩ := hrel
    by_cases hlt : k < n
    · obtain ⟨ab, ao, rfl, hab, hca⟩ := VRow.cells HA.out hlt
      have hxa := hca k hlt
      have i0 : (0 : Int) ≤ (k : Int) := by omega
      have i1 : (k : Int) < (n : Int) := by omega
      have HF := Lib.hid (fun (h : f k ≠ 0) => show anyN (fun k => f k != 0) n = true from anyN_true.2 ⟨k, hlt, by rw [bne_iff_ne]; exact h⟩)
      have HE := Lib.hid (fun (h : f k = 0) (j : Nat) (hj : j < k + 1) => show f j = 0 from by
        by_cases e : j = k
        · rw [e]; exact h
        · exact He.out j (by omega))
      obtain ⟨x, hx⟩ : ∃ x, f k = x := ⟨_, rfl⟩
      rw [hx] at HE HF hxa
      clear hca hx He
      by_cases hc : x = 0
      · have HE2 := Lib.hid (HE.out hc)
        have hc2 : (x != 0) = false := by rw [hc]; rfl
        clear HE HF hc
        go_wp2
        go_roundw
        case rel => exact ⟨k + 1, by omega, by go_num, by first | trivial | rfl, HE2⟩
        case measure => simp [intOf]; omega
      · have HF2 := Lib.hid (HF.out hc)
        have hc2 : (x != 0) = true := by rw [bne_iff_ne]; exact hc
        clear HE HF hc
        go_wp2
        go_ret
        exact ⟨by rw [HF2.out]; rfl, Below.refl _ _⟩
    · have HF : Hid (anyN (fun k => f k != 0) n = false) := Lib.hid (anyN_false.2 fun j hj => by rw [He.out j (by omega)]; rfl)
      go_wp2
      go_ret
      exact ⟨by rw [HF.out]; rfl, Below.refl _ _⟩
set_option maxRecDepth 100000 in
set_option maxHeartbeats 8000000 in
theorem rvChk_any (L S : Int) (n : Nat) (E : Nat → Nat → Int) (p : Option Addr) (c : Nat) (m : Int) (nv : Nat) (v : Nat → Int) (pv : Option Addr) (cv : Nat) (hnv : nv ≤ 1000000000000) (w : World) (hE : EdgAt w p n E) (hV : VRow w pv nv v) :
    Calls Tryz.prog 25 #[.agg #[.int .i64 L, .int .i64 S, .slice p n c], .slice pv nv cv, .int .i64 m] w (RetInt (vChk L S n E m nv v) w) := by
  obtain ⟨W0, hW0⟩ : ∃ W, w.alloc (.cells #[.int .i64 L, .int .i64 S, .slice p n c] 24) = W := ⟨_, rfl⟩
  have hb0 : Below w.heap.size w W0 := by rw [← hW0]; exact (Below.refl _ _).alloc (Nat.le_refl _) _
  have hbx : BoxAt3 W0 w.heap.size (.int .i64 L) (.int .i64 S) (.slice p n c) := by rw [← hW0]; exact BoxAt3.new w _ _ _ _
  have HG := Lib.hid (rgcheck_any L S n E p c W0 (hE.mono (Nat.le_refl _) hb0))
  have HB : Hid (∀ W, Below W0.heap.size W0 W → BoxAt3 W w.heap.size (.int .i64 L) (.int .i64 S) (.slice p n c) ∧ VRow W pv nv v ∧ Below w.heap.size w W) := Lib.hid (fun W hW => ⟨hbx.below hW, (hV.below (Nat.le_refl _) hb0).below (Nat.le_refl _) hW, hb0.trans (hW.mono hb0.size)⟩)
  obtain ⟨_, c0, c1, c2⟩ := hbx
  obtain ⟨r, hr⟩ : ∃ r, vChk L S n E m nv v = r := ⟨_, rfl⟩
  rw [hr]
  have HR := Lib.hid hr
  unfold vChk at HR
  obtain ⟨gc, hgc⟩ : ∃ b, gChk L S n E = b := ⟨_, rfl⟩
  rw [hgc] at HG HR
  clear hgc hr hE hV hb0
  by_cases h1 : gc = 0
  rotate_left 1
  · have e1 : (gc != 0) = true := by rw [bne_iff_ne]; exact h1
    have hr : (1 : Int) = r := by rw [← HR.out, if_pos h1]
    clear HR h1
    have HR := Lib.hid hr
    clear hr
    go_enter Tryz.func25, Tryz.ntmps25
    go_wp2_with fail
    try rw [hW0]
    refine HG.out.mono ?_
    rintro e W1 ⟨rfl, hb⟩
    dsimp only
    obtain ⟨⟨_, z0, z1, z2⟩, hrow, hb1⟩ := HB.out _ hb
    have Hb1 := Lib.hid hb1
    clear hb1 HG hb HB c0 c1 c2 hW0
    go_wp2
    go_ret
    exact ⟨by rw [← HR.out]; rfl, Hb1.out⟩
  have e1 : (gc != 0) = false := by rw [h1]; rfl
  by_cases h2 : m < 1
  · have hr : (2 : Int) = r := by rw [← HR.out, if_neg (show ¬ (gc ≠ 0) from fun h => h h1), if_pos (.inl h2)]
    clear HR h1
    have HR := Lib.hid hr
    clear hr
    go_enter Tryz.func25, Tryz.ntmps25
    go_wp2_with fail
    try rw [hW0]
    refine HG.out.mono ?_
    rintro e W1 ⟨rfl, hb⟩
    dsimp only
    obtain ⟨⟨_, z0, z1, z2⟩, hrow, hb1⟩ := HB.out _ hb
    have Hb1 := Lib.hid hb1
    clear hb1 HG hb HB c0 c1 c2 hW0
    go_wp2
    go_ret
    exact ⟨by rw [← HR.out]; rfl, Hb1.out⟩
  by_cases h3 : m > 256
  · have hr : (2 : Int) = r := by rw [← HR.out, if_neg (show ¬ (gc ≠ 0) from fun h => h h1), if_pos (.inr h3)]
    clear HR h1
    have HR := Lib.hid hr
    clear hr
    go_enter Tryz.func25, Tryz.ntmps25
    go_wp2_with fail
    try rw [hW0]
    refine HG.out.mono ?_
    rintro e W1 ⟨rfl, hb⟩
    dsimp only
    obtain ⟨⟨_, z0, z1, z2⟩, hrow, hb1⟩ := HB.out _ hb
    have Hb1 := Lib.hid hb1
    clear hb1 HG hb HB c0 c1 c2 hW0
    go_wp2
    go_ret
    exact ⟨by rw [← HR.out]; rfl, Hb1.out⟩
  by_cases h4 : (nv : Int) = S
  rotate_left 1
  · have hr : (11 : Int) = r := by rw [← HR.out, if_neg (show ¬ (gc ≠ 0) from fun h => h h1), if_neg (by omega), if_pos h4]
    have e4 : ((nv : Int) != S) = true := by rw [bne_iff_ne]; exact h4
    clear HR h1 h4
    have HR := Lib.hid hr
    clear hr
    go_enter Tryz.func25, Tryz.ntmps25
    go_wp2_with fail
    try rw [hW0]
    refine HG.out.mono ?_
    rintro e W1 ⟨rfl, hb⟩
    dsimp only
    obtain ⟨⟨_, z0, z1, z2⟩, hrow, hb1⟩ := HB.out _ hb
    have Hb1 := Lib.hid hb1
    clear hb1 HG hb HB c0 c1 c2 hW0
    go_wp2
    go_ret
    exact ⟨by rw [← HR.out]; rfl, Hb1.out⟩
  have hr : (if anyN (fun k => decide (v k < 0 ∨ 4096 < v k)) nv = true then (2 : Int) else 0) = r := by rw [← HR.out, if_neg (show ¬ (gc ≠ 0) from fun h => h h1), if_neg (show ¬ (m < 1 ∨ 256 < m) by omega), if_neg (show ¬ ((nv : Int) ≠ S) from fun h => h h4)]
  have e4 : ((nv : Int) != S) = false := by rw [h4]; simp
  clear HR h1 h4
  have HR := Lib.hid hr
  clear hr
  go_enter Tryz.func25, Tryz.ntmps25
  go_wp2_with fail
  try rw [hW0]
  refine HG.out.mono ?_
  rintro e W1 ⟨rfl, hb⟩
  dsimp only
  obtain ⟨⟨_, z0, z1, z2⟩, hrow, hb1⟩ := HB.out _ hb
  have Hb1 := Lib.hid hb1
  clear hb1 HG hb HB c0 c1 c2 hW0
  have HA := Lib.hid hrow
  clear hrow
  go_wp2
  go_loopw [7] (fun i wr => ∃ k : Nat, k ≤ nv ∧ i = .int .i64 k ∧ wr = W1 ∧ Hid (∀ j, j < k → 0 ≤ v j ∧ v j ≤ 4096)) (fun i _ => nv - (intOf i).toNat)
  case atStart => exact ⟨0, by omega, rfl, rfl, Lib.hid (fun j hj => by omega)⟩
  case round =>
    obtain ⟨k, hk, rfl, rfl, He⟩ := hrel
    by_cases hlt : k < nv
    · obtain ⟨ab, ao, rfl, hab, hca⟩ := VRow.cells HA.out hlt
      have hxa := hca k hlt
      have i0 : (0 : Int) ≤ (k : Int) := by omega
      have i1 : (k : Int) < (nv : Int) := by omega
      have HF := Lib.hid (fun (h : v k < 0 ∨ 4096 < v k) => show (2 : Int) = r from by rw [← HR.out, if_pos (anyN_true.2 ⟨k, hlt, decide_eq_true h⟩)])
      have HE := Lib.hid (fun (h : 0 ≤ v k ∧ v k ≤ 4096) (j : Nat) (hj : j < k + 1) => show 0 ≤ v j ∧ v j ≤ 4096 from by
        by_cases e : j = k
        · rw [e]; exact h
        · exact He.out j (by omega))
      obtain ⟨x, hx⟩ : ∃ x, v k = x := ⟨_, rfl⟩
      rw [hx] at HE HF hxa
      clear hca hx He
      by_cases hc : x < 0
      · have HF2 := Lib.hid (HF.out (.inl hc))
        clear HE HF
        go_wp2
        go_ret
        exact ⟨by rw [← HF2.out]; rfl, Hb1.out⟩
      · by_cases hc2 : x > 4096
        · have HF2 := Lib.hid (HF.out (.inr hc2))
          clear HE HF
          go_wp2
          go_ret
          exact ⟨by rw [← HF2.out]; rfl, Hb1.out⟩
        · have HE2 := Lib.hid (HE.out ⟨by omega, by omega⟩)
          clear HE HF
          go_wp2
          go_roundw
          case rel => exact ⟨k + 1, by omega, by go_num, by first | trivial | rfl, HE2⟩
          case measure => simp [intOf]; omega
    · have HF : Hid ((0 : Int) = r) := Lib.hid (by rw [← HR.out, if_neg (by rw [anyN_false.2 fun j hj => decide_eq_false (by have := He.out j (by omega); omega)]; exact Bool.noConfusion)])
      go_wp2
      go_ret
      exact ⟨by rw [← HF.out]; rfl, Hb1.out⟩
set_option maxRecDepth 100000 in
set_option maxHeartbeats 8000000 in
theorem rSums_any (LL : Int) (N n : Nat) (E : Nat → Nat → Int) (p : Option Addr) (c : Nat) (v : Nat → Int) (pv : Option Addr) (cv : Nat) (hN : N ≤ 1000000) (hn : n ≤ 1000000) (hok : EdOk N n E) (hv : ∀ s, s < N → 0 ≤ v s ∧ v s ≤ 1000000) (w : World) (hE : EdgAt w p n E) (hV : VRow w pv N v) :
    Calls Tryz.prog 31 #[.agg #[.int .i64 LL, .int .i64 (N : Int), .slice p n c], .slice pv N cv] w (RetVecB N (smE (frE E) (toE E) v n) w) := by
  obtain ⟨W0, hW0⟩ : ∃ W, w.alloc (.cells #[.int .i64 LL, .int .i64 (N : Int), .slice p n c] 24) = W := ⟨_, rfl⟩
  have hb0 : Below w.heap.size w W0 := by rw [← hW0]; exact (Below.refl _ _).alloc (Nat.le_refl _) _
  have hbx : BoxAt3 W0 w.heap.size (.int .i64 LL) (.int .i64 (N : Int)) (.slice p n c) := by rw [← hW0]; exact BoxAt3.new w _ _ _ _
  have hE0 : EdgAt W0 p n E := hE.mono (Nat.le_refl _) hb0
  have hV0 : VRow W0 pv N v := hV.below (Nat.le_refl _) hb0
  have hmk := make_is N hN W0
  have Hz : Hid (VAt (W0.alloc (.cells (madeCells #[.int .i64 0] N) 3)) W0.heap.size N (smE (frE E) (toE E) v 0)) := Lib.hid ((made_ints W0 N 3).congr fun _ _ => rfl)
  have Hb : Hid (Below W0.heap.size W0 (W0.alloc (.cells (madeCells #[.int .i64 0] N) 3))) := Lib.hid ((Below.refl _ _).alloc (Nat.le_refl _) _)
  have HBx := Lib.hid hbx
  have HBl := Lib.hid hbx.1
  obtain ⟨_, c0, c1, c2⟩ := hbx
  have hsz : w.heap.size ≤ W0.heap.size := hb0.size
  have Hb0 := Lib.hid hb0
  have HE := Lib.hid hE0
  have HV := Lib.hid hV0
  have Hv := Lib.hid hv
  have Hok := Lib.hid (fun i hi => edOk_nat hok i hi)
  have Hsm : Hid (∀ i, i < n → ∀ s, 0 ≤ smE (frE E) (toE E) v i s ∧ smE (frE E) (toE E) v i s ≤ 1000000000000) := Lib.hid (fun i hi s => by
    have ht : ∀ e, e < i → toE E e < N := fun e he => (edOk_nat hok e (by omega)).2.2.2
    refine ⟨smE_nonneg ht (fun s hs => (hv s hs).1) s, ?_⟩
    have := smE_le (B := 1000000) (by omega) ht (fun s hs => (hv s hs).2) (fr := frE E) s
    omega)
  clear hE hV hE0 hV0 hb0 hok hv
  go_enter Tryz.func31, Tryz.ntmps31
  go_wp2_with fail
  clear hmk c0 c1 c2
  obtain ⟨gr, hgr⟩ : ∃ g, W0.heap.size = g := ⟨_, rfl⟩
  rw [hgr] at Hz hsz Hb HBl ⊢
  generalize W0.alloc (.cells (madeCells #[.int .i64 0] N) 3) = V at *
  have Hgr := Lib.hid hgr
  clear hW0 hgr
  obtain ⟨g0, hg0⟩ : ∃ g, w.heap.size = g := ⟨_, rfl⟩
  rw [hg0] at HBx HBl
  try rw [hg0]
  have Hg0 := Lib.hid hg0
  clear hg0
  go_loopw [6] (fun tv wr => ∃ i : Nat, i ≤ n ∧ tv = .int .i64 (i : Nat) ∧ Hid (VAt wr gr N (smE (frE E) (toE E) v i)) ∧ Hid (Below gr W0 wr)) (fun tv _ => n - (intOf tv).toNat)
  case atStart => exact ⟨0, by omega, by go_num, Hz, Hb⟩
  case round =>
    clear Hz Hb
    obtain ⟨i, hi, rfl, Hz, Hb⟩ := hrel
    obtain ⟨_, k0, k1, k2⟩ := HBx.out.below (by rw [Hgr.out]; exact Hb.out)
    by_cases hil : i < n
    · have i3 : (i : Int) < (n : Int) := by omega
      have i4 : (0 : Int) ≤ (i : Int) := by omega
      obtain ⟨e0, e2, ea, eb⟩ := Hok.out i hil
      have hew : EdgAt wr p n E := HE.out.mono (by rw [Hgr.out]; exact Nat.le_refl _) Hb.out
      have hvw : VRow wr pv N v := HV.out.below (by rw [Hgr.out]; exact Nat.le_refl _) Hb.out
      have habn : ∀ ab ao, p = some ⟨ab, ao, none⟩ → ab ≠ gr := by
        intro ab ao hp
        rcases HE.out with h | ⟨ab', ao', he, hlt, _⟩
        · omega
        · rw [hp] at he; cases he; rw [Hgr.out] at hlt; omega
      have hvbn : ∀ ab ao, pv = some ⟨ab, ao, none⟩ → ab ≠ gr := by
        intro ab ao hp
        rcases HV.out with h | ⟨ab', ao', he, hlt, _⟩
        · omega
        · rw [hp] at he; cases he; rw [Hgr.out] at hlt; omega
      rcases hew with h | ⟨ab, ao, rfl, hab, hac⟩
      · omega
      have x0 : wr.cell? ⟨ab, ao + i * 3, none⟩ = some (.int .i64 (E i 0)) := by simpa [edC] using hac i hil 0 (by omega)
      have x2 : wr.cell? ⟨ab, ao + i * 3 + 2, none⟩ = some (.int .i64 (E i 2)) := by simpa [edC] using hac i hil 2 (by omega)
      obtain ⟨vb, vo, rfl, hvb, hvc⟩ := VRow.cells hvw eb
      have y0 := hvc (toE E i) eb
      have Hn1 := Lib.hid (show g0 ≠ gr ∧ ab ≠ gr ∧ vb ≠ gr from ⟨by have := HBl.out; omega, habn _ _ rfl, hvbn _ _ rfl⟩)
      have hs0 := Hsm.out i hil (frE E i)
      have hv0 := Hv.out _ eb
      have hnx : ∀ s, smE (frE E) (toE E) v (i + 1) s = if s = frE E i then smE (frE E) (toE E) v i (frE E i) + v (toE E i) else smE (frE E) (toE E) v i s := fun s => by
        rw [smE_succ]
        by_cases h : s = frE E i
        · rw [if_pos h, if_pos h.symm, h]
        · rw [if_neg h, if_neg (Ne.symm h), Int.add_zero]
      have Hnx := Lib.hid hnx
      rw [e0] at x0
      rw [e2] at x2
      obtain ⟨s, hs⟩ : ∃ s, frE E i = s := ⟨_, rfl⟩
      obtain ⟨t, ht⟩ : ∃ s, toE E i = s := ⟨_, rfl⟩
      obtain ⟨y, hy⟩ : ∃ s, v t = s := ⟨_, rfl⟩
      rw [hs] at x0 ea hs0 Hnx
      rw [ht] at x2 eb y0 hv0 Hnx
      rw [hy] at y0 hv0 Hnx
      obtain ⟨z, hz1⟩ : ∃ z, smE (frE E) (toE E) v i s + y = z := ⟨_, rfl⟩
      obtain ⟨x, hx⟩ : ∃ z, smE (frE E) (toE E) v i s = z := ⟨_, rfl⟩
      rw [hx] at hz1 hs0
      have HNX : Hid (∀ k, smE (frE E) (toE E) v (i + 1) k = if k = s then z else smE (frE E) (toE E) v i k) := Lib.hid (fun k => by rw [Hnx.out k, hx, hz1])
      have wz : IntKind.i64.wrap (x + y) = z := by rw [hz1]; exact IntWalk.i64_in _ (by omega)
      have wz2 : wrap64 (x + y) = z := by rw [hz1]; exact IntWalk.wrap64_in _ (by omega)
      have HX := Lib.hid hx
      have s1 : (s : Int) < (N : Int) := by omega
      have s0 : (0 : Int) ≤ (s : Int) := by omega
      have t1 : (t : Int) < (N : Int) := by omega
      have t0 : (0 : Int) ≤ (t : Int) := by omega
      have Hgw := Lib.hid Hz.out.1
      clear hac hvc hnx Hnx e0 e2 hs ht hy hz1 hx hs0 hv0 habn hvbn hab hvb
      go_upto_region 5 with (fail)
      obtain ⟨SS, hSe⟩ : ∃ SS : World → Prop, SS = fun W => W.cell? ⟨g0, 2, none⟩ = some (.slice (some ⟨ab, ao, none⟩) n c) ∧ W.cell? ⟨ab, ao + i * 3, none⟩ = some (.int .i64 (s : Int)) ∧ W.cell? ⟨ab, ao + i * 3 + 2, none⟩ = some (.int .i64 (t : Int)) ∧ W.cell? ⟨vb, vo + t, none⟩ = some (.int .i64 y) := ⟨_, rfl⟩
      have HS : Hid (∀ W, Below wr.heap.size wr W → SS W) := Lib.hid (fun W hW => by
        rw [hSe]; exact ⟨cell_below hW k2, cell_below hW x0, cell_below hW x2, cell_below hW y0⟩)
      have HXX : Hid (∀ W, Below wr.heap.size wr W → VAt W gr N (smE (frE E) (toE E) v i) ∧ Below gr W0 W) := Lib.hid (fun W hW => ⟨Hz.out.below hW Hgw.out, Hb.out.trans (hW.mono (Nat.le_of_lt Hgw.out))⟩)
      have hd : Below wr.heap.size wr wr.drew := (Below.refl _ _).drew
      clear x0 x2 y0 k0 k1 k2 Hz Hb Hgw
      refine wp_region_held_drew (S := SS) (by kernel_rfl) (HS.out _ hd) (fun hSS => ?_)
      refine wpAnyH_take (i := 0) (v := ?_) rfl (by kernel_rfl) (by kernel_rfl) (by kernel_rfl) (fun _ _ _ h => h) (Or.inl ⟨by rfl, ?_⟩) (HS.out _ hd) ?_
      rotate_left 1
      next => intro w hSw; rw [hSe] at hSw; obtain ⟨s1, s2, s3, s4⟩ := hSw; go_simp; try with_reducible rfl
      try simp only [Act.put, List.getElem_toArray, List.getElem_cons_zero, List.getElem_cons_succ, List.setIfInBounds_toArray, List.set_cons_zero, List.set_cons_succ]
      refine wpAnyH_take (i := 1) (v := ?_) rfl (by kernel_rfl) (by kernel_rfl) (by kernel_rfl) (fun _ _ _ h => h) (Or.inl ⟨by rfl, ?_⟩) (HS.out _ hd) ?_
      rotate_left 1
      next => intro w hSw; rw [hSe] at hSw; obtain ⟨s1, s2, s3, s4⟩ := hSw; go_simp; try with_reducible rfl
      try simp only [Act.put, List.getElem_toArray, List.getElem_cons_zero, List.getElem_cons_succ, List.setIfInBounds_toArray, List.set_cons_zero, List.set_cons_succ]
      refine wpAnyH_take (i := 2) (v := ?_) rfl (by kernel_rfl) (by kernel_rfl) (by kernel_rfl) (fun _ _ _ h => h) (Or.inl ⟨by rfl, ?_⟩) (HS.out _ hd) ?_
      rotate_left 1
      next => intro w hSw; rw [hSe] at hSw; obtain ⟨s1, s2, s3, s4⟩ := hSw; go_simp; try with_reducible rfl
      try simp only [Act.put, List.getElem_toArray, List.getElem_cons_zero, List.getElem_cons_succ, List.setIfInBounds_toArray, List.set_cons_zero, List.set_cons_succ]
      refine wpAnyH_take (i := 3) (v := ?_) rfl (by kernel_rfl) (by kernel_rfl) (by kernel_rfl) (fun _ _ _ h => h) (Or.inl ⟨by rfl, ?_⟩) (HS.out _ hd) ?_
      rotate_left 1
      next => intro w hSw; rw [hSe] at hSw; obtain ⟨s1, s2, s3, s4⟩ := hSw; go_simp; try with_reducible rfl
      try simp only [Act.put, List.getElem_toArray, List.getElem_cons_zero, List.getElem_cons_succ, List.setIfInBounds_toArray, List.set_cons_zero, List.set_cons_succ]
      refine wpAnyH_take (i := 4) (v := ?_) rfl (by kernel_rfl) (by kernel_rfl) (by kernel_rfl) (fun _ _ _ h => h) (Or.inl ⟨by rfl, ?_⟩) (HS.out _ hd) ?_
      rotate_left 1
      next => intro w hSw; rw [hSe] at hSw; obtain ⟨s1, s2, s3, s4⟩ := hSw; go_simp; try with_reducible rfl
      try simp only [Act.put, List.getElem_toArray, List.getElem_cons_zero, List.getElem_cons_succ, List.setIfInBounds_toArray, List.set_cons_zero, List.set_cons_succ]
      refine wpAnyH_take (i := 5) (v := ?_) rfl (by kernel_rfl) (by kernel_rfl) (by kernel_rfl) (fun _ _ _ h => h) (Or.inl ⟨by rfl, ?_⟩) (HS.out _ hd) ?_
      rotate_left 1
      next => intro w hSw; rw [hSe] at hSw; obtain ⟨s1, s2, s3, s4⟩ := hSw; go_simp; try with_reducible rfl
      try simp only [Act.put, List.getElem_toArray, List.getElem_cons_zero, List.getElem_cons_succ, List.setIfInBounds_toArray, List.set_cons_zero, List.set_cons_succ]
      refine wpAnyH_take (i := 6) (v := ?_) rfl (by kernel_rfl) (by kernel_rfl) (by kernel_rfl) (fun _ _ _ h => h) (Or.inl ⟨by rfl, ?_⟩) (HS.out _ hd) ?_
      rotate_left 1
      next => intro w hSw; rw [hSe] at hSw; obtain ⟨s1, s2, s3, s4⟩ := hSw; go_simp; try with_reducible rfl
      try simp only [Act.put, List.getElem_toArray, List.getElem_cons_zero, List.getElem_cons_succ, List.setIfInBounds_toArray, List.set_cons_zero, List.set_cons_succ]
      refine wpAnyH_take (i := 7) (v := ?_) rfl (by kernel_rfl) (by kernel_rfl) (by kernel_rfl) (fun _ _ _ h => h) (Or.inl ⟨by rfl, ?_⟩) (HS.out _ hd) ?_
      rotate_left 1
      next => intro w hSw; rw [hSe] at hSw; obtain ⟨s1, s2, s3, s4⟩ := hSw; go_simp; try with_reducible rfl
      try simp only [Act.put, List.getElem_toArray, List.getElem_cons_zero, List.getElem_cons_succ, List.setIfInBounds_toArray, List.set_cons_zero, List.set_cons_succ]
      refine wpAnyH_take (i := 8) (v := ?_) rfl (by kernel_rfl) (by kernel_rfl) (by kernel_rfl) (fun _ _ _ h => h) (Or.inl ⟨by rfl, ?_⟩) (HS.out _ hd) ?_
      rotate_left 1
      next => intro w hSw; rw [hSe] at hSw; obtain ⟨s1, s2, s3, s4⟩ := hSw; go_simp; try with_reducible rfl
      try simp only [Act.put, List.getElem_toArray, List.getElem_cons_zero, List.getElem_cons_succ, List.setIfInBounds_toArray, List.set_cons_zero, List.set_cons_succ]
      refine wpAnyH_take (i := 9) (v := ?_) rfl (by kernel_rfl) (by kernel_rfl) (by kernel_rfl) (fun _ _ _ h => h) (Or.inl ⟨by rfl, ?_⟩) (HS.out _ hd) ?_
      rotate_left 1
      next => intro w hSw; rw [hSe] at hSw; obtain ⟨s1, s2, s3, s4⟩ := hSw; go_simp; try with_reducible rfl
      try simp only [Act.put, List.getElem_toArray, List.getElem_cons_zero, List.getElem_cons_succ, List.setIfInBounds_toArray, List.set_cons_zero, List.set_cons_succ]
      refine wpAnyH_take (i := 10) (v := ?_) rfl (by kernel_rfl) (by kernel_rfl) (by kernel_rfl) (fun _ _ _ h => h) (Or.inl ⟨by rfl, ?_⟩) (HS.out _ hd) ?_
      rotate_left 1
      next => intro w hSw; rw [hSe] at hSw; obtain ⟨s1, s2, s3, s4⟩ := hSw; go_simp; try with_reducible rfl
      try simp only [Act.put, List.getElem_toArray, List.getElem_cons_zero, List.getElem_cons_succ, List.setIfInBounds_toArray, List.set_cons_zero, List.set_cons_succ]
      refine wpAnyH_take (i := 11) (v := ?_) rfl (by kernel_rfl) (by kernel_rfl) (by kernel_rfl) (fun _ _ _ h => h) (Or.inl ⟨by rfl, ?_⟩) (HS.out _ hd) ?_
      rotate_left 1
      next => intro w hSw; rw [hSe] at hSw; obtain ⟨s1, s2, s3, s4⟩ := hSw; go_simp; try with_reducible rfl
      try simp only [Act.put, List.getElem_toArray, List.getElem_cons_zero, List.getElem_cons_succ, List.setIfInBounds_toArray, List.set_cons_zero, List.set_cons_succ]
      refine wpAnyH_take (i := 12) (v := ?_) rfl (by kernel_rfl) (by kernel_rfl) (by kernel_rfl) (fun _ _ _ h => h) (Or.inl ⟨by rfl, ?_⟩) (HS.out _ hd) ?_
      rotate_left 1
      next => intro w hSw; rw [hSe] at hSw; obtain ⟨s1, s2, s3, s4⟩ := hSw; go_simp; try with_reducible rfl
      try simp only [Act.put, List.getElem_toArray, List.getElem_cons_zero, List.getElem_cons_succ, List.setIfInBounds_toArray, List.set_cons_zero, List.set_cons_succ]
      refine wpAnyH_take (i := 13) (v := ?_) rfl (by kernel_rfl) (by kernel_rfl) (by kernel_rfl) (fun _ _ _ h => h) (Or.inl ⟨by rfl, ?_⟩) (HS.out _ hd) ?_
      rotate_left 1
      next => intro w hSw; rw [hSe] at hSw; obtain ⟨s1, s2, s3, s4⟩ := hSw; go_simp; try with_reducible rfl
      try simp only [Act.put, List.getElem_toArray, List.getElem_cons_zero, List.getElem_cons_succ, List.setIfInBounds_toArray, List.set_cons_zero, List.set_cons_succ]
      refine wpAnyH_take (i := 14) (v := ?_) rfl (by kernel_rfl) (by kernel_rfl) (by kernel_rfl) (fun _ _ _ h => h) (Or.inl ⟨by rfl, ?_⟩) (HS.out _ hd) ?_
      rotate_left 1
      next => intro w hSw; rw [hSe] at hSw; obtain ⟨s1, s2, s3, s4⟩ := hSw; go_simp; try with_reducible rfl
      try simp only [Act.put, List.getElem_toArray, List.getElem_cons_zero, List.getElem_cons_succ, List.setIfInBounds_toArray, List.set_cons_zero, List.set_cons_succ]
      refine wpAnyH_take (i := 16) (v := ?_) rfl (by kernel_rfl) (by kernel_rfl) (by kernel_rfl) (fun _ _ _ h => h) (Or.inl ⟨by rfl, ?_⟩) (HS.out _ hd) ?_
      rotate_left 1
      next => intro w hSw; rw [hSe] at hSw; obtain ⟨s1, s2, s3, s4⟩ := hSw; go_simp; try with_reducible rfl
      try simp only [Act.put, List.getElem_toArray, List.getElem_cons_zero, List.getElem_cons_succ, List.setIfInBounds_toArray, List.set_cons_zero, List.set_cons_succ]
      refine wpAnyH_take (i := 17) (v := ?_) rfl (by kernel_rfl) (by kernel_rfl) (by kernel_rfl) (fun _ _ _ h => h) (Or.inl ⟨by rfl, ?_⟩) (HS.out _ hd) ?_
      rotate_left 1
      next => intro w hSw; rw [hSe] at hSw; obtain ⟨s1, s2, s3, s4⟩ := hSw; go_simp; try with_reducible rfl
      try simp only [Act.put, List.getElem_toArray, List.getElem_cons_zero, List.getElem_cons_succ, List.setIfInBounds_toArray, List.set_cons_zero, List.set_cons_succ]
      refine wpAnyH_take (i := 18) (v := ?_) rfl (by kernel_rfl) (by kernel_rfl) (by kernel_rfl) (fun _ _ _ h => h) (Or.inl ⟨by rfl, ?_⟩) (HS.out _ hd) ?_
      rotate_left 1
      next => intro w hSw; rw [hSe] at hSw; obtain ⟨s1, s2, s3, s4⟩ := hSw; go_simp; try with_reducible rfl
      try simp only [Act.put, List.getElem_toArray, List.getElem_cons_zero, List.getElem_cons_succ, List.setIfInBounds_toArray, List.set_cons_zero, List.set_cons_succ]
      refine wpAnyH_take (i := 19) (v := ?_) rfl (by kernel_rfl) (by kernel_rfl) (by kernel_rfl) (fun _ _ _ h => h) (Or.inl ⟨by rfl, ?_⟩) (HS.out _ hd) ?_
      rotate_left 1
      next => intro w hSw; rw [hSe] at hSw; obtain ⟨s1, s2, s3, s4⟩ := hSw; go_simp; try with_reducible rfl
      try simp only [Act.put, List.getElem_toArray, List.getElem_cons_zero, List.getElem_cons_succ, List.setIfInBounds_toArray, List.set_cons_zero, List.set_cons_succ]
      refine wpAnyH_take (i := 20) (v := ?_) rfl (by kernel_rfl) (by kernel_rfl) (by kernel_rfl) (fun _ _ _ h => h) (Or.inl ⟨by rfl, ?_⟩) (HS.out _ hd) ?_
      rotate_left 1
      next => intro w hSw; rw [hSe] at hSw; obtain ⟨s1, s2, s3, s4⟩ := hSw; go_simp; try with_reducible rfl
      try simp only [Act.put, List.getElem_toArray, List.getElem_cons_zero, List.getElem_cons_succ, List.setIfInBounds_toArray, List.set_cons_zero, List.set_cons_succ]
      refine wpAnyH_take (i := 21) (v := ?_) rfl (by kernel_rfl) (by kernel_rfl) (by kernel_rfl) (fun _ _ _ h => h) (Or.inl ⟨by rfl, ?_⟩) (HS.out _ hd) ?_
      rotate_left 1
      next => intro w hSw; rw [hSe] at hSw; obtain ⟨s1, s2, s3, s4⟩ := hSw; go_simp; try with_reducible rfl
      try simp only [Act.put, List.getElem_toArray, List.getElem_cons_zero, List.getElem_cons_succ, List.setIfInBounds_toArray, List.set_cons_zero, List.set_cons_succ]
      refine wpAnyH_take (i := 22) (v := ?_) rfl (by kernel_rfl) (by kernel_rfl) (by kernel_rfl) (fun _ _ _ h => h) (Or.inl ⟨by rfl, ?_⟩) (HS.out _ hd) ?_
      rotate_left 1
      next => intro w hSw; rw [hSe] at hSw; obtain ⟨s1, s2, s3, s4⟩ := hSw; go_simp; try with_reducible rfl
      try simp only [Act.put, List.getElem_toArray, List.getElem_cons_zero, List.getElem_cons_succ, List.setIfInBounds_toArray, List.set_cons_zero, List.set_cons_succ]
      refine wpAnyH_take (i := 23) (v := ?_) rfl (by kernel_rfl) (by kernel_rfl) (by kernel_rfl) (fun _ _ _ h => h) (Or.inl ⟨by rfl, ?_⟩) (HS.out _ hd) ?_
      rotate_left 1
      next => intro w hSw; rw [hSe] at hSw; obtain ⟨s1, s2, s3, s4⟩ := hSw; go_simp; try with_reducible rfl
      try simp only [Act.put, List.getElem_toArray, List.getElem_cons_zero, List.getElem_cons_succ, List.setIfInBounds_toArray, List.set_cons_zero, List.set_cons_succ]
      refine wpAnyH_take (i := 24) (v := ?_) rfl (by kernel_rfl) (by kernel_rfl) (by kernel_rfl) (fun _ _ _ h => h) (Or.inl ⟨by rfl, ?_⟩) (HS.out _ hd) ?_
      rotate_left 1
      next => intro w hSw; rw [hSe] at hSw; obtain ⟨s1, s2, s3, s4⟩ := hSw; go_simp; try with_reducible rfl
      try simp only [Act.put, List.getElem_toArray, List.getElem_cons_zero, List.getElem_cons_succ, List.setIfInBounds_toArray, List.set_cons_zero, List.set_cons_succ]
      try simp only [Act.put, List.getElem_toArray, List.getElem_cons_zero, List.getElem_cons_succ, List.setIfInBounds_toArray, List.set_cons_zero, List.set_cons_succ]
      refine wpAnyH_ready (rs := [15]) (by kernel_rfl) (by simp) ?_
      refine AllReadyH.cons rfl (fun K hK => ?_) AllReadyH.nil
      obtain ⟨hv1, _⟩ := HXX.out _ hd
      obtain ⟨z0, z1⟩ := hv1.2 s ea
      dsimp only at z0
      rw [HX.out] at z0
      go_simp
      refine hK.out _ _ (HS.out _ hd) (fun _ => ?_)
      clear hK K z0 z1 hv1
      refine wpAnyH_take (i := 25) (v := ?_) rfl (by kernel_rfl) (by kernel_rfl) (by kernel_rfl) (fun _ _ _ h => h) (Or.inl ⟨by rfl, ?_⟩) (HS.out _ hd) ?_
      rotate_left 1
      next => intro w hSw; rw [hSe] at hSw; obtain ⟨s1, s2, s3, s4⟩ := hSw; go_simp; try with_reducible rfl
      try simp only [Act.put, List.getElem_toArray, List.getElem_cons_zero, List.getElem_cons_succ, List.setIfInBounds_toArray, List.set_cons_zero, List.set_cons_succ]
      refine wpAnyH_take (i := 26) (v := ?_) rfl (by kernel_rfl) (by kernel_rfl) (by kernel_rfl) (fun _ _ _ h => h) (Or.inl ⟨by rfl, ?_⟩) (HS.out _ hd) ?_
      rotate_left 1
      next => intro w hSw; rw [hSe] at hSw; obtain ⟨s1, s2, s3, s4⟩ := hSw; go_simp; try with_reducible rfl
      try simp only [Act.put, List.getElem_toArray, List.getElem_cons_zero, List.getElem_cons_succ, List.setIfInBounds_toArray, List.set_cons_zero, List.set_cons_succ]
      try simp only [Act.put, List.getElem_toArray, List.getElem_cons_zero, List.getElem_cons_succ, List.setIfInBounds_toArray, List.set_cons_zero, List.set_cons_succ]
      refine wpAnyH_ready (rs := [27]) (by kernel_rfl) (by simp) ?_
      refine AllReadyH.cons rfl (fun K hK => ?_) AllReadyH.nil
      obtain ⟨hv1, hv2⟩ := HXX.out _ hd
      obtain ⟨z0, z1⟩ := hv1.2 s ea
      have hss := HS.out _ hd
      have hs2 : SS (wr.drew.setCell ⟨gr, s, none⟩ (.int .i64 z)) := by
        rw [hSe] at hss ⊢
        obtain ⟨s1, s2, s3, s4⟩ := hss
        obtain ⟨n1, n2, n3⟩ := Hn1.out
        refine ⟨?_, ?_, ?_, ?_⟩ <;> (rw [World.cell?_setCell_other _ _ _ _ (by intro hh; simp only [Addr.mk.injEq] at hh; omega)]; assumption)
      have F1 := Lib.hid ((hv1.set (k := s) z).congr fun k _ => (HNX.out k).symm)
      have F2 := Lib.hid (hv2.setCell (p := ⟨gr, s, none⟩) (Nat.le_refl _) (.int .i64 z))
      go_simp
      refine hK.out _ _ hs2 (fun _ => ?_)
      clear hK K z0 z1 hss hs2 hv1 hv2
      refine wpAnyH_done (by kernel_rfl) ?_ _
      rw [World.setCell_drew] at F1 F2
      go_wp2_with fail
      go_roundw
      case rel => exact ⟨i + 1, by omega, by go_num, F1, F2⟩
      case measure => simp [intOf]; omega
    · have i3 : ¬ (i : Int) < (n : Int) := by omega
      have hie : i = n := by omega
      rw [hie] at Hz
      clear hie
      go_wp2
      go_ret
      try rw [← Hg0.out]
      exact ⟨gr, rfl, Hz.out, hsz, Hb0.out.trans (Hb.out.mono hsz)⟩
end Go.Proofs.YtlaoijfphkhchaaGreat
