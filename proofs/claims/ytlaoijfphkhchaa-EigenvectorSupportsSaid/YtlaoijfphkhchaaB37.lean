/- eigenvector.refusal. -/
import Derived.Test.YtlaoijfphkhchaaB35
import Derived.Test.YtlaoijfphkhchaaB36
namespace Go.Proofs.Ytlaoijfphkhchaa
open Go.RowKit Go.Shelf
def rfsB (fr te : Nat → Nat) (n N m : Nat) (v : Nat → Int) : Bool := !anyN (fun s => decide (v s ≤ 0 ∨ (m : Int) * v s ≤ smE fr te v n s)) N
theorem rfsB_true {fr te : Nat → Nat} {n N m : Nat} {v : Nat → Int} : rfsB fr te n N m v = true ↔ Rfs fr te n N m v := by
  unfold rfsB
  rw [Bool.not_eq_true', anyN_false]
  constructor
  · intro h s hs
    have := h s hs
    rw [decide_eq_false_iff_not] at this
    omega
  · intro h s hs
    have := h s hs
    rw [decide_eq_false_iff_not]
    omega
theorem cmpI_lt {a b : Int} (h : a < b) : cmpI a b < 0 := by unfold cmpI; rw [if_pos h]; omega
theorem cmpI_ge {a b : Int} (h : b ≤ a) : 0 ≤ cmpI a b := by unfold cmpI; rw [if_neg (by omega)]; split <;> omega
theorem cmpI_le {a b : Int} (h : a ≤ b) : cmpI a b ≤ 0 := by unfold cmpI; split; omega; rw [if_neg (by omega)]; omega
theorem cmpI_gt {a b : Int} (h : b < a) : 0 < cmpI a b := by unfold cmpI; rw [if_neg (by omega), if_pos (by omega)]; omega
set_option maxRecDepth 100000 in
set_option maxHeartbeats 8000000 in
theorem refusal_any (LL : Int) (N n m : Nat) (E : Nat → Nat → Int) (p : Option Addr) (c : Nat) (v : Nat → Int) (pv : Option Addr) (cv : Nat) (hN : N ≤ 1000000) (hn : n ≤ 1000000) (hm : m ≤ 256) (hok : EdOk N n E) {e : Nat} (he : e ≤ 100000) (hv : ∀ s, s < N → Bn (v s) e) (w : World) (hE : EdgAt w p n E) (hV : RowF w pv N v) :
    Calls Try.prog 69 #[.agg #[.int .i64 LL, .int .i64 (N : Int), .slice p n c], .int .i64 (m : Int), .slice pv N cv] w (RetB (rfsB (frE E) (toE E) n N m v) w) := by
  obtain ⟨W0, hW0⟩ : ∃ W, w.alloc (.cells #[.int .i64 LL, .int .i64 (N : Int), .slice p n c] 24) = W := ⟨_, rfl⟩
  have hb0 : Below w.heap.size w W0 := by rw [← hW0]; exact (Below.refl _ _).alloc (Nat.le_refl _) _
  have hbx : BoxAt3 W0 w.heap.size (.int .i64 LL) (.int .i64 (N : Int)) (.slice p n c) := by rw [← hW0]; exact BoxAt3.new w _ _ _ _
  have HSu := Lib.hid (sumsZ_any LL N n E p c v pv cv hN hn hok he hv W0 (hE.mono (Nat.le_refl _) hb0) (hV.below (Nat.le_refl _) hb0))
  have HV : Hid (∀ W, Below W0.heap.size W0 W → RowF W pv N v ∧ Below w.heap.size w W) := Lib.hid (fun W hW => ⟨(hV.below (Nat.le_refl _) hb0).below (Nat.le_refl _) hW, hb0.trans (hW.mono hb0.size)⟩)
  have Hsm : Hid (∀ s, Bn (smE (frE E) (toE E) v n s) (e + 20)) := Lib.hid (fun s => by
    refine Bn.dot (e := e) (m := 20) n (by omega) fun j hj => ?_
    split
    · exact hv _ (edOk_nat hok j hj).2.2.2
    · exact Bn.zero _)
  have Hv := Lib.hid hv
  have HOf := Lib.hid (fun W => of_any (m : Int) (by omega) (by omega) W)
  have hmb : Bn (m : Int) 8 := by unfold Bn; omega
  have Hmb := Lib.hid hmb
  obtain ⟨_, c0, c1, c2⟩ := hbx
  obtain ⟨r, hr⟩ : ∃ r, rfsB (frE E) (toE E) n N m v = r := ⟨_, rfl⟩
  rw [hr]
  have HF := Lib.hid (show (∃ s, s < N ∧ (v s ≤ 0 ∨ (m : Int) * v s ≤ smE (frE E) (toE E) v n s)) → false = r from fun ⟨s, hs, h⟩ => by
    rw [← hr]; unfold rfsB; rw [anyN_true.2 ⟨s, hs, decide_eq_true h⟩]; rfl)
  have HT := Lib.hid (show (∀ s, s < N → 0 < v s ∧ smE (frE E) (toE E) v n s < (m : Int) * v s) → true = r from fun h => by rw [← hr]; exact (rfsB_true.2 h).symm)
  clear hr hE hV hb0 hok hv hmb
  go_enter Try.func69, Try.ntmps69
  go_wp2_with fail
  try rw [hW0]
  refine HSu.out.mono ?_
  rintro e W1 ⟨g1, rfl, hz, hg1, hb⟩
  dsimp only
  have HZ : Hid (∀ W, Below W1.heap.size W1 W → RowF W (some ⟨g1, 0, none⟩) N (smE (frE E) (toE E) v n) ∧ Below W0.heap.size W0 W) := Lib.hid (fun W hW => ⟨(hz.kept (hW.block _ hz.z.1)).z.row, hb.trans (hW.mono hb.size)⟩)
  have Hb : Hid (Below W1.heap.size W1 W1) := Lib.hid (Below.refl _ _)
  have HN : Hid (∀ s, s < 0 → 0 < v s ∧ smE (frE E) (toE E) v n s < (m : Int) * v s) := Lib.hid (fun s hs => by omega)
  clear hz hg1 hb HSu c0 c1 c2 hW0
  go_wp2_with fail
  go_loopw [13] (fun tv wr => ∃ i : Nat, i ≤ N ∧ tv = .int .i64 (i : Nat) ∧ Hid (∀ s, s < i → 0 < v s ∧ smE (frE E) (toE E) v n s < (m : Int) * v s) ∧ Hid (Below W1.heap.size W1 wr)) (fun tv _ => N - (intOf tv).toNat)
  case atStart => exact ⟨0, by omega, by go_num, HN, Hb⟩
  case round =>
    clear HN Hb
    obtain ⟨i, hi, rfl, HN, Hb⟩ := hrel
    by_cases hil : i < N
    · have i3 : (i : Int) < (N : Int) := by omega
      have i4 : (0 : Int) ≤ (i : Int) := by omega
      obtain ⟨hzr, hbw⟩ := HZ.out _ Hb.out
      obtain ⟨hvr, _⟩ := HV.out _ hbw
      obtain ⟨zb, zo, he, _, hzc⟩ := RowF.cells hzr hil
      cases he
      obtain ⟨x0, x1⟩ := hzc i hil
      rw [Nat.zero_add] at x0 x1
      obtain ⟨vb, vo, he2, _, hvc⟩ := RowF.cells hvr hil
      obtain ⟨y0, y1⟩ := hvc i hil
      have hvi := Hv.out i hil
      have hsi := Hsm.out i
      have hpr : Bn ((m : Int) * v i) (e + 8) := (Hmb.out.mul hvi).up (by omega)
      have HA := Lib.hid (fun (h : v i ≤ 0 ∨ (m : Int) * v i ≤ smE (frE E) (toE E) v n i) => HF.out ⟨i, hil, h⟩)
      have HNx := Lib.hid (fun (h : 0 < v i ∧ smE (frE E) (toE E) v n i < (m : Int) * v i) (s : Nat) (hs : s < i + 1) => show 0 < v s ∧ smE (frE E) (toE E) v n s < (m : Int) * v s from by
        by_cases e : s = i
        · rw [e]; exact h
        · exact HN.out s (by omega))
      obtain ⟨x, hx⟩ : ∃ x, smE (frE E) (toE E) v n i = x := ⟨_, rfl⟩
      obtain ⟨y, hy⟩ : ∃ y, v i = y := ⟨_, rfl⟩
      rw [hx] at x0 x1 hsi HA HNx
      rw [hy] at y0 y1 hvi hpr HA HNx
      have HC0 := Lib.hid (fun W => cmp_any (w := W) (canon y) ⟨false, ⟨#[]⟩⟩ (hvi.size _ (by omega)) (Nat.zero_le _))
      have HMl := Lib.hid (fun W => mulc_any (m : Int) y (Hmb.out.size _ (by omega)) (hvi.size _ (by omega)) W)
      have HC1 := Lib.hid (fun W => cmp_any (w := W) (canon x) (canon ((m : Int) * y)) (hsi.size _ (by omega)) (hpr.size _ (by omega)))
      rw [valZ_canon] at HC0
      rw [valZ_canon, valZ_canon] at HC1
      rw [show valZ ⟨false, ⟨#[]⟩⟩ = 0 from rfl] at HC0
      obtain ⟨c0, hc0⟩ : ∃ z, cmpI y 0 = z := ⟨_, rfl⟩
      obtain ⟨c1, hc1⟩ : ∃ z, cmpI x ((m : Int) * y) = z := ⟨_, rfl⟩
      have HQ : Hid ((y ≤ 0 → c0 ≤ 0) ∧ (0 < y → 0 < c0) ∧ (x < (m : Int) * y → c1 < 0) ∧ ((m : Int) * y ≤ x → 0 ≤ c1)) := Lib.hid ⟨fun h => by rw [← hc0]; exact cmpI_le h, fun h => by rw [← hc0]; exact cmpI_gt h, fun h => by rw [← hc1]; exact cmpI_lt h, fun h => by rw [← hc1]; exact cmpI_ge h⟩
      rw [hc0] at HC0
      rw [hc1] at HC1
      obtain ⟨XX, hXX⟩ : ∃ Z, canon x = Z := ⟨_, rfl⟩
      obtain ⟨YY, hYY⟩ : ∃ Z, canon y = Z := ⟨_, rfl⟩
      obtain ⟨PP, hPP⟩ : ∃ Z, canon ((m : Int) * y) = Z := ⟨_, rfl⟩
      obtain ⟨MM, hMM⟩ : ∃ Z, canon (m : Int) = Z := ⟨_, rfl⟩
      rw [hXX] at x0 x1 HC1
      rw [hYY] at y0 y1 HC0 HMl
      rw [hPP] at HC1 HMl
      rw [hMM] at HMl HOf
      subst he2
      have Hbw := Lib.hid (HV.out _ hbw).2
      have HbW := Lib.hid hbw
      clear hzr hvr hzc hvc hvi hsi hpr hx hy hc0 hc1 hXX hYY hPP hMM HN
      go_upto_region 4 with (fail)
      have hal := (Below.refl wr.heap.size wr).alloc (Nat.le_refl _) (.cells #[.bool XX.neg, .string XX.mag] 28)
      have hbx := BoxAt.new wr (.bool XX.neg) (.string XX.mag) 28
      have y2 := cell_below hal y0
      have y3 := cell_below hal y1
      have Hb2 := Lib.hid (Hb.out.trans (hal.mono Hb.out.size))
      have Hbw2 := Lib.hid (Hbw.out.trans (hal.mono Hbw.out.size))
      clear x0 x1 y0 y1 hal Hb Hbw hbw HbW
      obtain ⟨gb, hgb⟩ : ∃ g, wr.heap.size = g := ⟨_, rfl⟩
      rw [hgb] at hbx ⊢
      clear hgb
      generalize wr.alloc (.cells #[.bool XX.neg, .string XX.mag] 28) = X at *
      obtain ⟨SS, hSe⟩ : ∃ SS : World → Prop, SS = fun W => W.cell? ⟨vb, vo + i * 2, none⟩ = some (.bool YY.neg) ∧ W.cell? ⟨vb, vo + i * 2 + 1, none⟩ = some (.string YY.mag) ∧ W.cell? ⟨gb, 0, none⟩ = some (.bool XX.neg) ∧ W.cell? ⟨gb, 1, none⟩ = some (.string XX.mag) := ⟨_, rfl⟩
      have HS : Hid (∀ W, Below X.heap.size X W → SS W) := Lib.hid (fun W hW => by
        have b := hbx.below hW hbx.2.2.2.2
        rw [hSe]; exact ⟨cell_below hW y2, cell_below hW y3, b.1, b.2.1⟩)
      have hd : Below X.heap.size X X.drew := (Below.refl _ _).drew
      have HE : Hid (∀ W, Below X.heap.size X W → Below W1.heap.size W1 W ∧ Below w.heap.size w W) := Lib.hid (fun W hW => ⟨Hb2.out.trans (hW.mono Hb2.out.size), Hbw2.out.trans (hW.mono Hbw2.out.size)⟩)
      clear hbx y2 y3 Hb2 Hbw2
      by_cases h1 : y ≤ 0
      · have h2 : c0 ≤ 0 := HQ.out.1 h1
        have HR := Lib.hid (HA.out (.inl h1))
        clear h1 HA HNx HQ
        refine wp_region_held_drew (S := SS) (by kernel_rfl) (HS.out _ hd) (fun hSS => ?_)
        refine wpAnyH_take (i := 0) (v := ?_) rfl (by kernel_rfl) (by kernel_rfl) (by kernel_rfl) (fun _ _ _ h => h) (Or.inl ⟨by rfl, ?_⟩) (HS.out _ hd) ?_
        rotate_left 1
        next => intro w hSw; rw [hSe] at hSw; obtain ⟨s1, s2, s3, s4⟩ := hSw; go_simp; try with_reducible rfl
        try simp only [Act.put, List.getElem_toArray, List.getElem_cons_zero, List.getElem_cons_succ, List.setIfInBounds_toArray, List.set_cons_zero, List.set_cons_succ]
        refine wpAnyH_take (i := 1) (v := ?_) rfl (by kernel_rfl) (by kernel_rfl) (by kernel_rfl) (fun _ _ _ h => h) (Or.inl ⟨by rfl, ?_⟩) (HS.out _ hd) ?_
        rotate_left 1
        next => intro w hSw; rw [hSe] at hSw; obtain ⟨s1, s2, s3, s4⟩ := hSw; go_simp; try with_reducible rfl
        try simp only [Act.put, List.getElem_toArray, List.getElem_cons_zero, List.getElem_cons_succ, List.setIfInBounds_toArray, List.set_cons_zero, List.set_cons_succ]
        refine wpAnyH_take (i := 2) (v := ?_) rfl (by kernel_rfl) (by kernel_rfl) (by kernel_rfl) (fun _ _ _ h => h) (Or.inl ⟨by rfl, ?_⟩) (HS.out _ hd) ?_
        rotate_left 1
        next => intro w hSw; rw [hSe] at hSw; obtain ⟨s1, s2, s3, s4⟩ := hSw; go_simp; try with_reducible rfl
        try simp only [Act.put, List.getElem_toArray, List.getElem_cons_zero, List.getElem_cons_succ, List.setIfInBounds_toArray, List.set_cons_zero, List.set_cons_succ]
        refine wpAnyH_take (i := 3) (v := ?_) rfl (by kernel_rfl) (by kernel_rfl) (by kernel_rfl) (fun _ _ _ h => h) (Or.inl ⟨by rfl, ?_⟩) (HS.out _ hd) ?_
        rotate_left 1
        next => intro w hSw; rw [hSe] at hSw; obtain ⟨s1, s2, s3, s4⟩ := hSw; go_simp; try with_reducible rfl
        try simp only [Act.put, List.getElem_toArray, List.getElem_cons_zero, List.getElem_cons_succ, List.setIfInBounds_toArray, List.set_cons_zero, List.set_cons_succ]
        refine wpAnyH_take (i := 4) (v := ?_) rfl (by kernel_rfl) (by kernel_rfl) (by kernel_rfl) (fun _ _ _ h => h) (Or.inl ⟨by rfl, ?_⟩) (HS.out _ hd) ?_
        rotate_left 1
        next => intro w hSw; rw [hSe] at hSw; obtain ⟨s1, s2, s3, s4⟩ := hSw; go_simp; try with_reducible rfl
        try simp only [Act.put, List.getElem_toArray, List.getElem_cons_zero, List.getElem_cons_succ, List.setIfInBounds_toArray, List.set_cons_zero, List.set_cons_succ]
        try simp only [Act.put, List.getElem_toArray, List.getElem_cons_zero, List.getElem_cons_succ, List.setIfInBounds_toArray, List.set_cons_zero, List.set_cons_succ]
        refine wpAnyH_ready (rs := [5]) (by kernel_rfl) (by simp) ?_
        refine AllReadyH.cons rfl (fun K hK => ?_) AllReadyH.nil
        go_simp
        refine (HC0.out _).mono ?_
        rintro e w1 ⟨rfl, hbc⟩
        have hb1 : Below X.heap.size X w1 := hd.trans (hbc.mono hd.size)
        dsimp only
        refine hK.out _ _ (HS.out _ hb1) (fun _ => ?_)
        clear hK K hbc
        refine wpAnyH_take (i := 6) (v := ?_) rfl (by kernel_rfl) (by kernel_rfl) (by kernel_rfl) (fun _ _ _ h => h) (Or.inl ⟨by rfl, ?_⟩) (HS.out _ hb1) ?_
        rotate_left 1
        next => intro w hSw; rw [hSe] at hSw; obtain ⟨s1, s2, s3, s4⟩ := hSw; go_simp; try with_reducible rfl
        try simp only [Act.put, List.getElem_toArray, List.getElem_cons_zero, List.getElem_cons_succ, List.setIfInBounds_toArray, List.set_cons_zero, List.set_cons_succ]
        refine wpAnyH_take (i := 7) (v := ?_) rfl (by kernel_rfl) (by kernel_rfl) (by kernel_rfl) (fun _ _ _ h => h) (Or.inl ⟨by rfl, ?_⟩) (HS.out _ hb1) ?_
        rotate_left 1
        next => intro w hSw; rw [hSe] at hSw; obtain ⟨s1, s2, s3, s4⟩ := hSw; go_simp; try with_reducible rfl
        try simp only [Act.put, List.getElem_toArray, List.getElem_cons_zero, List.getElem_cons_succ, List.setIfInBounds_toArray, List.set_cons_zero, List.set_cons_succ]
        refine wpAnyH_take (i := 8) (v := undef) rfl (by kernel_rfl) (by kernel_rfl) (by kernel_rfl) (fun _ _ _ h => h) (Or.inr ⟨by rfl, rfl⟩) (HS.out _ hb1) ?_
        try simp only [Act.put, List.getElem_toArray, List.getElem_cons_zero, List.getElem_cons_succ, List.setIfInBounds_toArray, List.set_cons_zero, List.set_cons_succ]
        refine wpAnyH_take (i := 9) (v := undef) rfl (by kernel_rfl) (by kernel_rfl) (by kernel_rfl) (fun _ _ _ h => h) (Or.inr ⟨by rfl, rfl⟩) (HS.out _ hb1) ?_
        try simp only [Act.put, List.getElem_toArray, List.getElem_cons_zero, List.getElem_cons_succ, List.setIfInBounds_toArray, List.set_cons_zero, List.set_cons_succ]
        refine wpAnyH_take (i := 10) (v := undef) rfl (by kernel_rfl) (by kernel_rfl) (by kernel_rfl) (fun _ _ _ h => h) (Or.inr ⟨by rfl, rfl⟩) (HS.out _ hb1) ?_
        try simp only [Act.put, List.getElem_toArray, List.getElem_cons_zero, List.getElem_cons_succ, List.setIfInBounds_toArray, List.set_cons_zero, List.set_cons_succ]
        refine wpAnyH_take (i := 11) (v := undef) rfl (by kernel_rfl) (by kernel_rfl) (by kernel_rfl) (fun _ _ _ h => h) (Or.inr ⟨by rfl, rfl⟩) (HS.out _ hb1) ?_
        try simp only [Act.put, List.getElem_toArray, List.getElem_cons_zero, List.getElem_cons_succ, List.setIfInBounds_toArray, List.set_cons_zero, List.set_cons_succ]
        refine wpAnyH_take (i := 12) (v := undef) rfl (by kernel_rfl) (by kernel_rfl) (by kernel_rfl) (fun _ _ _ h => h) (Or.inr ⟨by rfl, rfl⟩) (HS.out _ hb1) ?_
        try simp only [Act.put, List.getElem_toArray, List.getElem_cons_zero, List.getElem_cons_succ, List.setIfInBounds_toArray, List.set_cons_zero, List.set_cons_succ]
        refine wpAnyH_take (i := 13) (v := undef) rfl (by kernel_rfl) (by kernel_rfl) (by kernel_rfl) (fun _ _ _ h => h) (Or.inr ⟨by rfl, rfl⟩) (HS.out _ hb1) ?_
        try simp only [Act.put, List.getElem_toArray, List.getElem_cons_zero, List.getElem_cons_succ, List.setIfInBounds_toArray, List.set_cons_zero, List.set_cons_succ]
        refine wpAnyH_take (i := 14) (v := undef) rfl (by kernel_rfl) (by kernel_rfl) (by kernel_rfl) (fun _ _ _ h => h) (Or.inr ⟨by rfl, rfl⟩) (HS.out _ hb1) ?_
        try simp only [Act.put, List.getElem_toArray, List.getElem_cons_zero, List.getElem_cons_succ, List.setIfInBounds_toArray, List.set_cons_zero, List.set_cons_succ]
        refine wpAnyH_take (i := 15) (v := undef) rfl (by kernel_rfl) (by kernel_rfl) (by kernel_rfl) (fun _ _ _ h => h) (Or.inr ⟨by rfl, rfl⟩) (HS.out _ hb1) ?_
        try simp only [Act.put, List.getElem_toArray, List.getElem_cons_zero, List.getElem_cons_succ, List.setIfInBounds_toArray, List.set_cons_zero, List.set_cons_succ]
        refine wpAnyH_take (i := 16) (v := undef) rfl (by kernel_rfl) (by kernel_rfl) (by kernel_rfl) (fun _ _ _ h => h) (Or.inr ⟨by rfl, rfl⟩) (HS.out _ hb1) ?_
        try simp only [Act.put, List.getElem_toArray, List.getElem_cons_zero, List.getElem_cons_succ, List.setIfInBounds_toArray, List.set_cons_zero, List.set_cons_succ]
        refine wpAnyH_take (i := 17) (v := undef) rfl (by kernel_rfl) (by kernel_rfl) (by kernel_rfl) (fun _ _ _ h => h) (Or.inr ⟨by rfl, rfl⟩) (HS.out _ hb1) ?_
        try simp only [Act.put, List.getElem_toArray, List.getElem_cons_zero, List.getElem_cons_succ, List.setIfInBounds_toArray, List.set_cons_zero, List.set_cons_succ]
        refine wpAnyH_take (i := 18) (v := ?_) rfl (by kernel_rfl) (by kernel_rfl) (by kernel_rfl) (fun _ _ _ h => h) (Or.inl ⟨by rfl, ?_⟩) (HS.out _ hb1) ?_
        rotate_left 1
        next => intro w hSw; rw [hSe] at hSw; obtain ⟨s1, s2, s3, s4⟩ := hSw; go_simp; try with_reducible rfl
        try simp only [Act.put, List.getElem_toArray, List.getElem_cons_zero, List.getElem_cons_succ, List.setIfInBounds_toArray, List.set_cons_zero, List.set_cons_succ]
        refine wpAnyH_done (by kernel_rfl) ?_ _
        go_wp2
        go_ret
        exact ⟨by rw [← HR.out]; rfl, (HE.out _ hb1).2⟩
      · have h2 : ¬ c0 ≤ 0 := by have := HQ.out.2.1 (by omega); omega
        by_cases h3 : (m : Int) * y ≤ x
        · have h4 : 0 ≤ c1 := HQ.out.2.2.2 h3
          have HR := Lib.hid (HA.out (.inr h3))
          clear h1 h3 HA HNx HQ
          refine wp_region_held_drew (S := SS) (by kernel_rfl) (HS.out _ hd) (fun hSS => ?_)
          refine wpAnyH_take (i := 0) (v := ?_) rfl (by kernel_rfl) (by kernel_rfl) (by kernel_rfl) (fun _ _ _ h => h) (Or.inl ⟨by rfl, ?_⟩) (HS.out _ hd) ?_
          rotate_left 1
          next => intro w hSw; rw [hSe] at hSw; obtain ⟨s1, s2, s3, s4⟩ := hSw; go_simp; try with_reducible rfl
          try simp only [Act.put, List.getElem_toArray, List.getElem_cons_zero, List.getElem_cons_succ, List.setIfInBounds_toArray, List.set_cons_zero, List.set_cons_succ]
          refine wpAnyH_take (i := 1) (v := ?_) rfl (by kernel_rfl) (by kernel_rfl) (by kernel_rfl) (fun _ _ _ h => h) (Or.inl ⟨by rfl, ?_⟩) (HS.out _ hd) ?_
          rotate_left 1
          next => intro w hSw; rw [hSe] at hSw; obtain ⟨s1, s2, s3, s4⟩ := hSw; go_simp; try with_reducible rfl
          try simp only [Act.put, List.getElem_toArray, List.getElem_cons_zero, List.getElem_cons_succ, List.setIfInBounds_toArray, List.set_cons_zero, List.set_cons_succ]
          refine wpAnyH_take (i := 2) (v := ?_) rfl (by kernel_rfl) (by kernel_rfl) (by kernel_rfl) (fun _ _ _ h => h) (Or.inl ⟨by rfl, ?_⟩) (HS.out _ hd) ?_
          rotate_left 1
          next => intro w hSw; rw [hSe] at hSw; obtain ⟨s1, s2, s3, s4⟩ := hSw; go_simp; try with_reducible rfl
          try simp only [Act.put, List.getElem_toArray, List.getElem_cons_zero, List.getElem_cons_succ, List.setIfInBounds_toArray, List.set_cons_zero, List.set_cons_succ]
          refine wpAnyH_take (i := 3) (v := ?_) rfl (by kernel_rfl) (by kernel_rfl) (by kernel_rfl) (fun _ _ _ h => h) (Or.inl ⟨by rfl, ?_⟩) (HS.out _ hd) ?_
          rotate_left 1
          next => intro w hSw; rw [hSe] at hSw; obtain ⟨s1, s2, s3, s4⟩ := hSw; go_simp; try with_reducible rfl
          try simp only [Act.put, List.getElem_toArray, List.getElem_cons_zero, List.getElem_cons_succ, List.setIfInBounds_toArray, List.set_cons_zero, List.set_cons_succ]
          refine wpAnyH_take (i := 4) (v := ?_) rfl (by kernel_rfl) (by kernel_rfl) (by kernel_rfl) (fun _ _ _ h => h) (Or.inl ⟨by rfl, ?_⟩) (HS.out _ hd) ?_
          rotate_left 1
          next => intro w hSw; rw [hSe] at hSw; obtain ⟨s1, s2, s3, s4⟩ := hSw; go_simp; try with_reducible rfl
          try simp only [Act.put, List.getElem_toArray, List.getElem_cons_zero, List.getElem_cons_succ, List.setIfInBounds_toArray, List.set_cons_zero, List.set_cons_succ]
          try simp only [Act.put, List.getElem_toArray, List.getElem_cons_zero, List.getElem_cons_succ, List.setIfInBounds_toArray, List.set_cons_zero, List.set_cons_succ]
          refine wpAnyH_ready (rs := [5]) (by kernel_rfl) (by simp) ?_
          refine AllReadyH.cons rfl (fun K hK => ?_) AllReadyH.nil
          go_simp
          refine (HC0.out _).mono ?_
          rintro e w2 ⟨rfl, hbc⟩
          have hb2 : Below X.heap.size X w2 := hd.trans (hbc.mono hd.size)
          dsimp only
          refine hK.out _ _ (HS.out _ hb2) (fun _ => ?_)
          clear hK K hbc
          refine wpAnyH_take (i := 6) (v := ?_) rfl (by kernel_rfl) (by kernel_rfl) (by kernel_rfl) (fun _ _ _ h => h) (Or.inl ⟨by rfl, ?_⟩) (HS.out _ hb2) ?_
          rotate_left 1
          next => intro w hSw; rw [hSe] at hSw; obtain ⟨s1, s2, s3, s4⟩ := hSw; go_simp; try with_reducible rfl
          try simp only [Act.put, List.getElem_toArray, List.getElem_cons_zero, List.getElem_cons_succ, List.setIfInBounds_toArray, List.set_cons_zero, List.set_cons_succ]
          refine wpAnyH_take (i := 7) (v := ?_) rfl (by kernel_rfl) (by kernel_rfl) (by kernel_rfl) (fun _ _ _ h => h) (Or.inl ⟨by rfl, ?_⟩) (HS.out _ hb2) ?_
          rotate_left 1
          next => intro w hSw; rw [hSe] at hSw; obtain ⟨s1, s2, s3, s4⟩ := hSw; go_simp; try with_reducible rfl
          try simp only [Act.put, List.getElem_toArray, List.getElem_cons_zero, List.getElem_cons_succ, List.setIfInBounds_toArray, List.set_cons_zero, List.set_cons_succ]
          refine wpAnyH_take (i := 8) (v := ?_) rfl (by kernel_rfl) (by kernel_rfl) (by kernel_rfl) (fun _ _ _ h => h) (Or.inl ⟨by rfl, ?_⟩) (HS.out _ hb2) ?_
          rotate_left 1
          next => intro w hSw; rw [hSe] at hSw; obtain ⟨s1, s2, s3, s4⟩ := hSw; go_simp; try with_reducible rfl
          try simp only [Act.put, List.getElem_toArray, List.getElem_cons_zero, List.getElem_cons_succ, List.setIfInBounds_toArray, List.set_cons_zero, List.set_cons_succ]
          refine wpAnyH_take (i := 9) (v := ?_) rfl (by kernel_rfl) (by kernel_rfl) (by kernel_rfl) (fun _ _ _ h => h) (Or.inl ⟨by rfl, ?_⟩) (HS.out _ hb2) ?_
          rotate_left 1
          next => intro w hSw; rw [hSe] at hSw; obtain ⟨s1, s2, s3, s4⟩ := hSw; go_simp; try with_reducible rfl
          try simp only [Act.put, List.getElem_toArray, List.getElem_cons_zero, List.getElem_cons_succ, List.setIfInBounds_toArray, List.set_cons_zero, List.set_cons_succ]
          refine wpAnyH_take (i := 11) (v := ?_) rfl (by kernel_rfl) (by kernel_rfl) (by kernel_rfl) (fun _ _ _ h => h) (Or.inl ⟨by rfl, ?_⟩) (HS.out _ hb2) ?_
          rotate_left 1
          next => intro w hSw; rw [hSe] at hSw; obtain ⟨s1, s2, s3, s4⟩ := hSw; go_simp; try with_reducible rfl
          try simp only [Act.put, List.getElem_toArray, List.getElem_cons_zero, List.getElem_cons_succ, List.setIfInBounds_toArray, List.set_cons_zero, List.set_cons_succ]
          refine wpAnyH_take (i := 12) (v := ?_) rfl (by kernel_rfl) (by kernel_rfl) (by kernel_rfl) (fun _ _ _ h => h) (Or.inl ⟨by rfl, ?_⟩) (HS.out _ hb2) ?_
          rotate_left 1
          next => intro w hSw; rw [hSe] at hSw; obtain ⟨s1, s2, s3, s4⟩ := hSw; go_simp; try with_reducible rfl
          try simp only [Act.put, List.getElem_toArray, List.getElem_cons_zero, List.getElem_cons_succ, List.setIfInBounds_toArray, List.set_cons_zero, List.set_cons_succ]
          refine wpAnyH_take (i := 13) (v := ?_) rfl (by kernel_rfl) (by kernel_rfl) (by kernel_rfl) (fun _ _ _ h => h) (Or.inl ⟨by rfl, ?_⟩) (HS.out _ hb2) ?_
          rotate_left 1
          next => intro w hSw; rw [hSe] at hSw; obtain ⟨s1, s2, s3, s4⟩ := hSw; go_simp; try with_reducible rfl
          try simp only [Act.put, List.getElem_toArray, List.getElem_cons_zero, List.getElem_cons_succ, List.setIfInBounds_toArray, List.set_cons_zero, List.set_cons_succ]
          refine wpAnyH_take (i := 14) (v := ?_) rfl (by kernel_rfl) (by kernel_rfl) (by kernel_rfl) (fun _ _ _ h => h) (Or.inl ⟨by rfl, ?_⟩) (HS.out _ hb2) ?_
          rotate_left 1
          next => intro w hSw; rw [hSe] at hSw; obtain ⟨s1, s2, s3, s4⟩ := hSw; go_simp; try with_reducible rfl
          try simp only [Act.put, List.getElem_toArray, List.getElem_cons_zero, List.getElem_cons_succ, List.setIfInBounds_toArray, List.set_cons_zero, List.set_cons_succ]
          try simp only [Act.put, List.getElem_toArray, List.getElem_cons_zero, List.getElem_cons_succ, List.setIfInBounds_toArray, List.set_cons_zero, List.set_cons_succ]
          refine wpAnyH_ready (rs := [10]) (by kernel_rfl) (by simp) ?_
          refine AllReadyH.cons rfl (fun K hK => ?_) AllReadyH.nil
          go_simp
          refine (HOf.out _).mono ?_
          rintro e w3 ⟨rfl, hbc⟩
          have hb3 : Below X.heap.size X w3 := hb2.trans (hbc.mono hb2.size)
          dsimp only
          refine hK.out _ _ (HS.out _ hb3) (fun _ => ?_)
          clear hK K hbc
          try simp only [Act.put, List.getElem_toArray, List.getElem_cons_zero, List.getElem_cons_succ, List.setIfInBounds_toArray, List.set_cons_zero, List.set_cons_succ]
          refine wpAnyH_ready (rs := [15]) (by kernel_rfl) (by simp) ?_
          refine AllReadyH.cons rfl (fun K hK => ?_) AllReadyH.nil
          go_simp
          refine (HMl.out _).mono ?_
          rintro e w4 ⟨rfl, hbc⟩
          have hb4 : Below X.heap.size X w4 := hb3.trans (hbc.mono hb3.size)
          dsimp only
          refine hK.out _ _ (HS.out _ hb4) (fun _ => ?_)
          clear hK K hbc
          try simp only [Act.put, List.getElem_toArray, List.getElem_cons_zero, List.getElem_cons_succ, List.setIfInBounds_toArray, List.set_cons_zero, List.set_cons_succ]
          refine wpAnyH_ready (rs := [16]) (by kernel_rfl) (by simp) ?_
          refine AllReadyH.cons rfl (fun K hK => ?_) AllReadyH.nil
          go_simp
          refine (HC1.out _).mono ?_
          rintro e w5 ⟨rfl, hbc⟩
          have hb5 : Below X.heap.size X w5 := hb4.trans (hbc.mono hb4.size)
          dsimp only
          refine hK.out _ _ (HS.out _ hb5) (fun _ => ?_)
          clear hK K hbc
          refine wpAnyH_take (i := 17) (v := ?_) rfl (by kernel_rfl) (by kernel_rfl) (by kernel_rfl) (fun _ _ _ h => h) (Or.inl ⟨by rfl, ?_⟩) (HS.out _ hb5) ?_
          rotate_left 1
          next => intro w hSw; rw [hSe] at hSw; obtain ⟨s1, s2, s3, s4⟩ := hSw; go_simp; try with_reducible rfl
          try simp only [Act.put, List.getElem_toArray, List.getElem_cons_zero, List.getElem_cons_succ, List.setIfInBounds_toArray, List.set_cons_zero, List.set_cons_succ]
          refine wpAnyH_take (i := 18) (v := ?_) rfl (by kernel_rfl) (by kernel_rfl) (by kernel_rfl) (fun _ _ _ h => h) (Or.inl ⟨by rfl, ?_⟩) (HS.out _ hb5) ?_
          rotate_left 1
          next => intro w hSw; rw [hSe] at hSw; obtain ⟨s1, s2, s3, s4⟩ := hSw; go_simp; try with_reducible rfl
          try simp only [Act.put, List.getElem_toArray, List.getElem_cons_zero, List.getElem_cons_succ, List.setIfInBounds_toArray, List.set_cons_zero, List.set_cons_succ]
          refine wpAnyH_done (by kernel_rfl) ?_ _
          go_wp2
          go_ret
          exact ⟨by rw [← HR.out]; rfl, (HE.out _ hb5).2⟩
        · have h4 : ¬ 0 ≤ c1 := by have := HQ.out.2.2.1 (by omega); omega
          have HN2 := Lib.hid (HNx.out ⟨by omega, by omega⟩)
          clear h1 h3 HA HNx HQ
          refine wp_region_held_drew (S := SS) (by kernel_rfl) (HS.out _ hd) (fun hSS => ?_)
          refine wpAnyH_take (i := 0) (v := ?_) rfl (by kernel_rfl) (by kernel_rfl) (by kernel_rfl) (fun _ _ _ h => h) (Or.inl ⟨by rfl, ?_⟩) (HS.out _ hd) ?_
          rotate_left 1
          next => intro w hSw; rw [hSe] at hSw; obtain ⟨s1, s2, s3, s4⟩ := hSw; go_simp; try with_reducible rfl
          try simp only [Act.put, List.getElem_toArray, List.getElem_cons_zero, List.getElem_cons_succ, List.setIfInBounds_toArray, List.set_cons_zero, List.set_cons_succ]
          refine wpAnyH_take (i := 1) (v := ?_) rfl (by kernel_rfl) (by kernel_rfl) (by kernel_rfl) (fun _ _ _ h => h) (Or.inl ⟨by rfl, ?_⟩) (HS.out _ hd) ?_
          rotate_left 1
          next => intro w hSw; rw [hSe] at hSw; obtain ⟨s1, s2, s3, s4⟩ := hSw; go_simp; try with_reducible rfl
          try simp only [Act.put, List.getElem_toArray, List.getElem_cons_zero, List.getElem_cons_succ, List.setIfInBounds_toArray, List.set_cons_zero, List.set_cons_succ]
          refine wpAnyH_take (i := 2) (v := ?_) rfl (by kernel_rfl) (by kernel_rfl) (by kernel_rfl) (fun _ _ _ h => h) (Or.inl ⟨by rfl, ?_⟩) (HS.out _ hd) ?_
          rotate_left 1
          next => intro w hSw; rw [hSe] at hSw; obtain ⟨s1, s2, s3, s4⟩ := hSw; go_simp; try with_reducible rfl
          try simp only [Act.put, List.getElem_toArray, List.getElem_cons_zero, List.getElem_cons_succ, List.setIfInBounds_toArray, List.set_cons_zero, List.set_cons_succ]
          refine wpAnyH_take (i := 3) (v := ?_) rfl (by kernel_rfl) (by kernel_rfl) (by kernel_rfl) (fun _ _ _ h => h) (Or.inl ⟨by rfl, ?_⟩) (HS.out _ hd) ?_
          rotate_left 1
          next => intro w hSw; rw [hSe] at hSw; obtain ⟨s1, s2, s3, s4⟩ := hSw; go_simp; try with_reducible rfl
          try simp only [Act.put, List.getElem_toArray, List.getElem_cons_zero, List.getElem_cons_succ, List.setIfInBounds_toArray, List.set_cons_zero, List.set_cons_succ]
          refine wpAnyH_take (i := 4) (v := ?_) rfl (by kernel_rfl) (by kernel_rfl) (by kernel_rfl) (fun _ _ _ h => h) (Or.inl ⟨by rfl, ?_⟩) (HS.out _ hd) ?_
          rotate_left 1
          next => intro w hSw; rw [hSe] at hSw; obtain ⟨s1, s2, s3, s4⟩ := hSw; go_simp; try with_reducible rfl
          try simp only [Act.put, List.getElem_toArray, List.getElem_cons_zero, List.getElem_cons_succ, List.setIfInBounds_toArray, List.set_cons_zero, List.set_cons_succ]
          try simp only [Act.put, List.getElem_toArray, List.getElem_cons_zero, List.getElem_cons_succ, List.setIfInBounds_toArray, List.set_cons_zero, List.set_cons_succ]
          refine wpAnyH_ready (rs := [5]) (by kernel_rfl) (by simp) ?_
          refine AllReadyH.cons rfl (fun K hK => ?_) AllReadyH.nil
          go_simp
          refine (HC0.out _).mono ?_
          rintro e w6 ⟨rfl, hbc⟩
          have hb6 : Below X.heap.size X w6 := hd.trans (hbc.mono hd.size)
          dsimp only
          refine hK.out _ _ (HS.out _ hb6) (fun _ => ?_)
          clear hK K hbc
          refine wpAnyH_take (i := 6) (v := ?_) rfl (by kernel_rfl) (by kernel_rfl) (by kernel_rfl) (fun _ _ _ h => h) (Or.inl ⟨by rfl, ?_⟩) (HS.out _ hb6) ?_
          rotate_left 1
          next => intro w hSw; rw [hSe] at hSw; obtain ⟨s1, s2, s3, s4⟩ := hSw; go_simp; try with_reducible rfl
          try simp only [Act.put, List.getElem_toArray, List.getElem_cons_zero, List.getElem_cons_succ, List.setIfInBounds_toArray, List.set_cons_zero, List.set_cons_succ]
          refine wpAnyH_take (i := 7) (v := ?_) rfl (by kernel_rfl) (by kernel_rfl) (by kernel_rfl) (fun _ _ _ h => h) (Or.inl ⟨by rfl, ?_⟩) (HS.out _ hb6) ?_
          rotate_left 1
          next => intro w hSw; rw [hSe] at hSw; obtain ⟨s1, s2, s3, s4⟩ := hSw; go_simp; try with_reducible rfl
          try simp only [Act.put, List.getElem_toArray, List.getElem_cons_zero, List.getElem_cons_succ, List.setIfInBounds_toArray, List.set_cons_zero, List.set_cons_succ]
          refine wpAnyH_take (i := 8) (v := ?_) rfl (by kernel_rfl) (by kernel_rfl) (by kernel_rfl) (fun _ _ _ h => h) (Or.inl ⟨by rfl, ?_⟩) (HS.out _ hb6) ?_
          rotate_left 1
          next => intro w hSw; rw [hSe] at hSw; obtain ⟨s1, s2, s3, s4⟩ := hSw; go_simp; try with_reducible rfl
          try simp only [Act.put, List.getElem_toArray, List.getElem_cons_zero, List.getElem_cons_succ, List.setIfInBounds_toArray, List.set_cons_zero, List.set_cons_succ]
          refine wpAnyH_take (i := 9) (v := ?_) rfl (by kernel_rfl) (by kernel_rfl) (by kernel_rfl) (fun _ _ _ h => h) (Or.inl ⟨by rfl, ?_⟩) (HS.out _ hb6) ?_
          rotate_left 1
          next => intro w hSw; rw [hSe] at hSw; obtain ⟨s1, s2, s3, s4⟩ := hSw; go_simp; try with_reducible rfl
          try simp only [Act.put, List.getElem_toArray, List.getElem_cons_zero, List.getElem_cons_succ, List.setIfInBounds_toArray, List.set_cons_zero, List.set_cons_succ]
          refine wpAnyH_take (i := 11) (v := ?_) rfl (by kernel_rfl) (by kernel_rfl) (by kernel_rfl) (fun _ _ _ h => h) (Or.inl ⟨by rfl, ?_⟩) (HS.out _ hb6) ?_
          rotate_left 1
          next => intro w hSw; rw [hSe] at hSw; obtain ⟨s1, s2, s3, s4⟩ := hSw; go_simp; try with_reducible rfl
          try simp only [Act.put, List.getElem_toArray, List.getElem_cons_zero, List.getElem_cons_succ, List.setIfInBounds_toArray, List.set_cons_zero, List.set_cons_succ]
          refine wpAnyH_take (i := 12) (v := ?_) rfl (by kernel_rfl) (by kernel_rfl) (by kernel_rfl) (fun _ _ _ h => h) (Or.inl ⟨by rfl, ?_⟩) (HS.out _ hb6) ?_
          rotate_left 1
          next => intro w hSw; rw [hSe] at hSw; obtain ⟨s1, s2, s3, s4⟩ := hSw; go_simp; try with_reducible rfl
          try simp only [Act.put, List.getElem_toArray, List.getElem_cons_zero, List.getElem_cons_succ, List.setIfInBounds_toArray, List.set_cons_zero, List.set_cons_succ]
          refine wpAnyH_take (i := 13) (v := ?_) rfl (by kernel_rfl) (by kernel_rfl) (by kernel_rfl) (fun _ _ _ h => h) (Or.inl ⟨by rfl, ?_⟩) (HS.out _ hb6) ?_
          rotate_left 1
          next => intro w hSw; rw [hSe] at hSw; obtain ⟨s1, s2, s3, s4⟩ := hSw; go_simp; try with_reducible rfl
          try simp only [Act.put, List.getElem_toArray, List.getElem_cons_zero, List.getElem_cons_succ, List.setIfInBounds_toArray, List.set_cons_zero, List.set_cons_succ]
          refine wpAnyH_take (i := 14) (v := ?_) rfl (by kernel_rfl) (by kernel_rfl) (by kernel_rfl) (fun _ _ _ h => h) (Or.inl ⟨by rfl, ?_⟩) (HS.out _ hb6) ?_
          rotate_left 1
          next => intro w hSw; rw [hSe] at hSw; obtain ⟨s1, s2, s3, s4⟩ := hSw; go_simp; try with_reducible rfl
          try simp only [Act.put, List.getElem_toArray, List.getElem_cons_zero, List.getElem_cons_succ, List.setIfInBounds_toArray, List.set_cons_zero, List.set_cons_succ]
          try simp only [Act.put, List.getElem_toArray, List.getElem_cons_zero, List.getElem_cons_succ, List.setIfInBounds_toArray, List.set_cons_zero, List.set_cons_succ]
          refine wpAnyH_ready (rs := [10]) (by kernel_rfl) (by simp) ?_
          refine AllReadyH.cons rfl (fun K hK => ?_) AllReadyH.nil
          go_simp
          refine (HOf.out _).mono ?_
          rintro e w7 ⟨rfl, hbc⟩
          have hb7 : Below X.heap.size X w7 := hb6.trans (hbc.mono hb6.size)
          dsimp only
          refine hK.out _ _ (HS.out _ hb7) (fun _ => ?_)
          clear hK K hbc
          try simp only [Act.put, List.getElem_toArray, List.getElem_cons_zero, List.getElem_cons_succ, List.setIfInBounds_toArray, List.set_cons_zero, List.set_cons_succ]
          refine wpAnyH_ready (rs := [15]) (by kernel_rfl) (by simp) ?_
          refine AllReadyH.cons rfl (fun K hK => ?_) AllReadyH.nil
          go_simp
          refine (HMl.out _).mono ?_
          rintro e w8 ⟨rfl, hbc⟩
          have hb8 : Below X.heap.size X w8 := hb7.trans (hbc.mono hb7.size)
          dsimp only
          refine hK.out _ _ (HS.out _ hb8) (fun _ => ?_)
          clear hK K hbc
          try simp only [Act.put, List.getElem_toArray, List.getElem_cons_zero, List.getElem_cons_succ, List.setIfInBounds_toArray, List.set_cons_zero, List.set_cons_succ]
          refine wpAnyH_ready (rs := [16]) (by kernel_rfl) (by simp) ?_
          refine AllReadyH.cons rfl (fun K hK => ?_) AllReadyH.nil
          go_simp
          refine (HC1.out _).mono ?_
          rintro e w9 ⟨rfl, hbc⟩
          have hb9 : Below X.heap.size X w9 := hb8.trans (hbc.mono hb8.size)
          dsimp only
          refine hK.out _ _ (HS.out _ hb9) (fun _ => ?_)
          clear hK K hbc
          refine wpAnyH_take (i := 17) (v := ?_) rfl (by kernel_rfl) (by kernel_rfl) (by kernel_rfl) (fun _ _ _ h => h) (Or.inl ⟨by rfl, ?_⟩) (HS.out _ hb9) ?_
          rotate_left 1
          next => intro w hSw; rw [hSe] at hSw; obtain ⟨s1, s2, s3, s4⟩ := hSw; go_simp; try with_reducible rfl
          try simp only [Act.put, List.getElem_toArray, List.getElem_cons_zero, List.getElem_cons_succ, List.setIfInBounds_toArray, List.set_cons_zero, List.set_cons_succ]
          refine wpAnyH_take (i := 18) (v := ?_) rfl (by kernel_rfl) (by kernel_rfl) (by kernel_rfl) (fun _ _ _ h => h) (Or.inl ⟨by rfl, ?_⟩) (HS.out _ hb9) ?_
          rotate_left 1
          next => intro w hSw; rw [hSe] at hSw; obtain ⟨s1, s2, s3, s4⟩ := hSw; go_simp; try with_reducible rfl
          try simp only [Act.put, List.getElem_toArray, List.getElem_cons_zero, List.getElem_cons_succ, List.setIfInBounds_toArray, List.set_cons_zero, List.set_cons_succ]
          refine wpAnyH_done (by kernel_rfl) ?_ _
          have F1 := Lib.hid (HE.out _ hb9).1
          go_wp2_with fail
          go_roundw
          case rel => exact ⟨i + 1, by omega, by go_num, HN2, F1⟩
          case measure => simp [intOf]; omega
    · have i3 : ¬ (i : Int) < (N : Int) := by omega
      have HR := Lib.hid (HT.out (fun s hs => HN.out s (by omega)))
      have hbw := (HV.out _ (HZ.out _ Hb.out).2).2
      have Hbw := Lib.hid hbw
      clear hbw
      go_wp2
      go_ret
      exact ⟨by rw [← HR.out]; rfl, Hbw.out⟩
end Go.Proofs.Ytlaoijfphkhchaa
