/- The walk of grooveref04.without. The walks of grooveref04.signed and det. The walk of grooveref04.minors. The walk of grooveref04.minors: the recursion. The walks of grooveref04.Det, Adjugate, Characteristic. -/
import Derived.Test.YtlkoiekdafaapaaGrA
import Derived.Test.YtlkoiekdafaapaaDet
import Derived.Laws.StructEq
import Derived.Test.YtlkoiekdafaapaaBnA
import Derived.Test.YtlkoiekdafaapaaApw
import Derived.Test.YtlkoiekdafaapaaMin
import Derived.Test.YtlkoiekdafaapaaGr7
namespace Go.Proofs.Ytlkoiekdafaapaa
open Go.RowKit Go.Shelf

/-- How many of the first i are not j. -/
def skipN (j i : Nat) : Nat := if i ≤ j then i else i - 1
theorem skipN_le (j i : Nat) : skipN j i ≤ i := by unfold skipN; split <;> omega
theorem skipN_same (j : Nat) : skipN j (j + 1) = skipN j j := by unfold skipN; rw [if_neg (by omega), if_pos (by omega)]; rfl
theorem skipN_next {j i : Nat} (h : i ≠ j) : skipN j (i + 1) = skipN j i + 1 := by unfold skipN; split <;> split <;> omega
theorem skipN_end {j m : Nat} (h : j < m + 1) : skipN j (m + 1) = m := by unfold skipN; rw [if_neg (by omega)]; rfl
theorem woF_at {F : Nat → Nat → Int} {row col i k : Nat} (hi : i ≠ row) (hk : k ≠ col) : woF F row col (skipN row i) (skipN col k) = F i k := by
  unfold woF skipN
  congr 1
  · split <;> split <;> omega
  · split <;> split <;> omega
theorem zsF_succ (f : Nat → Int) (n : Nat) : zsF f (n + 1) = zsF f n ++ [f n] := by
  unfold zsF
  rw [List.range_succ, List.map_append]; rfl
theorem SumH.low {w : World} {B C : Nat} {v : Value} {i n : Nat} {S : Nat → Nat → Int} (h : SumH w B v i n S) (hC : C ≤ B) : SumH w C v i n S := by
  obtain ⟨Q, A, h1, h2⟩ := h
  refine ⟨Q, A, ?_, fun j hj => ⟨(h2 j hj).1, Nat.le_trans hC (h2 j hj).2⟩⟩
  obtain ⟨h3, h4⟩ := h1
  refine ⟨h3, ?_⟩
  rcases h4 with h4 | ⟨g, cap, cur, h5, h6, h7⟩
  · exact .inl h4
  · exact .inr ⟨g, cap, cur, h5, Nat.le_trans hC h6, h7⟩
set_option maxRecDepth 100000 in
set_option maxHeartbeats 4000000 in
theorem refWithout_any (n m : Nat) (p : Option Addr) (cp : Nat) (F : Nat → Nat → Int) (row col : Nat) (hnm : n = m + 1) (hr : row < n) (hc : col < n) (hn : n ≤ 1000000) (w : World) (hF : MatF w p n n F) :
    Calls Try.prog 70 #[.slice p n cp, .int .i64 (row : Int), .int .i64 (col : Int)] w (RetMat m m (woF F row col) w) := by
  obtain ⟨pb, po, rfl, hpb, _⟩ := hF.cells (i := 0) (by omega)
  have hst := SumH.made w (B := w.heap.size) m (woF F row col) (Nat.le_refl _)
  have hb0 := (Below.refl w.heap.size w).alloc (Nat.le_refl _) (.cells #[] 24)
  have HF := Lib.hid hF
  have Hst := Lib.hid hst
  have Hb0 := Lib.hid hb0
  have Hnm := Lib.hid hnm
  have Hr := Lib.hid hr
  have Hc := Lib.hid hc
  clear hF hst hb0 hnm hr hc
  go_enter Try.func70, Try.ntmps70
  go_wp2_with fail
  go_loopw [7, 8] (fun v iv wr => ∃ i : Nat, i ≤ n ∧ iv = .int .i64 (i : Nat) ∧ Hid (SumH wr w.heap.size v (skipN row i) m (woF F row col)) ∧ Hid (Below w.heap.size w wr)) (fun _ iv _ => n - (intOf iv).toNat)
  case atStart => exact ⟨0, by omega, by go_num, Hst, Hb0⟩
  case round =>
    clear Hst Hb0
    obtain ⟨i, hi, rfl, HS, HB⟩ := hrel
    by_cases hlt : i < n
    · have i1 : (i : Int) < (n : Int) := by omega
      by_cases hir : i = row
      · have e1 : ((i : Int) == (row : Int)) = true := by rw [beq_iff_eq]; omega
        have HS2 : Hid (SumH wr w.heap.size u7 (skipN row (i + 1)) m (woF F row col)) := Lib.hid (by rw [show skipN row (i + 1) = skipN row i from by rw [hir]; exact skipN_same row]; exact HS.out)
        clear hir HS
        go_wp2
        go_roundw
        case rel => exact ⟨i + 1, by omega, by go_num, HS2, HB⟩
        case measure => simp [intOf]; omega
      · have e1 : ((i : Int) == (row : Int)) = false := by rw [beq_eq_false_iff_ne]; omega
        have Hir := Lib.hid hir
        clear hir
        obtain ⟨u, hu⟩ : ∃ u, skipN row i = u := ⟨_, rfl⟩
        rw [hu] at HS
        have Hu := Lib.hid hu
        clear hu
        have hz : OwnZ (wr.alloc (.cells #[] 27)) wr.heap.size (.slice (some ⟨wr.heap.size, 0, none⟩) 0 0) (zsF (woF F row col u) (skipN col 0)) := OwnZ.made wr (Nat.le_refl _)
        have hbz : Below wr.heap.size wr (wr.alloc (.cells #[] 27)) := (Below.refl _ _).alloc (Nat.le_refl _) _
        have Hz := Lib.hid hz
        have Hbz := Lib.hid hbz
        clear hz hbz
        go_wp2_with fail
        obtain ⟨y, hy⟩ : ∃ y, wr = y := ⟨_, rfl⟩
        rw [hy] at HS HB Hz Hbz ⊢
        clear hy
        go_loopw [9, 10] (fun v kv wx => ∃ k : Nat, k ≤ n ∧ kv = .int .i64 (k : Nat) ∧ Hid (OwnZ wx y.heap.size v (zsF (woF F row col u) (skipN col k))) ∧ Hid (Below y.heap.size y wx)) (fun _ kv _ => n - (intOf kv).toNat)
        case atStart => exact ⟨0, by omega, by go_num, Hz, Hbz⟩
        case round =>
          clear Hz Hbz
          obtain ⟨k, hk, rfl, HZ, HY⟩ := hrel
          by_cases hkl : k < n
          · have k1 : (k : Int) < (n : Int) := by omega
            by_cases hkc : k = col
            · have e2 : ((k : Int) != (col : Int)) = false := by rw [hkc, bne_self_eq_false]
              have HZ2 : Hid (OwnZ wr y.heap.size u9 (zsF (woF F row col u) (skipN col (k + 1)))) := Lib.hid (by rw [show skipN col (k + 1) = skipN col k from by rw [hkc]; exact skipN_same col]; exact HZ.out)
              clear hkc HZ
              go_wp2
              go_roundw
              case rel => exact ⟨k + 1, by omega, by go_num, HZ2, HY⟩
              case measure => simp [intOf]; omega
            · have e2 : ((k : Int) != (col : Int)) = true := by rw [bne_iff_ne]; omega
              obtain ⟨rb, ro, rc, a5, a6, a7⟩ := HF.out.at hlt hkl
              have hww := HB.out.trans (HY.out.mono HB.out.size)
              have a5 := cell_below hww a5
              have a6 := cell_below hww a6
              have a7 := cell_below hww a7
              have hnx : zsF (woF F row col u) (skipN col (k + 1)) = zsF (woF F row col u) (skipN col k) ++ [F i k] := by
                rw [skipN_next hkc, zsF_succ, ← Hu.out, woF_at Hir.out hkc]
              have hkn := skipN_le col k
              have hys := HY.out.size
              have Hnx := Lib.hid hnx
              have Hkn := Lib.hid hkn
              have Hys := Lib.hid hys
              clear hnx hkn hys hww hkc
              go_wp2_with (at_builtin; refine wpList_append_zs rfl _ _ rfl y.heap.size _ (zsF (woF F row col u) (skipN col k)) rfl (HZ.out.alloc _) wr.heap.size 0 1 1 [F i k] rfl rfl ?_ ?_ ?_ ?_)
              · intro j hj
                have : j = 0 := by simpa using hj
                subst this
                simp
              · have := Hkn.out
                rw [zsF_len]; simp; omega
              · have := Hys.out
                simp; omega
              · intro v9 w9 hown9 hgr9
                have hb9 : Below y.heap.size y w9 := below_append (HY.out.alloc Hys.out _) (HZ.out.alloc _) hgr9 (by have := Hys.out; simp; omega) (Nat.le_refl _)
                rw [← Hnx.out] at hown9
                have HZ9 := Lib.hid hown9
                have HY9 := Lib.hid hb9
                clear hown9 hgr9 hb9 a5 a6 a7 HZ HY
                go_wp2
                go_roundw
                case rel => exact ⟨k + 1, by omega, by go_num, HZ9, HY9⟩
                case measure => simp [intOf]; omega
          · have k1 : ¬ (k : Int) < (n : Int) := by omega
            have hke : k = m + 1 := by have := Hnm.out; omega
            have hz9 := HZ.out
            rw [hke, skipN_end (by have := Hnm.out; have := Hc.out; omega), ← List.nil_append (zsF _ _)] at hz9
            have hi2 := Hir.out
            have hm0 : 0 < m := by have := Hnm.out; have := Hr.out; omega
            obtain ⟨gl, cl, rfl, hgl, hrow⟩ := hz9.mkRow hm0
            have hb12 : Below wr.heap.size wr (wr.alloc (.cells #[.slice (some ⟨gl, 0, none⟩) m cl] 24)) := (Below.refl _ _).alloc (Nat.le_refl _) _
            have hys := HY.out.size
            have hyw := HB.out.size
            have hs12 := (HS.out.below HY.out).below hb12
            have hrow12 := hrow.kept (hb12.block _ hrow.z.1)
            have hw12 : Below w.heap.size w (wr.alloc (.cells #[.slice (some ⟨gl, 0, none⟩) m cl] 24)) := HB.out.trans ((HY.out.trans (hb12.mono hys)).mono hyw)
            have hnx : skipN row (i + 1) = u + 1 := by rw [skipN_next hi2, Hu.out]
            have hul : u ≤ i := by rw [← Hu.out]; exact skipN_le _ _
            have Hs12 := Lib.hid hs12
            have Hrow12 := Lib.hid hrow12
            have Hw12 := Lib.hid hw12
            have Hnx := Lib.hid hnx
            have Hgl := Lib.hid (Nat.le_trans hyw hgl)
            have Hul := Lib.hid hul
            clear hs12 hrow12 hw12 hnx hgl hul hke hz9 hi2 hm0 hrow hb12 hys hyw HZ HY HS HB
            go_wp2_with (at_builtin; refine wpList_append_row rfl _ _ rfl w.heap.size _ u m (woF F row col) rfl Hs12.out wr.heap.size 1 gl cl rfl ?_ Hrow12.out Hgl.out ?_ ?_ ?_)
            · have := Hul.out
              omega
            · have := Hw12.out.size
              simpa using this
            · intro v13 w13 hs13 hb13
              have Hs13 : Hid (SumH w13 w.heap.size v13 (skipN row (i + 1)) m (woF F row col)) := Lib.hid (by rw [Hnx.out]; exact hs13)
              have HY13 := Lib.hid (Hw12.out.trans hb13)
              clear hs13 hb13 Hs12 Hrow12 Hw12
              go_wp2
              go_roundw
              case rel => exact ⟨i + 1, by omega, by go_num, Hs13, HY13⟩
              case measure => simp [intOf]; omega
    · have i1 : ¬ (i : Int) < (n : Int) := by omega
      have hie : i = m + 1 := by have := Hnm.out; omega
      have hs := HS.out
      rw [hie, skipN_end (by have := Hnm.out; have := Hr.out; omega)] at hs
      obtain ⟨q14, c14, rfl, hM14⟩ := hs.mat
      have HM14 := Lib.hid hM14
      clear hs hM14 hie HS
      go_wp2
      go_ret
      exact ⟨q14, c14, rfl, HM14.out, HB.out⟩
end Go.Proofs.Ytlkoiekdafaapaa

namespace Go.Proofs.Ytlkoiekdafaapaa
open Go.RowKit Go.Shelf

theorem Bn.sg {x : Int} {e : Nat} (h : Bn x e) (n : Nat) : Bn (sgF n x) e := by
  unfold sgF
  split
  · exact h.neg
  · exact h
theorem woF_bn {n : Nat} {F : Nat → Nat → Int} {e : Nat} (h : BnM (n + 1) (n + 1) F e) (i k : Nat) : BnM n n (woF F i k) e := fun a b ha hb => by
  unfold woF
  exact h _ _ (by split <;> omega) (by split <;> omega)
theorem detL_bn (m e : Nat) : ∀ (n : Nat) (F : Nat → Nat → Int), n ≤ 2 ^ m → BnM n n F e → Bn (detL n F) (n * (e + m)) := by
  intro n
  induction n with
  | zero => intro F _ _; exact Bn.one _
  | succ n ih =>
    intro F hn h
    have h1 : Bn (detL (n + 1) F) (e + n * (e + m) + m) := Bn.dot (n + 1) hn fun k hk => ((h 0 k (by omega) hk).mul (ih (woF F 0 k) (by omega) (woF_bn h 0 k))).sg k
    rw [Nat.add_mul, Nat.one_mul]
    exact h1.up (by omega)
set_option maxRecDepth 100000 in
set_option maxHeartbeats 4000000 in
theorem refSigned_any (n : Nat) (x : Int) (hx : (canon x).mag.size ≤ 100000000) (w : World) :
    Calls Try.prog 69 #[.int .i64 (n : Int), .agg #[.bool (canon x).neg, .string (canon x).mag]] w (RetZ (canon (sgF n x)) w) := by
  have n1 : ¬ (w.heap.size = w.heap.size + 1) := by omega
  have n2 : ¬ (w.heap.size + 1 = w.heap.size) := by omega
  by_cases h : n % 2 = 1
  · have e1 : ((n : Int) % 2 == 1) = true := by rw [beq_iff_eq]; omega
    have hs : sgF n x = -x := if_pos h
    have HN := Lib.hid (fun W => refNeg_any (canon x) hx W)
    rw [valZ_canon] at HN
    rw [hs]
    clear hs h hx
    generalize canon (-x) = R at *
    generalize canon x = X at *
    go_enter Try.func69, Try.ntmps69
    go_wp2_with fail
    refine (HN.out _).mono ?_
    rintro e w3 ⟨rfl, hb⟩
    dsimp only
    have hB0 := (BoxAt.new (w.alloc (.cells #[.bool X.neg, .string X.mag] 27)) (.bool false) (.string ⟨#[]⟩) 27).below hb (by simp)
    rw [World.size_alloc] at hB0
    obtain ⟨b0, b1, b2, b3, _⟩ := hB0
    have hbe : Below w.heap.size w w3 := (((Below.refl _ _).alloc (Nat.le_refl _) _).alloc (by simp) _).trans (hb.mono (by simp; omega))
    have Hbe := Lib.hid hbe
    clear hb hbe HN
    go_wp2
    refine bodyPost_ret (v := .agg #[.bool R.neg, .string R.mag]) ?_ rfl ⟨rfl, ?_⟩
    · simp [results, Try.results69, go_sem, b0, b1]
    · refine (Hbe.out.setCell ?_ _).setCell ?_ _ <;> simp
  · have e1 : ((n : Int) % 2 == 1) = false := by rw [beq_eq_false_iff_ne]; omega
    have hs : sgF n x = x := if_neg h
    rw [hs]
    clear hs h hx
    generalize canon x = X at *
    go_enter Try.func69, Try.ntmps69
    go_wp2
    refine bodyPost_ret (v := .agg #[.bool X.neg, .string X.mag]) ?_ rfl ⟨rfl, ?_⟩
    · simp [results, Try.results69, go_sem]
    · exact ((Below.refl _ _).alloc (Nat.le_refl _) _).alloc (by simp) _
set_option maxRecDepth 100000 in
set_option maxHeartbeats 16000000 in
theorem refDet_any (m e : Nat) : ∀ (n : Nat) (p : Option Addr) (cp : Nat) (F : Nat → Nat → Int), n ≤ 2 ^ m → n ≤ 1000000 → n * (e + m) < 80000000 → BnM n n F e → ∀ w : World, MatF w p n n F →
    Calls Try.prog 65 #[.slice p n cp] w (RetZ (canon (detL n F)) w) := by
  intro n
  induction n with
  | zero =>
    intro p cp F _ _ _ _ w _
    have HO := Lib.hid (fun W => refOfInt_any 1 (by omega) (by omega) W)
    show Calls Try.prog 65 #[.slice p 0 cp] w (RetZ (canon 1) w)
    generalize canon 1 = R at *
    go_enter Try.func65, Try.ntmps65
    go_wp2_with fail
    refine (HO.out _).mono ?_
    rintro e w3 ⟨rfl, hb⟩
    dsimp only
    obtain ⟨b0, b1, b2, b3, b4⟩ := (BoxAt.new w (.bool false) (.string ⟨#[]⟩) 27).below hb (by simp)
    have Hbe := Lib.hid (((Below.refl _ _).alloc (Nat.le_refl _) _).trans (hb.mono (by simp)))
    clear hb HO
    go_wp2
    refine bodyPost_ret (v := .agg #[.bool R.neg, .string R.mag]) ?_ rfl ⟨rfl, ?_⟩
    · simp [results, Try.results65, go_sem, b0, b1]
    · refine (Hbe.out.setCell ?_ _).setCell ?_ _ <;> simp
  | succ N ih =>
    intro p cp F hn hn6 hsz hbn w hF
    have hT : ∀ j, j ≤ N + 1 → (canon (dotN (fun k => sgF k (F 0 k * detL N (woF F 0 k))) j)).mag.size ≤ 10000000 := fun j hj => by
      have h1 : Bn (dotN (fun k => sgF k (F 0 k * detL N (woF F 0 k))) j) (e + N * (e + m) + m) := Bn.dot j (Nat.le_trans hj hn) fun k hk => ((hbn 0 k (by omega) (by omega)).mul (detL_bn m e N (woF F 0 k) (by omega) (woF_bn hbn 0 k))).sg k
      rw [Nat.add_mul, Nat.one_mul] at hsz
      exact h1.size _ (by omega)
    have hP : ∀ k, k < N + 1 → (canon (F 0 k)).mag.size ≤ 10000000 ∧ (canon (detL N (woF F 0 k))).mag.size ≤ 10000000 ∧ (canon (F 0 k * detL N (woF F 0 k))).mag.size ≤ 10000000 ∧ (canon (sgF k (F 0 k * detL N (woF F 0 k)))).mag.size ≤ 10000000 := fun k hk => by
      rw [Nat.add_mul, Nat.one_mul] at hsz
      have h1 := hbn 0 k (by omega) hk
      have h2 := detL_bn m e N (woF F 0 k) (by omega) (woF_bn hbn 0 k)
      exact ⟨h1.size _ (by omega), h2.size _ (by omega), (h1.mul h2).size _ (by omega), ((h1.mul h2).sg k).size _ (by omega)⟩
    have HD : Hid (∀ k, k < N + 1 → ∀ (W : World) (q : Option Addr) (c : Nat), MatF W q N N (woF F 0 k) → Calls Try.prog 65 #[.slice q N c] W (RetZ (canon (detL N (woF F 0 k))) W)) := Lib.hid (fun k _ W q c hM => ih q c (woF F 0 k) (by omega) (by omega) (by rw [Nat.add_mul] at hsz; omega) (woF_bn hbn 0 k) W hM)
    have HW : Hid (∀ k, k < N + 1 → ∀ W : World, Below w.heap.size w W → Calls Try.prog 70 #[.slice p (N + 1) cp, .int .i64 0, .int .i64 (k : Int)] W (RetMat N N (woF F 0 k) W)) := Lib.hid (fun k hk W hW => refWithout_any (N + 1) N p cp F 0 k rfl (by omega) hk hn6 W (hF.below (Nat.le_refl _) hW))
    obtain ⟨pb, po, rfl, hpb, _⟩ := hF.cells (i := 0) (by omega)
    have HF := Lib.hid hF
    have HT := Lib.hid hT
    have HP := Lib.hid hP
    have Hdet : Hid (dotN (fun k => sgF k (F 0 k * detL N (woF F 0 k))) (N + 1) = detL (N + 1) F) := Lib.hid rfl
    clear hT hP hF ih hsz hbn hn
    obtain ⟨T, hTe⟩ : ∃ T : Nat → Int, T = fun k => sgF k (F 0 k * detL N (woF F 0 k)) := ⟨_, rfl⟩
    have HTe := Lib.hid hTe
    rw [← hTe] at HT Hdet
    rw [← Hdet.out]
    clear hTe Hdet
    obtain ⟨n, hne⟩ : ∃ n, N + 1 = n := ⟨_, rfl⟩
    have Hne := Lib.hid hne
    rw [hne] at HD HW HF HT HP hn6 ⊢
    have n0 : ((n : Int) == 0) = false := by rw [beq_eq_false_iff_ne]; omega
    have hn0 : 0 < n := by omega
    clear hne
    go_enter Try.func65, Try.ntmps65
    go_wp2_with fail
    have hb0 : Below w.heap.size w ((w.alloc (.cells #[.bool false, .string ⟨#[]⟩] 27)).alloc (.cells #[.bool false, .string ⟨#[]⟩] 27)) := ((Below.refl _ w).alloc (Nat.le_refl _) _).alloc (by simp) _
    have hx0 : BoxAt ((w.alloc (.cells #[.bool false, .string ⟨#[]⟩] 27)).alloc (.cells #[.bool false, .string ⟨#[]⟩] 27)) w.heap.size (.bool false) (.string ⟨#[]⟩) := (BoxAt.new w _ _ _).alloc _
    have hx1 : BoxAt ((w.alloc (.cells #[.bool false, .string ⟨#[]⟩] 27)).alloc (.cells #[.bool false, .string ⟨#[]⟩] 27)) (w.heap.size + 1) (.bool false) (.string ⟨#[]⟩) := by
      have := BoxAt.new (w.alloc (.cells #[.bool false, .string ⟨#[]⟩] 27)) (.bool false) (.string ⟨#[]⟩) 27
      simpa using this
    generalize (w.alloc (.cells #[.bool false, .string ⟨#[]⟩] 27)).alloc (.cells #[.bool false, .string ⟨#[]⟩] 27) = w1 at *
    go_loopw [4] (fun v wr => ∃ i : Nat, i ≤ n ∧ v = .int .i64 i ∧ Hid (Below w.heap.size w wr) ∧ Hid (BoxAt wr w.heap.size (.bool false) (.string ⟨#[]⟩)) ∧ Hid (BoxAt wr (w.heap.size + 1) (.bool (canon (dotN T i)).neg) (.string (canon (dotN T i)).mag))) (fun v _ => n - (intOf v).toNat)
    case atStart => exact ⟨0, by omega, by go_num, Lib.hid hb0, Lib.hid hx0, Lib.hid hx1⟩
    case round =>
      clear hb0 hx0 hx1
      obtain ⟨i, hi, rfl, Hb, H0, H1⟩ := hrel
      by_cases hlt : i < n
      · have i1 : (i : Int) < (n : Int) := by omega
        have hx1 : dotN T (i + 1) = dotN T i + T i := rfl
        obtain ⟨rb, ro, rc, a1, a2, a3⟩ := HF.out.at hn0 hlt
        rw [Nat.add_zero] at a1
        have hrb : rb < w.heap.size := World.block_lt_of_cell? w _ a2
        have a1 := cell_below Hb.out a1
        have a2 := cell_below Hb.out a2
        have a3 := cell_below Hb.out a3
        have hTi : T i = sgF i (F 0 i * detL N (woF F 0 i)) := by rw [HTe.out]
        obtain ⟨hs1, hs2, hs3, hs4⟩ := HP.out i hlt
        have hs5 := HT.out i (by omega)
        have HDi := Lib.hid (HD.out i hlt)
        have HWi := Lib.hid (HW.out i hlt)
        by_cases hz : F 0 i = 0
        · have c0 : canon 0 = ⟨false, ⟨#[]⟩⟩ := by rfl
          have hTz : dotN T (i + 1) = dotN T i := by
            rw [hx1, hTi, hz, Int.zero_mul]
            unfold sgF
            split <;> simp
          have H2 : Hid (BoxAt wr (w.heap.size + 1) (.bool (canon (dotN T (i + 1))).neg) (.string (canon (dotN T (i + 1))).mag)) := Lib.hid (by rw [hTz]; exact H1.out)
          rw [hz, c0] at a2 a3
          dsimp only at a2 a3
          clear hz c0 hTz hx1 hTi hs1 hs2 hs3 hs4 hs5 HDi HWi H1
          go_wp2
          go_roundw
          case rel => exact ⟨i + 1, by omega, by go_num, Hb, H0, H2⟩
          case measure => simp [intOf]; omega
        · have hem : (canon (F 0 i)).mag.toList.isEmpty = false := by
            rcases empty_mag (F 0 i) with h | h
            · exact absurd h hz
            · exact h
          rw [← hTi] at hs4
          obtain ⟨x, hx⟩ : ∃ x, F 0 i = x := ⟨_, rfl⟩
          obtain ⟨y, hy⟩ : ∃ y, detL N (woF F 0 i) = y := ⟨_, rfl⟩
          obtain ⟨s, hs⟩ : ∃ s, dotN T i = s := ⟨_, rfl⟩
          obtain ⟨t, ht⟩ : ∃ t, T i = t := ⟨_, rfl⟩
          obtain ⟨G, hG⟩ : ∃ G, woF F 0 i = G := ⟨_, rfl⟩
          rw [hG] at hy hs2
          rw [hG] at HWi HDi hs3
          rw [hy] at hs2 HDi hs3
          rw [hx] at a2 a3 hs1 hs3 hem
          rw [ht] at hx1 hs4
          rw [hs] at hx1 hs5 H1
          rw [hx, hG, hy, ht] at hTi
          have HTi := Lib.hid hTi
          have Hx1 := Lib.hid hx1
          clear hx hy hs ht hG hz hTi hx1
          go_upto_region 8 with (fail)
          obtain ⟨W0, hW0⟩ : ∃ W, wr = W := ⟨_, rfl⟩
          rw [hW0] at Hb H0 H1 a1 a2 a3 ⊢
          clear hW0
          have hHN : ∀ W, Below W0.heap.size W0 W → Below w.heap.size w ((W.setCell ⟨w.heap.size + 1, 0, none⟩ (.bool (canon (s + t)).neg)).setCell ⟨w.heap.size + 1, 1, none⟩ (.string (canon (s + t)).mag)) ∧ BoxAt ((W.setCell ⟨w.heap.size + 1, 0, none⟩ (.bool (canon (s + t)).neg)).setCell ⟨w.heap.size + 1, 1, none⟩ (.string (canon (s + t)).mag)) w.heap.size (.bool false) (.string ⟨#[]⟩) ∧ BoxAt ((W.setCell ⟨w.heap.size + 1, 0, none⟩ (.bool (canon (s + t)).neg)).setCell ⟨w.heap.size + 1, 1, none⟩ (.string (canon (s + t)).mag)) (w.heap.size + 1) (.bool (canon (s + t)).neg) (.string (canon (s + t)).mag) := fun W hW =>
            ⟨((Hb.out.trans (hW.mono Hb.out.size)).setCell (by show w.heap.size ≤ w.heap.size + 1; omega) _).setCell (by show w.heap.size ≤ w.heap.size + 1; omega) _,
             boxp_far (boxp_far (H0.out.below hW H0.out.2.2.2.2) (by show w.heap.size ≠ w.heap.size + 1; omega) _) (by show w.heap.size ≠ w.heap.size + 1; omega) _,
             boxp_set (H1.out.below hW H1.out.2.2.2.2) _ _⟩
          have HN := Lib.hid hHN
          have HH1 : Hid (∀ W, Below W0.heap.size W0 W → BoxAt W (w.heap.size + 1) (.bool (canon s).neg) (.string (canon s).mag)) := Lib.hid (fun W hW => H1.out.below hW H1.out.2.2.2.2)
          obtain ⟨SS, hSe⟩ : ∃ SS : World → Prop, SS = fun W => W.cell? ⟨pb, po, none⟩ = some (.slice (some ⟨rb, ro, none⟩) n rc) ∧ W.cell? ⟨rb, ro + i * 2, none⟩ = some (.bool (canon x).neg) ∧ W.cell? ⟨rb, ro + i * 2 + 1, none⟩ = some (.string (canon x).mag) := ⟨_, rfl⟩
          have HS : Hid (∀ W, Below W0.heap.size W0 W → SS W) := Lib.hid (fun W hW => by
            rw [hSe]
            exact ⟨cell_below hW a1, cell_below hW a2, cell_below hW a3⟩)
          have HS2 : Hid (∀ W v1 v2, SS W → SS ((W.setCell ⟨w.heap.size + 1, 0, none⟩ v1).setCell ⟨w.heap.size + 1, 1, none⟩ v2)) := Lib.hid (fun W v1 v2 hW => by
            rw [hSe] at hW ⊢
            obtain ⟨s1, s2, s3⟩ := hW
            refine ⟨?_, ?_, ?_⟩ <;> (rw [World.cell?_setCell_other _ _ _ _ (by intro hh; simp only [Addr.mk.injEq] at hh; omega), World.cell?_setCell_other _ _ _ _ (by intro hh; simp only [Addr.mk.injEq] at hh; omega)]; assumption))
          have HWW : Hid (∀ W, Below W0.heap.size W0 W → Below w.heap.size w W) := Lib.hid (fun W hW => Hb.out.trans (hW.mono Hb.out.size))
          have HM := Lib.hid (fun W => refMulC_any x y (by omega) (by omega) (by omega) W)
          have HG := Lib.hid (fun W => refSigned_any i (x * y) (by omega) W)
          rw [← HTi.out] at HG
          have HA := Lib.hid (fun W => refAddC_any s t (by omega) (by omega) W)
          clear a1 a2 a3 hHN hem hs1 hs2 hs3 hs4 hs5 H0 H1 HTi
          have hd : Below W0.heap.size W0 W0.drew := (Below.refl W0.heap.size W0).drew
          refine wp_region_held_drew (S := SS) (by kernel_rfl) (HS.out _ hd) (fun hSS => ?_)
          refine wpAnyH_take (i := 1) (v := ?_) rfl (by kernel_rfl) (by kernel_rfl) (by kernel_rfl) (fun _ _ _ h => h) (Or.inl ⟨by rfl, ?_⟩) hSS ?_
          rotate_left 1
          next => intro w hSw; rw [hSe] at hSw; obtain ⟨s1, s2, s3⟩ := hSw; go_simp; try with_reducible rfl
          refine wpAnyH_take (i := 2) (v := ?_) rfl (by kernel_rfl) (by kernel_rfl) (by kernel_rfl) (fun _ _ _ h => h) (Or.inl ⟨by rfl, ?_⟩) hSS ?_
          rotate_left 1
          next => intro w hSw; rw [hSe] at hSw; obtain ⟨s1, s2, s3⟩ := hSw; go_simp; try with_reducible rfl
          refine wpAnyH_take (i := 3) (v := ?_) rfl (by kernel_rfl) (by kernel_rfl) (by kernel_rfl) (fun _ _ _ h => h) (Or.inl ⟨by rfl, ?_⟩) hSS ?_
          rotate_left 1
          next => intro w hSw; rw [hSe] at hSw; obtain ⟨s1, s2, s3⟩ := hSw; go_simp; try with_reducible rfl
          refine wpAnyH_take (i := 4) (v := ?_) rfl (by kernel_rfl) (by kernel_rfl) (by kernel_rfl) (fun _ _ _ h => h) (Or.inl ⟨by rfl, ?_⟩) hSS ?_
          rotate_left 1
          next => intro w hSw; rw [hSe] at hSw; obtain ⟨s1, s2, s3⟩ := hSw; go_simp; try with_reducible rfl
          refine wpAnyH_take (i := 5) (v := ?_) rfl (by kernel_rfl) (by kernel_rfl) (by kernel_rfl) (fun _ _ _ h => h) (Or.inl ⟨by rfl, ?_⟩) hSS ?_
          rotate_left 1
          next => intro w hSw; rw [hSe] at hSw; obtain ⟨s1, s2, s3⟩ := hSw; go_simp; try with_reducible rfl
          refine wpAnyH_take (i := 6) (v := ?_) rfl (by kernel_rfl) (by kernel_rfl) (by kernel_rfl) (fun _ _ _ h => h) (Or.inl ⟨by rfl, ?_⟩) hSS ?_
          rotate_left 1
          next => intro w hSw; rw [hSe] at hSw; obtain ⟨s1, s2, s3⟩ := hSw; go_simp; try with_reducible rfl
          refine wpAnyH_take (i := 7) (v := ?_) rfl (by kernel_rfl) (by kernel_rfl) (by kernel_rfl) (fun _ _ _ h => h) (Or.inl ⟨by rfl, ?_⟩) hSS ?_
          rotate_left 1
          next => intro w hSw; rw [hSe] at hSw; obtain ⟨s1, s2, s3⟩ := hSw; go_simp; try with_reducible rfl
          refine wpAnyH_take (i := 8) (v := ?_) rfl (by kernel_rfl) (by kernel_rfl) (by kernel_rfl) (fun _ _ _ h => h) (Or.inl ⟨by rfl, ?_⟩) hSS ?_
          rotate_left 1
          next => intro w hSw; rw [hSe] at hSw; obtain ⟨s1, s2, s3⟩ := hSw; go_simp; try with_reducible rfl
          refine wpAnyH_take (i := 9) (v := ?_) rfl (by kernel_rfl) (by kernel_rfl) (by kernel_rfl) (fun _ _ _ h => h) (Or.inl ⟨by rfl, ?_⟩) hSS ?_
          rotate_left 1
          next => intro w hSw; rw [hSe] at hSw; obtain ⟨s1, s2, s3⟩ := hSw; go_simp; try with_reducible rfl
          try simp only [Act.put, List.getElem_toArray, List.getElem_cons_zero, List.getElem_cons_succ, List.setIfInBounds_toArray, List.set_cons_zero, List.set_cons_succ]
          refine wpAnyH_ready (rs := [0, 10]) (by kernel_rfl) (by simp) ?_
          refine AllReadyH.cons rfl (fun K hK => ?_) (AllReadyH.cons rfl (fun K hK => ?_) AllReadyH.nil)
          · obtain ⟨z0, z1, z2, z3, z4⟩ := HH1.out _ hd
            go_simp
            refine hK.out _ _ (HS.out _ hd) (fun _ => ?_)
            clear hK K z0 z1 z2 z3 z4
            try simp only [Act.put, List.getElem_toArray, List.getElem_cons_zero, List.getElem_cons_succ, List.setIfInBounds_toArray, List.set_cons_zero, List.set_cons_succ]
            refine wpAnyH_ready (rs := [10]) (by kernel_rfl) (by simp) ?_
            refine AllReadyH.cons rfl (fun K hK => ?_) AllReadyH.nil
            go_simp
            refine (HWi.out _ (HWW.out _ hd)).mono ?_
            rintro e W1 ⟨q1, c1, rfl, hM1, hbc⟩
            have hW1 : Below W0.heap.size W0 W1 := hd.trans (hbc.mono hd.size)
            dsimp only
            refine hK.out _ _ (HS.out _ hW1) (fun _ => ?_)
            clear hK K hbc
            try simp only [Act.put, List.getElem_toArray, List.getElem_cons_zero, List.getElem_cons_succ, List.setIfInBounds_toArray, List.set_cons_zero, List.set_cons_succ]
            refine wpAnyH_ready (rs := [11]) (by kernel_rfl) (by simp) ?_
            refine AllReadyH.cons rfl (fun K hK => ?_) AllReadyH.nil
            go_simp
            refine (HDi.out _ q1 c1 hM1).mono ?_
            rintro e W2 ⟨rfl, hbc⟩
            have hW2 : Below W0.heap.size W0 W2 := hW1.trans (hbc.mono hW1.size)
            dsimp only
            refine hK.out _ _ (HS.out _ hW2) (fun _ => ?_)
            clear hK K hbc
            try simp only [Act.put, List.getElem_toArray, List.getElem_cons_zero, List.getElem_cons_succ, List.setIfInBounds_toArray, List.set_cons_zero, List.set_cons_succ]
            refine wpAnyH_ready (rs := [12]) (by kernel_rfl) (by simp) ?_
            refine AllReadyH.cons rfl (fun K hK => ?_) AllReadyH.nil
            go_simp
            refine (HM.out _).mono ?_
            rintro e W3 ⟨rfl, hbc⟩
            have hW3 : Below W0.heap.size W0 W3 := hW2.trans (hbc.mono hW2.size)
            dsimp only
            refine hK.out _ _ (HS.out _ hW3) (fun _ => ?_)
            clear hK K hbc
            try simp only [Act.put, List.getElem_toArray, List.getElem_cons_zero, List.getElem_cons_succ, List.setIfInBounds_toArray, List.set_cons_zero, List.set_cons_succ]
            refine wpAnyH_ready (rs := [13]) (by kernel_rfl) (by simp) ?_
            refine AllReadyH.cons rfl (fun K hK => ?_) AllReadyH.nil
            go_simp
            refine (HG.out _).mono ?_
            rintro e W4 ⟨rfl, hbc⟩
            have hW4 : Below W0.heap.size W0 W4 := hW3.trans (hbc.mono hW3.size)
            dsimp only
            refine hK.out _ _ (HS.out _ hW4) (fun _ => ?_)
            clear hK K hbc
            try simp only [Act.put, List.getElem_toArray, List.getElem_cons_zero, List.getElem_cons_succ, List.setIfInBounds_toArray, List.set_cons_zero, List.set_cons_succ]
            refine wpAnyH_ready (rs := [14]) (by kernel_rfl) (by simp) ?_
            refine AllReadyH.cons rfl (fun K hK => ?_) AllReadyH.nil
            go_simp
            refine (HA.out _).mono ?_
            rintro e W5 ⟨rfl, hbc⟩
            have hW5 : Below W0.heap.size W0 W5 := hW4.trans (hbc.mono hW4.size)
            dsimp only
            refine hK.out _ _ (HS.out _ hW5) (fun _ => ?_)
            clear hK K hbc
            try simp only [Act.put, List.getElem_toArray, List.getElem_cons_zero, List.getElem_cons_succ, List.setIfInBounds_toArray, List.set_cons_zero, List.set_cons_succ]
            refine wpAnyH_ready (rs := [15]) (by kernel_rfl) (by simp) ?_
            refine AllReadyH.cons rfl (fun K hK => ?_) AllReadyH.nil
            obtain ⟨z0, z1, z2, z3, z4⟩ := HH1.out _ hW5
            go_simp
            refine hK.out _ _ (HS2.out _ _ _ (HS.out _ hW5)) (fun _ => ?_)
            clear hK K z0 z1 z2 z3 z4
            refine wpAnyH_done (by kernel_rfl) ?_ _
            obtain ⟨n1, n2, n3⟩ := HN.out _ hW5
            have N1 := Lib.hid n1
            have N2 := Lib.hid n2
            have N3 := Lib.hid n3
            clear n1 n2 n3
            go_wp2
            go_roundw
            case rel => exact ⟨i + 1, by omega, by go_num, N1, N2, Lib.hid (by rw [Hx1.out]; exact N3.out)⟩
            case measure => simp [intOf]; omega
          · go_simp
            refine (HWi.out _ (HWW.out _ hd)).mono ?_
            rintro e W1 ⟨q1, c1, rfl, hM1, hbc⟩
            have hW1 : Below W0.heap.size W0 W1 := hd.trans (hbc.mono hd.size)
            dsimp only
            refine hK.out _ _ (HS.out _ hW1) (fun _ => ?_)
            clear hK K hbc
            try simp only [Act.put, List.getElem_toArray, List.getElem_cons_zero, List.getElem_cons_succ, List.setIfInBounds_toArray, List.set_cons_zero, List.set_cons_succ]
            refine wpAnyH_ready (rs := [0, 11]) (by kernel_rfl) (by simp) ?_
            refine AllReadyH.cons rfl (fun K hK => ?_) (AllReadyH.cons rfl (fun K hK => ?_) AllReadyH.nil)
            · obtain ⟨z0, z1, z2, z3, z4⟩ := HH1.out _ hW1
              go_simp
              refine hK.out _ _ (HS.out _ hW1) (fun _ => ?_)
              clear hK K z0 z1 z2 z3 z4
              try simp only [Act.put, List.getElem_toArray, List.getElem_cons_zero, List.getElem_cons_succ, List.setIfInBounds_toArray, List.set_cons_zero, List.set_cons_succ]
              refine wpAnyH_ready (rs := [11]) (by kernel_rfl) (by simp) ?_
              refine AllReadyH.cons rfl (fun K hK => ?_) AllReadyH.nil
              go_simp
              refine (HDi.out _ q1 c1 hM1).mono ?_
              rintro e W2 ⟨rfl, hbc⟩
              have hW2 : Below W0.heap.size W0 W2 := hW1.trans (hbc.mono hW1.size)
              dsimp only
              refine hK.out _ _ (HS.out _ hW2) (fun _ => ?_)
              clear hK K hbc
              try simp only [Act.put, List.getElem_toArray, List.getElem_cons_zero, List.getElem_cons_succ, List.setIfInBounds_toArray, List.set_cons_zero, List.set_cons_succ]
              refine wpAnyH_ready (rs := [12]) (by kernel_rfl) (by simp) ?_
              refine AllReadyH.cons rfl (fun K hK => ?_) AllReadyH.nil
              go_simp
              refine (HM.out _).mono ?_
              rintro e W3 ⟨rfl, hbc⟩
              have hW3 : Below W0.heap.size W0 W3 := hW2.trans (hbc.mono hW2.size)
              dsimp only
              refine hK.out _ _ (HS.out _ hW3) (fun _ => ?_)
              clear hK K hbc
              try simp only [Act.put, List.getElem_toArray, List.getElem_cons_zero, List.getElem_cons_succ, List.setIfInBounds_toArray, List.set_cons_zero, List.set_cons_succ]
              refine wpAnyH_ready (rs := [13]) (by kernel_rfl) (by simp) ?_
              refine AllReadyH.cons rfl (fun K hK => ?_) AllReadyH.nil
              go_simp
              refine (HG.out _).mono ?_
              rintro e W4 ⟨rfl, hbc⟩
              have hW4 : Below W0.heap.size W0 W4 := hW3.trans (hbc.mono hW3.size)
              dsimp only
              refine hK.out _ _ (HS.out _ hW4) (fun _ => ?_)
              clear hK K hbc
              try simp only [Act.put, List.getElem_toArray, List.getElem_cons_zero, List.getElem_cons_succ, List.setIfInBounds_toArray, List.set_cons_zero, List.set_cons_succ]
              refine wpAnyH_ready (rs := [14]) (by kernel_rfl) (by simp) ?_
              refine AllReadyH.cons rfl (fun K hK => ?_) AllReadyH.nil
              go_simp
              refine (HA.out _).mono ?_
              rintro e W5 ⟨rfl, hbc⟩
              have hW5 : Below W0.heap.size W0 W5 := hW4.trans (hbc.mono hW4.size)
              dsimp only
              refine hK.out _ _ (HS.out _ hW5) (fun _ => ?_)
              clear hK K hbc
              try simp only [Act.put, List.getElem_toArray, List.getElem_cons_zero, List.getElem_cons_succ, List.setIfInBounds_toArray, List.set_cons_zero, List.set_cons_succ]
              refine wpAnyH_ready (rs := [15]) (by kernel_rfl) (by simp) ?_
              refine AllReadyH.cons rfl (fun K hK => ?_) AllReadyH.nil
              obtain ⟨z0, z1, z2, z3, z4⟩ := HH1.out _ hW5
              go_simp
              refine hK.out _ _ (HS2.out _ _ _ (HS.out _ hW5)) (fun _ => ?_)
              clear hK K z0 z1 z2 z3 z4
              refine wpAnyH_done (by kernel_rfl) ?_ _
              obtain ⟨n1, n2, n3⟩ := HN.out _ hW5
              have N1 := Lib.hid n1
              have N2 := Lib.hid n2
              have N3 := Lib.hid n3
              clear n1 n2 n3
              go_wp2
              go_roundw
              case rel => exact ⟨i + 1, by omega, by go_num, N1, N2, Lib.hid (by rw [Hx1.out]; exact N3.out)⟩
              case measure => simp [intOf]; omega
            · go_simp
              refine (HDi.out _ q1 c1 hM1).mono ?_
              rintro e W2 ⟨rfl, hbc⟩
              have hW2 : Below W0.heap.size W0 W2 := hW1.trans (hbc.mono hW1.size)
              dsimp only
              refine hK.out _ _ (HS.out _ hW2) (fun _ => ?_)
              clear hK K hbc
              try simp only [Act.put, List.getElem_toArray, List.getElem_cons_zero, List.getElem_cons_succ, List.setIfInBounds_toArray, List.set_cons_zero, List.set_cons_succ]
              refine wpAnyH_ready (rs := [0, 12]) (by kernel_rfl) (by simp) ?_
              refine AllReadyH.cons rfl (fun K hK => ?_) (AllReadyH.cons rfl (fun K hK => ?_) AllReadyH.nil)
              · obtain ⟨z0, z1, z2, z3, z4⟩ := HH1.out _ hW2
                go_simp
                refine hK.out _ _ (HS.out _ hW2) (fun _ => ?_)
                clear hK K z0 z1 z2 z3 z4
                try simp only [Act.put, List.getElem_toArray, List.getElem_cons_zero, List.getElem_cons_succ, List.setIfInBounds_toArray, List.set_cons_zero, List.set_cons_succ]
                refine wpAnyH_ready (rs := [12]) (by kernel_rfl) (by simp) ?_
                refine AllReadyH.cons rfl (fun K hK => ?_) AllReadyH.nil
                go_simp
                refine (HM.out _).mono ?_
                rintro e W3 ⟨rfl, hbc⟩
                have hW3 : Below W0.heap.size W0 W3 := hW2.trans (hbc.mono hW2.size)
                dsimp only
                refine hK.out _ _ (HS.out _ hW3) (fun _ => ?_)
                clear hK K hbc
                try simp only [Act.put, List.getElem_toArray, List.getElem_cons_zero, List.getElem_cons_succ, List.setIfInBounds_toArray, List.set_cons_zero, List.set_cons_succ]
                refine wpAnyH_ready (rs := [13]) (by kernel_rfl) (by simp) ?_
                refine AllReadyH.cons rfl (fun K hK => ?_) AllReadyH.nil
                go_simp
                refine (HG.out _).mono ?_
                rintro e W4 ⟨rfl, hbc⟩
                have hW4 : Below W0.heap.size W0 W4 := hW3.trans (hbc.mono hW3.size)
                dsimp only
                refine hK.out _ _ (HS.out _ hW4) (fun _ => ?_)
                clear hK K hbc
                try simp only [Act.put, List.getElem_toArray, List.getElem_cons_zero, List.getElem_cons_succ, List.setIfInBounds_toArray, List.set_cons_zero, List.set_cons_succ]
                refine wpAnyH_ready (rs := [14]) (by kernel_rfl) (by simp) ?_
                refine AllReadyH.cons rfl (fun K hK => ?_) AllReadyH.nil
                go_simp
                refine (HA.out _).mono ?_
                rintro e W5 ⟨rfl, hbc⟩
                have hW5 : Below W0.heap.size W0 W5 := hW4.trans (hbc.mono hW4.size)
                dsimp only
                refine hK.out _ _ (HS.out _ hW5) (fun _ => ?_)
                clear hK K hbc
                try simp only [Act.put, List.getElem_toArray, List.getElem_cons_zero, List.getElem_cons_succ, List.setIfInBounds_toArray, List.set_cons_zero, List.set_cons_succ]
                refine wpAnyH_ready (rs := [15]) (by kernel_rfl) (by simp) ?_
                refine AllReadyH.cons rfl (fun K hK => ?_) AllReadyH.nil
                obtain ⟨z0, z1, z2, z3, z4⟩ := HH1.out _ hW5
                go_simp
                refine hK.out _ _ (HS2.out _ _ _ (HS.out _ hW5)) (fun _ => ?_)
                clear hK K z0 z1 z2 z3 z4
                refine wpAnyH_done (by kernel_rfl) ?_ _
                obtain ⟨n1, n2, n3⟩ := HN.out _ hW5
                have N1 := Lib.hid n1
                have N2 := Lib.hid n2
                have N3 := Lib.hid n3
                clear n1 n2 n3
                go_wp2
                go_roundw
                case rel => exact ⟨i + 1, by omega, by go_num, N1, N2, Lib.hid (by rw [Hx1.out]; exact N3.out)⟩
                case measure => simp [intOf]; omega
              · go_simp
                refine (HM.out _).mono ?_
                rintro e W3 ⟨rfl, hbc⟩
                have hW3 : Below W0.heap.size W0 W3 := hW2.trans (hbc.mono hW2.size)
                dsimp only
                refine hK.out _ _ (HS.out _ hW3) (fun _ => ?_)
                clear hK K hbc
                try simp only [Act.put, List.getElem_toArray, List.getElem_cons_zero, List.getElem_cons_succ, List.setIfInBounds_toArray, List.set_cons_zero, List.set_cons_succ]
                refine wpAnyH_ready (rs := [0, 13]) (by kernel_rfl) (by simp) ?_
                refine AllReadyH.cons rfl (fun K hK => ?_) (AllReadyH.cons rfl (fun K hK => ?_) AllReadyH.nil)
                · obtain ⟨z0, z1, z2, z3, z4⟩ := HH1.out _ hW3
                  go_simp
                  refine hK.out _ _ (HS.out _ hW3) (fun _ => ?_)
                  clear hK K z0 z1 z2 z3 z4
                  try simp only [Act.put, List.getElem_toArray, List.getElem_cons_zero, List.getElem_cons_succ, List.setIfInBounds_toArray, List.set_cons_zero, List.set_cons_succ]
                  refine wpAnyH_ready (rs := [13]) (by kernel_rfl) (by simp) ?_
                  refine AllReadyH.cons rfl (fun K hK => ?_) AllReadyH.nil
                  go_simp
                  refine (HG.out _).mono ?_
                  rintro e W4 ⟨rfl, hbc⟩
                  have hW4 : Below W0.heap.size W0 W4 := hW3.trans (hbc.mono hW3.size)
                  dsimp only
                  refine hK.out _ _ (HS.out _ hW4) (fun _ => ?_)
                  clear hK K hbc
                  try simp only [Act.put, List.getElem_toArray, List.getElem_cons_zero, List.getElem_cons_succ, List.setIfInBounds_toArray, List.set_cons_zero, List.set_cons_succ]
                  refine wpAnyH_ready (rs := [14]) (by kernel_rfl) (by simp) ?_
                  refine AllReadyH.cons rfl (fun K hK => ?_) AllReadyH.nil
                  go_simp
                  refine (HA.out _).mono ?_
                  rintro e W5 ⟨rfl, hbc⟩
                  have hW5 : Below W0.heap.size W0 W5 := hW4.trans (hbc.mono hW4.size)
                  dsimp only
                  refine hK.out _ _ (HS.out _ hW5) (fun _ => ?_)
                  clear hK K hbc
                  try simp only [Act.put, List.getElem_toArray, List.getElem_cons_zero, List.getElem_cons_succ, List.setIfInBounds_toArray, List.set_cons_zero, List.set_cons_succ]
                  refine wpAnyH_ready (rs := [15]) (by kernel_rfl) (by simp) ?_
                  refine AllReadyH.cons rfl (fun K hK => ?_) AllReadyH.nil
                  obtain ⟨z0, z1, z2, z3, z4⟩ := HH1.out _ hW5
                  go_simp
                  refine hK.out _ _ (HS2.out _ _ _ (HS.out _ hW5)) (fun _ => ?_)
                  clear hK K z0 z1 z2 z3 z4
                  refine wpAnyH_done (by kernel_rfl) ?_ _
                  obtain ⟨n1, n2, n3⟩ := HN.out _ hW5
                  have N1 := Lib.hid n1
                  have N2 := Lib.hid n2
                  have N3 := Lib.hid n3
                  clear n1 n2 n3
                  go_wp2
                  go_roundw
                  case rel => exact ⟨i + 1, by omega, by go_num, N1, N2, Lib.hid (by rw [Hx1.out]; exact N3.out)⟩
                  case measure => simp [intOf]; omega
                · go_simp
                  refine (HG.out _).mono ?_
                  rintro e W4 ⟨rfl, hbc⟩
                  have hW4 : Below W0.heap.size W0 W4 := hW3.trans (hbc.mono hW3.size)
                  dsimp only
                  refine hK.out _ _ (HS.out _ hW4) (fun _ => ?_)
                  clear hK K hbc
                  try simp only [Act.put, List.getElem_toArray, List.getElem_cons_zero, List.getElem_cons_succ, List.setIfInBounds_toArray, List.set_cons_zero, List.set_cons_succ]
                  refine wpAnyH_ready (rs := [0]) (by kernel_rfl) (by simp) ?_
                  refine AllReadyH.cons rfl (fun K hK => ?_) AllReadyH.nil
                  obtain ⟨z0, z1, z2, z3, z4⟩ := HH1.out _ hW4
                  go_simp
                  refine hK.out _ _ (HS.out _ hW4) (fun _ => ?_)
                  clear hK K z0 z1 z2 z3 z4
                  try simp only [Act.put, List.getElem_toArray, List.getElem_cons_zero, List.getElem_cons_succ, List.setIfInBounds_toArray, List.set_cons_zero, List.set_cons_succ]
                  refine wpAnyH_ready (rs := [14]) (by kernel_rfl) (by simp) ?_
                  refine AllReadyH.cons rfl (fun K hK => ?_) AllReadyH.nil
                  go_simp
                  refine (HA.out _).mono ?_
                  rintro e W5 ⟨rfl, hbc⟩
                  have hW5 : Below W0.heap.size W0 W5 := hW4.trans (hbc.mono hW4.size)
                  dsimp only
                  refine hK.out _ _ (HS.out _ hW5) (fun _ => ?_)
                  clear hK K hbc
                  try simp only [Act.put, List.getElem_toArray, List.getElem_cons_zero, List.getElem_cons_succ, List.setIfInBounds_toArray, List.set_cons_zero, List.set_cons_succ]
                  refine wpAnyH_ready (rs := [15]) (by kernel_rfl) (by simp) ?_
                  refine AllReadyH.cons rfl (fun K hK => ?_) AllReadyH.nil
                  obtain ⟨z0, z1, z2, z3, z4⟩ := HH1.out _ hW5
                  go_simp
                  refine hK.out _ _ (HS2.out _ _ _ (HS.out _ hW5)) (fun _ => ?_)
                  clear hK K z0 z1 z2 z3 z4
                  refine wpAnyH_done (by kernel_rfl) ?_ _
                  obtain ⟨n1, n2, n3⟩ := HN.out _ hW5
                  have N1 := Lib.hid n1
                  have N2 := Lib.hid n2
                  have N3 := Lib.hid n3
                  clear n1 n2 n3
                  go_wp2
                  go_roundw
                  case rel => exact ⟨i + 1, by omega, by go_num, N1, N2, Lib.hid (by rw [Hx1.out]; exact N3.out)⟩
                  case measure => simp [intOf]; omega
      · have i1 : ¬ (i : Int) < (n : Int) := by omega
        have hie : i = n := by omega
        rw [hie] at H1
        obtain ⟨b0, b1, b2, b3, b4⟩ := H0.out
        obtain ⟨d0, d1, d2, d3, d4⟩ := H1.out
        generalize canon (dotN T n) = R at *
        clear H0 H1 hie
        go_wp2
        refine bodyPost_ret (v := .agg #[.bool R.neg, .string R.mag]) ?_ rfl ⟨rfl, ?_⟩
        · simp [results, Try.results65, go_sem, b0, b1]
        · refine (Hb.out.setCell ?_ _).setCell ?_ _ <;> simp
end Go.Proofs.Ytlkoiekdafaapaa

namespace Go.Proofs.Ytlkoiekdafaapaa
open Go.RowKit Go.Shelf

theorem minS_bn (m e N : Nat) (F : Nat → Nat → Int) (hN : N ≤ 2 ^ m) (hF : BnM N N F e) : ∀ (k from0 : Nat) (ts : List Nat), (∀ t ∈ ts, t < N) → ts.length + k ≤ N → Bn (minS N F k from0 ts) ((ts.length + k) * (e + m) + k * m) := by
  intro k
  induction k with
  | zero =>
    intro from0 ts ht hl
    have h1 : Bn (detL ts.length (fun i k => F (ts.getD i 0) (ts.getD k 0))) (ts.length * (e + m)) := detL_bn m e ts.length _ (by omega) fun i k hi hk => hF _ _ (ht _ (by rw [List.getD_eq_getElem?_getD, List.getElem?_eq_getElem hi]; exact List.getElem_mem hi)) (ht _ (by rw [List.getD_eq_getElem?_getD, List.getElem?_eq_getElem hk]; exact List.getElem_mem hk))
    exact h1.up (by simp)
  | succ k ih =>
    intro from0 ts ht hl
    have h1 : Bn (dotN (fun d => minS N F k (from0 + d + 1) (ts ++ [from0 + d])) (N - from0)) ((ts.length + 1 + k) * (e + m) + k * m + m) := Bn.dot (N - from0) (by omega) fun d hd => by
      have h2 := ih (from0 + d + 1) (ts ++ [from0 + d]) (fun t h => by
        rcases List.mem_append.1 h with h | h
        · exact ht t h
        · have := List.mem_singleton.1 h
          omega) (by rw [List.length_append, List.length_singleton]; omega)
      rw [List.length_append, List.length_singleton] at h2
      exact h2
    refine h1.up ?_
    rw [show ts.length + (k + 1) = ts.length + 1 + k from by omega, Nat.add_mul k 1 m]
    omega
theorem getD_cast (ts : List Nat) (i : Nat) : (ts.map Int.ofNat).getD i 0 = ((ts.getD i 0 : Nat) : Int) := by
  rw [List.getD_eq_getElem?_getD, List.getD_eq_getElem?_getD, List.getElem?_map]
  cases ts[i]? <;> rfl
set_option maxRecDepth 100000 in
set_option maxHeartbeats 16000000 in
theorem refMinors_zero (m e N : Nat) (F : Nat → Nat → Int) (hN : N ≤ 2 ^ m) (hN6 : N ≤ 1000000) (hF : BnM N N F e) (from0 : Nat) (ts : List Nat) (p q : Option Addr) (cp cq : Nat) (ht : ∀ t ∈ ts, t < N) (hl : ts.length ≤ N) (hsz : N * (e + m) < 80000000) (w : World) (hM : MatF w p N N F) (hq : IntsAt w q (ts.map Int.ofNat)) :
    Calls Try.prog 71 #[.slice p N cp, .int .i64 (from0 : Int), .int .i64 0, .slice q ts.length cq] w (RetZ (canon (minS N F 0 from0 ts)) w) := by
  have hT : ∀ i, i < ts.length → ts.getD i 0 < N := fun i hi => ht _ (by rw [List.getD_eq_getElem?_getD, List.getElem?_eq_getElem hi]; exact List.getElem_mem hi)
  obtain ⟨S, hS⟩ : ∃ S : Nat → Nat → Int, S = fun i k => F (ts.getD i 0) (ts.getD k 0) := ⟨_, rfl⟩
  have hbn : BnM ts.length ts.length S e := fun i k hi hk => by rw [hS]; exact hF _ _ (hT i hi) (hT k hk)
  have HD := Lib.hid (fun (W : World) (q : Option Addr) (c : Nat) (h : MatF W q ts.length ts.length S) => refDet_any m e ts.length q c S (by omega) (by omega) (Nat.lt_of_le_of_lt (Nat.mul_le_mul_right _ hl) hsz) hbn W h)
  have hR : minS N F 0 from0 ts = detL ts.length S := by rw [hS]; rfl
  rw [hR]
  generalize canon (detL ts.length S) = R at *
  have HSt : Hid (∀ i k, S i k = F (ts.getD i 0) (ts.getD k 0)) := Lib.hid (fun i k => by rw [hS])
  have HQ : Hid (∀ i, i < ts.length → ∃ b off, q = some ⟨b, off, none⟩ ∧ b < w.heap.size ∧ ∀ i, i < ts.length → w.cell? ⟨b, off + i, none⟩ = some (.int .i64 (ts.getD i 0 : Nat))) := Lib.hid (fun i hi => by
    obtain ⟨b, off, h1, h2, h3⟩ := hq.cells (k := i) (by simpa using hi)
    exact ⟨b, off, h1, h2, fun j hj => by rw [h3 j (by simpa using hj), getD_cast]⟩)
  have HTs := Lib.hid hT
  have HM := Lib.hid hM
  have hlen : ts.length ≤ 1000000 := by omega
  clear hT hS hbn hR hq hM ht hsz hF hN hl
  generalize ts.length = t at *
  have hx0 := BoxAt.new w (.bool false) (.string ⟨#[]⟩) 27
  have hb0 : Below w.heap.size w (w.alloc (.cells #[.bool false, .string ⟨#[]⟩] 27)) := (Below.refl _ _).alloc (Nat.le_refl _) _
  obtain ⟨w1, hw1⟩ : ∃ W, w.alloc (.cells #[.bool false, .string ⟨#[]⟩] 27) = W := ⟨_, rfl⟩
  have hz1 : w1.heap.size = w.heap.size + 1 := by rw [← hw1, World.size_alloc]
  rw [hw1] at hx0 hb0
  have HX : Hid (∀ W, Below w1.heap.size w1 W → BoxAt W w.heap.size (.bool false) (.string ⟨#[]⟩) ∧ Below w.heap.size w W) := Lib.hid (fun W hW => ⟨hx0.below hW hx0.2.2.2.2, hb0.trans (hW.mono hb0.size)⟩)
  have hst := SumH.made w1 (B := w1.heap.size) t S (Nat.le_refl _)
  have hb1 : Below w1.heap.size w1 (w1.alloc (.cells #[] 24)) := (Below.refl _ _).alloc (Nat.le_refl _) _
  have Hst := Lib.hid hst
  have Hb1 := Lib.hid hb1
  have Hw1 := Lib.hid hw1
  have Hz1 := Lib.hid hz1
  clear hst hb1 hx0 hb0 hw1 hz1
  go_enter Try.func71, Try.ntmps71
  go_wp2_with fail
  rw [Hw1.out, ← Hz1.out]
  clear Hw1 Hz1
  go_loopw [9, 10] (fun v iv wr => ∃ i : Nat, i ≤ t ∧ iv = .int .i64 (i : Nat) ∧ Hid (SumH wr w1.heap.size v i t S) ∧ Hid (Below w1.heap.size w1 wr)) (fun _ iv _ => t - (intOf iv).toNat)
  case atStart => exact ⟨0, by omega, by go_num, Hst, Hb1⟩
  case round =>
    clear Hst Hb1
    obtain ⟨i, hi, rfl, HS, HB⟩ := hrel
    by_cases hlt : i < t
    · have i1 : (i : Int) < (t : Int) := by omega
      have hz : OwnZ (wr.alloc (.cells #[] 27)) wr.heap.size (.slice (some ⟨wr.heap.size, 0, none⟩) 0 0) (zsF (S i) 0) := OwnZ.made wr (Nat.le_refl _)
      have hbz : Below wr.heap.size wr (wr.alloc (.cells #[] 27)) := (Below.refl _ _).alloc (Nat.le_refl _) _
      have Hz := Lib.hid hz
      have Hbz := Lib.hid hbz
      clear hz hbz
      go_wp2_with fail
      obtain ⟨y, hy⟩ : ∃ y, wr = y := ⟨_, rfl⟩
      rw [hy] at HS HB Hz Hbz ⊢
      clear hy
      go_loopw [11, 12] (fun v kv wx => ∃ k : Nat, k ≤ t ∧ kv = .int .i64 (k : Nat) ∧ Hid (OwnZ wx y.heap.size v (zsF (S i) k)) ∧ Hid (Below y.heap.size y wx)) (fun _ kv _ => t - (intOf kv).toNat)
      case atStart => exact ⟨0, by omega, by go_num, Hz, Hbz⟩
      case round =>
        clear Hz Hbz
        obtain ⟨k, hk, rfl, HZ, HY⟩ := hrel
        by_cases hkl : k < t
        · have k1 : (k : Int) < (t : Int) := by omega
          obtain ⟨qb, qo, hqe, hqb, hqc⟩ := HQ.out i hlt
          have a1 := hqc i hlt
          have a2 := hqc k hkl
          have hti := HTs.out i hlt
          have htk := HTs.out k hkl
          have hSik := HSt.out i k
          obtain ⟨u, hu⟩ : ∃ u, ts.getD i 0 = u := ⟨_, rfl⟩
          obtain ⟨v, hv⟩ : ∃ v, ts.getD k 0 = v := ⟨_, rfl⟩
          rw [hu] at a1 hti hSik
          rw [hv] at a2 htk hSik
          obtain ⟨pb, po, hpe, _, _⟩ := HM.out.cells hti
          have hM2 := HM.out
          rw [hpe] at hM2
          obtain ⟨rb, ro, rc, a3, a4, a5⟩ := hM2.at hti htk
          rw [hqe, hpe]
          obtain ⟨SS, hSe⟩ : ∃ SS : World → Prop, SS = fun W => W.cell? ⟨qb, qo + i, none⟩ = some (.int .i64 (u : Nat)) ∧ W.cell? ⟨qb, qo + k, none⟩ = some (.int .i64 (v : Nat)) ∧ W.cell? ⟨pb, po + u, none⟩ = some (.slice (some ⟨rb, ro, none⟩) N rc) ∧ W.cell? ⟨rb, ro + v * 2, none⟩ = some (.bool (canon (F u v)).neg) ∧ W.cell? ⟨rb, ro + v * 2 + 1, none⟩ = some (.string (canon (F u v)).mag) := ⟨_, rfl⟩
          have HSS : Hid (∀ W, Below w.heap.size w W → SS W) := Lib.hid (fun W hW => by
            rw [hSe]
            exact ⟨cell_below hW a1, cell_below hW a2, cell_below hW a3, cell_below hW a4, cell_below hW a5⟩)
          have hnx : zsF (S i) (k + 1) = zsF (S i) k ++ [F u v] := by rw [zsF_succ, hSik]
          have Hnx := Lib.hid hnx
          have u1 : (u : Int) < (N : Int) := by omega
          have v1 : (v : Int) < (N : Int) := by omega
          have hYs := HY.out.size
          have hBs := HB.out.size
          have HXW := Lib.hid (fun W (hW : Below y.heap.size y W) => (HX.out W (HB.out.trans (hW.mono hBs))).2)
          obtain ⟨z, hz⟩ : ∃ z, canon (F u v) = z := ⟨_, rfl⟩
          obtain ⟨f, hf⟩ : ∃ f, F u v = f := ⟨_, rfl⟩
          rw [hf] at Hnx hz
          rw [hf] at hSe
          rw [hz] at hSe
          have Hz := Lib.hid hz
          clear a1 a2 a3 a4 a5 hqc hti htk hSik hu hv hM2 hqe hpe hnx hf hz hqb
          go_upto_region 10 with (fail)
          obtain ⟨W0, hW0⟩ : ∃ W, wr = W := ⟨_, rfl⟩
          rw [hW0] at HZ HY hYs ⊢
          clear hW0
          have hd : Below y.heap.size y W0.drew := HY.out.trans ((Below.refl W0.heap.size W0).drew.mono hYs)
          refine wp_region_held_drew (S := SS) (by kernel_rfl) (HSS.out _ (HXW.out _ hd)) (fun hSS => ?_)
          refine wpAnyH_take (i := 0) (v := ?_) rfl (by kernel_rfl) (by kernel_rfl) (by kernel_rfl) (fun _ _ _ h => h) (Or.inl ⟨by rfl, ?_⟩) hSS ?_
          rotate_left 1
          next => intro w hSw; rw [hSe] at hSw; obtain ⟨s1, s2, s3, s4, s5⟩ := hSw; go_simp; try with_reducible rfl
          refine wpAnyH_take (i := 1) (v := ?_) rfl (by kernel_rfl) (by kernel_rfl) (by kernel_rfl) (fun _ _ _ h => h) (Or.inl ⟨by rfl, ?_⟩) hSS ?_
          rotate_left 1
          next => intro w hSw; rw [hSe] at hSw; obtain ⟨s1, s2, s3, s4, s5⟩ := hSw; go_simp; try with_reducible rfl
          refine wpAnyH_take (i := 2) (v := ?_) rfl (by kernel_rfl) (by kernel_rfl) (by kernel_rfl) (fun _ _ _ h => h) (Or.inl ⟨by rfl, ?_⟩) hSS ?_
          rotate_left 1
          next => intro w hSw; rw [hSe] at hSw; obtain ⟨s1, s2, s3, s4, s5⟩ := hSw; go_simp; try with_reducible rfl
          refine wpAnyH_take (i := 3) (v := ?_) rfl (by kernel_rfl) (by kernel_rfl) (by kernel_rfl) (fun _ _ _ h => h) (Or.inl ⟨by rfl, ?_⟩) hSS ?_
          rotate_left 1
          next => intro w hSw; rw [hSe] at hSw; obtain ⟨s1, s2, s3, s4, s5⟩ := hSw; go_simp; try with_reducible rfl
          refine wpAnyH_take (i := 4) (v := ?_) rfl (by kernel_rfl) (by kernel_rfl) (by kernel_rfl) (fun _ _ _ h => h) (Or.inl ⟨by rfl, ?_⟩) hSS ?_
          rotate_left 1
          next => intro w hSw; rw [hSe] at hSw; obtain ⟨s1, s2, s3, s4, s5⟩ := hSw; go_simp; try with_reducible rfl
          refine wpAnyH_take (i := 5) (v := ?_) rfl (by kernel_rfl) (by kernel_rfl) (by kernel_rfl) (fun _ _ _ h => h) (Or.inl ⟨by rfl, ?_⟩) hSS ?_
          rotate_left 1
          next => intro w hSw; rw [hSe] at hSw; obtain ⟨s1, s2, s3, s4, s5⟩ := hSw; go_simp; try with_reducible rfl
          refine wpAnyH_take (i := 6) (v := ?_) rfl (by kernel_rfl) (by kernel_rfl) (by kernel_rfl) (fun _ _ _ h => h) (Or.inl ⟨by rfl, ?_⟩) hSS ?_
          rotate_left 1
          next => intro w hSw; rw [hSe] at hSw; obtain ⟨s1, s2, s3, s4, s5⟩ := hSw; go_simp; try with_reducible rfl
          refine wpAnyH_take (i := 7) (v := ?_) rfl (by kernel_rfl) (by kernel_rfl) (by kernel_rfl) (fun _ _ _ h => h) (Or.inl ⟨by rfl, ?_⟩) hSS ?_
          rotate_left 1
          next => intro w hSw; rw [hSe] at hSw; obtain ⟨s1, s2, s3, s4, s5⟩ := hSw; go_simp; try with_reducible rfl
          refine wpAnyH_take (i := 8) (v := ?_) rfl (by kernel_rfl) (by kernel_rfl) (by kernel_rfl) (fun _ _ _ h => h) (Or.inl ⟨by rfl, ?_⟩) hSS ?_
          rotate_left 1
          next => intro w hSw; rw [hSe] at hSw; obtain ⟨s1, s2, s3, s4, s5⟩ := hSw; go_simp; try with_reducible rfl
          refine wpAnyH_take (i := 9) (v := ?_) rfl (by kernel_rfl) (by kernel_rfl) (by kernel_rfl) (fun _ _ _ h => h) (Or.inl ⟨by rfl, ?_⟩) hSS ?_
          rotate_left 1
          next => intro w hSw; rw [hSe] at hSw; obtain ⟨s1, s2, s3, s4, s5⟩ := hSw; go_simp; try with_reducible rfl
          refine wpAnyH_take (i := 10) (v := ?_) rfl (by kernel_rfl) (by kernel_rfl) (by kernel_rfl) (fun _ _ _ h => h) (Or.inl ⟨by rfl, ?_⟩) hSS ?_
          rotate_left 1
          next => intro w hSw; rw [hSe] at hSw; obtain ⟨s1, s2, s3, s4, s5⟩ := hSw; go_simp; try with_reducible rfl
          refine wpAnyH_take (i := 11) (v := ?_) rfl (by kernel_rfl) (by kernel_rfl) (by kernel_rfl) (fun _ _ _ h => h) (Or.inl ⟨by rfl, ?_⟩) hSS ?_
          rotate_left 1
          next => intro w hSw; rw [hSe] at hSw; obtain ⟨s1, s2, s3, s4, s5⟩ := hSw; go_simp; try with_reducible rfl
          refine wpAnyH_take (i := 12) (v := ?_) rfl (by kernel_rfl) (by kernel_rfl) (by kernel_rfl) (fun _ _ _ h => h) (Or.inl ⟨by rfl, ?_⟩) hSS ?_
          rotate_left 1
          next => intro w hSw; rw [hSe] at hSw; obtain ⟨s1, s2, s3, s4, s5⟩ := hSw; go_simp; try with_reducible rfl
          refine wpAnyH_take (i := 13) (v := ?_) rfl (by kernel_rfl) (by kernel_rfl) (by kernel_rfl) (fun _ _ _ h => h) (Or.inl ⟨by rfl, ?_⟩) hSS ?_
          rotate_left 1
          next => intro w hSw; rw [hSe] at hSw; obtain ⟨s1, s2, s3, s4, s5⟩ := hSw; go_simp; try with_reducible rfl
          try simp only [Act.put, List.getElem_toArray, List.getElem_cons_zero, List.getElem_cons_succ, List.setIfInBounds_toArray, List.set_cons_zero, List.set_cons_succ]
          refine wpAnyH_ready (rs := [14]) (by kernel_rfl) (by simp) ?_
          refine AllReadyH.cons rfl (fun K hK => ?_) AllReadyH.nil
          go_simp
          have hbW : Below W0.heap.size W0 (W0.alloc (.cells #[.bool z.neg, .string z.mag] 27)).drew := ((Below.refl _ _).alloc (Nat.le_refl _) _).drew
          have hd1 : Below y.heap.size y (W0.alloc (.cells #[.bool z.neg, .string z.mag] 27)).drew := HY.out.trans (hbW.mono hYs)
          have c1 : (W0.alloc (.cells #[.bool z.neg, .string z.mag] 27)).drew.cell? ⟨W0.heap.size, 0, none⟩ = some (.bool (canon f).neg) := by rw [Hz.out]; simp
          have c2 : (W0.alloc (.cells #[.bool z.neg, .string z.mag] 27)).drew.cell? ⟨W0.heap.size, 1, none⟩ = some (.string (canon f).mag) := by rw [Hz.out]; simp
          have HZ1 := HZ.out.below (Nat.le_refl _) hbW
          refine hK.out _ _ (HSS.out _ (HXW.out _ hd1)) (fun _ => ?_)
          clear hK K
          generalize (W0.alloc (.cells #[.bool z.neg, .string z.mag] 27)).drew = W1 at *
          refine wpAnyH_ready (rs := [15]) (by kernel_rfl) (by simp) ?_
          refine AllReadyH.cons rfl (fun K hK => ?_) AllReadyH.nil
          refine step_append_z1 rfl _ _ rfl y.heap.size _ (zsF (S i) k) rfl HZ1 W0.heap.size 1 f rfl c1 c2 (by rw [zsF_len]; omega) hd1.size ?_
          intro v9 w9 hown9 hgr9
          have hb9 : Below y.heap.size y w9 := below_append hd1 HZ1 hgr9 hd1.size (Nat.le_refl _)
          rw [← Hnx.out] at hown9
          refine hK.out _ _ (HSS.out _ (HXW.out _ hb9)) (fun _ => ?_)
          clear hK K
          try simp only [Act.put, List.getElem_toArray, List.getElem_cons_zero, List.getElem_cons_succ, List.setIfInBounds_toArray, List.set_cons_zero, List.set_cons_succ]
          refine wpAnyH_ready (rs := [16]) (by kernel_rfl) (by simp) ?_
          refine AllReadyH.cons rfl (fun K hK => ?_) AllReadyH.nil
          go_simp
          refine hK.out _ _ (HSS.out _ (HXW.out _ hb9)) (fun _ => ?_)
          clear hK K
          refine wpAnyH_done (by kernel_rfl) ?_ _
          have HZ9 := Lib.hid hown9
          have HY9 := Lib.hid hb9
          clear hown9 hgr9 hb9 HZ1 c1 c2 hd1 hbW hd hSS
          go_wp2
          go_roundw
          case rel => exact ⟨k + 1, by omega, by go_num, HZ9, HY9⟩
          case measure => simp [intOf]; omega
        · have k1 : ¬ (k : Int) < (t : Int) := by omega
          have hke : k = t := by omega
          have hz9 := HZ.out
          rw [hke, ← List.nil_append (zsF _ _)] at hz9
          have ht0 : 0 < t := by omega
          obtain ⟨gl, cl, rfl, hgl, hrow⟩ := hz9.mkRow ht0
          have hb12 : Below wr.heap.size wr (wr.alloc (.cells #[.slice (some ⟨gl, 0, none⟩) t cl] 24)) := (Below.refl _ _).alloc (Nat.le_refl _) _
          have hys := HY.out.size
          have hyw := HB.out.size
          have hs12 := (HS.out.below HY.out).below hb12
          have hrow12 := hrow.kept (hb12.block _ hrow.z.1)
          have hw12 : Below w1.heap.size w1 (wr.alloc (.cells #[.slice (some ⟨gl, 0, none⟩) t cl] 24)) := HB.out.trans ((HY.out.trans (hb12.mono hys)).mono hyw)
          have Hs12 := Lib.hid hs12
          have Hrow12 := Lib.hid hrow12
          have Hw12 := Lib.hid hw12
          have Hgl := Lib.hid (Nat.le_trans hyw hgl)
          clear hs12 hrow12 hw12 hgl hke hz9 ht0 hrow hb12 hys hyw HZ HY HS HB
          go_wp2_with (at_builtin; refine wpList_append_row rfl _ _ rfl w1.heap.size _ i t S rfl Hs12.out wr.heap.size 1 gl cl rfl ?_ Hrow12.out Hgl.out ?_ ?_ ?_)
          · omega
          · have := Hw12.out.size
            simpa using this
          · intro v13 w13 hs13 hb13
            have Hs13 := Lib.hid hs13
            have HY13 := Lib.hid (Hw12.out.trans hb13)
            clear hs13 hb13 Hs12 Hrow12 Hw12
            go_wp2
            go_roundw
            case rel => exact ⟨i + 1, by omega, by go_num, Hs13, HY13⟩
            case measure => simp [intOf]; omega
    · have i1 : ¬ (i : Int) < (t : Int) := by omega
      have hie : i = t := by omega
      have hs := HS.out
      rw [hie] at hs
      obtain ⟨q14, c14, rfl, hM14⟩ := hs.mat
      have HDD := Lib.hid (HD.out wr q14 c14 hM14)
      obtain ⟨hx0, hbw⟩ := HX.out wr HB.out
      have HXX := Lib.hid (fun W hW => hx0.below (w' := W) hW hx0.2.2.2.2)
      have Hbw := Lib.hid hbw
      clear hs hM14 hie HS hx0 hbw HB
      go_wp2_with fail
      refine HDD.out.mono ?_
      rintro e w15 ⟨rfl, hb15⟩
      dsimp only
      obtain ⟨b0, b1, b2, b3, b4⟩ := HXX.out _ hb15
      have Hb15 := Lib.hid (Hbw.out.trans (hb15.mono Hbw.out.size))
      clear hb15 HDD
      go_wp2
      refine bodyPost_ret (v := .agg #[.bool R.neg, .string R.mag]) ?_ rfl ⟨rfl, ?_⟩
      · simp [results, Try.results71, go_sem, b0, b1]
      · refine (Hb15.out.setCell ?_ _).setCell ?_ _ <;> simp
end Go.Proofs.Ytlkoiekdafaapaa

namespace Go.Proofs.Ytlkoiekdafaapaa
open Go.RowKit Go.Shelf

theorem ownI_at {w : World} {B g n c : Nat} {xs : List Int} (h : OwnInts w B (.slice (some ⟨g, 0, none⟩) n c) xs) : IntsAt w (some ⟨g, 0, none⟩) xs := by
  obtain ⟨p, cap, hv, _, hI, _⟩ := h.form
  injection hv with h1
  rw [h1]
  exact hI
set_option maxRecDepth 100000 in
set_option maxHeartbeats 16000000 in
theorem refMinors_any (m e N : Nat) (F : Nat → Nat → Int) (hN : N ≤ 2 ^ m) (hN6 : N ≤ 1000000) (hF : BnM N N F e) (hsz : N * (e + m) + N * m < 80000000) : ∀ (k from0 : Nat) (ts : List Nat) (p q : Option Addr) (cp cq : Nat), from0 ≤ N → (∀ t ∈ ts, t < N) → ts.length + k ≤ N → (q = none → cq = 0) → ∀ w : World, MatF w p N N F → IntsAt w q (ts.map Int.ofNat) →
    Calls Try.prog 71 #[.slice p N cp, .int .i64 (from0 : Int), .int .i64 (k : Int), .slice q ts.length cq] w (RetZ (canon (minS N F k from0 ts)) w) := by
  intro k
  induction k with
  | zero =>
    intro from0 ts p q cp cq _ ht hl _ w hM hq
    exact refMinors_zero m e N F hN hN6 hF from0 ts p q cp cq ht hl (by omega) w hM hq
  | succ k ih =>
    intro from0 ts p q cp cq hfr ht hl hq0 w hM hq
    obtain ⟨T, hT⟩ : ∃ T : Nat → Int, T = fun d => minS N F k (from0 + d + 1) (ts ++ [from0 + d]) := ⟨_, rfl⟩
    have hTd : ∀ d, d < N - from0 → Bn (T d) ((ts.length + 1 + k) * (e + m) + k * m) := fun d hd => by
      rw [hT]
      have h2 := minS_bn m e N F hN hF k (from0 + d + 1) (ts ++ [from0 + d]) (fun t h => by
        rcases List.mem_append.1 h with h | h
        · exact ht t h
        · have := List.mem_singleton.1 h
          omega) (by rw [List.length_append, List.length_singleton]; omega)
      rw [List.length_append, List.length_singleton] at h2
      exact h2
    have hbd : (ts.length + 1 + k) * (e + m) + k * m + m < 80000000 := by
      have h1 : (ts.length + 1 + k) * (e + m) ≤ N * (e + m) := Nat.mul_le_mul_right _ (by omega)
      have h2 : (k + 1) * m ≤ N * m := Nat.mul_le_mul_right _ (by omega)
      rw [Nat.add_mul, Nat.one_mul] at h2
      omega
    have hS1 : ∀ i, from0 ≤ i → i < N → (canon (T (i - from0))).mag.size ≤ 10000000 := fun i h1 h2 => (hTd _ (by omega)).size _ (by omega)
    have hS2 : ∀ i, from0 ≤ i → i ≤ N → (canon (dotN T (i - from0))).mag.size ≤ 10000000 := fun i h1 h2 => (Bn.dot (e := (ts.length + 1 + k) * (e + m) + k * m) (m := m) (i - from0) (by omega) fun j hj => hTd j (by omega)).size _ (by omega)
    have hres : minS N F (k + 1) from0 ts = dotN T (N - from0) := by rw [hT]; rfl
    have HR : Hid (∀ i, from0 ≤ i → i < N → ∀ (W : World) (g2 c2 : Nat), Below w.heap.size w W → IntsAt W (some ⟨g2, 0, none⟩) (ts.map Int.ofNat ++ [(i : Int)]) → Calls Try.prog 71 #[.slice p N cp, .int .i64 ((i : Int) + 1), .int .i64 (((k + 1 : Nat) : Int) - 1), .slice (some ⟨g2, 0, none⟩) ((ts.map Int.ofNat).length + 1) c2] W (RetZ (canon (T (i - from0))) W)) := Lib.hid (fun i h1 h2 W g2 c2 hW hI => by
      have h := ih (i + 1) (ts ++ [i]) p (some ⟨g2, 0, none⟩) cp c2 (by omega) (fun t h => by
        rcases List.mem_append.1 h with h | h
        · exact ht t h
        · have := List.mem_singleton.1 h
          omega) (by rw [List.length_append, List.length_singleton]; omega) (fun h => by cases h) W (hM.below (Nat.le_refl _) hW) (by rw [List.map_append]; exact hI)
      rw [List.length_append, List.length_singleton] at h
      rw [show ((i : Int) + 1) = ((i + 1 : Nat) : Int) from by push_cast; rfl, show (((k + 1 : Nat) : Int) - 1) = (k : Int) from by omega, List.length_map, hT]
      dsimp only
      rw [show from0 + (i - from0) = i from by omega]
      exact h)
    rw [hres]
    have hxl : (ts.map Int.ofNat).length = ts.length := List.length_map ..
    have hts : ts.length ≤ 1000000 := by omega
    have hk6 : k + 1 ≤ 1000000 := by omega
    have HS1 := Lib.hid hS1
    have HS2 := Lib.hid hS2
    have HIA : Hid (∀ W, Below w.heap.size w W → IntsAt W q (ts.map Int.ofNat)) := Lib.hid (fun W hW => hq.below (Nat.le_refl _) hW)
    clear hT hTd hbd hS1 hS2 hres ih hq ht hF hsz hN hl
    obtain ⟨pb, po, hpe⟩ : ∃ pb po : Nat, True := ⟨0, 0, trivial⟩
    clear pb po hpe
    generalize ts.map Int.ofNat = xs at *
    rw [← hxl] at hts ⊢
    clear hxl
    obtain ⟨n, hn⟩ : ∃ n, k + 1 = n := ⟨_, rfl⟩
    have hn6 : n ≤ 1000000 := by omega
    have n0 : ((n : Int) == 0) = false := by rw [beq_eq_false_iff_ne]; omega
    have wn : IntKind.i64.wrap ((n : Int) - 1) = (n : Int) - 1 := IntWalk.i64_in _ (by omega)
    rw [hn] at HR hk6 ⊢
    clear hn hM
    have Hq0 := Lib.hid hq0
    clear hq0
    go_enter Try.func71, Try.ntmps71
    go_wp2_with fail
    have hb0 : Below w.heap.size w ((w.alloc (.cells #[.bool false, .string ⟨#[]⟩] 27)).alloc (.cells #[.bool false, .string ⟨#[]⟩] 27)) := ((Below.refl _ w).alloc (Nat.le_refl _) _).alloc (by simp) _
    have hx0 : BoxAt ((w.alloc (.cells #[.bool false, .string ⟨#[]⟩] 27)).alloc (.cells #[.bool false, .string ⟨#[]⟩] 27)) w.heap.size (.bool false) (.string ⟨#[]⟩) := (BoxAt.new w _ _ _).alloc _
    have hx1 : BoxAt ((w.alloc (.cells #[.bool false, .string ⟨#[]⟩] 27)).alloc (.cells #[.bool false, .string ⟨#[]⟩] 27)) (w.heap.size + 1) (.bool (canon (dotN T (from0 - from0))).neg) (.string (canon (dotN T (from0 - from0))).mag) := by
      rw [Nat.sub_self]
      have := BoxAt.new (w.alloc (.cells #[.bool false, .string ⟨#[]⟩] 27)) (.bool false) (.string ⟨#[]⟩) 27
      have c0 : canon (dotN T 0) = ⟨false, ⟨#[]⟩⟩ := rfl
      rw [c0]
      simpa using this
    generalize (w.alloc (.cells #[.bool false, .string ⟨#[]⟩] 27)).alloc (.cells #[.bool false, .string ⟨#[]⟩] 27) = w1 at *
    go_loopw [14] (fun v wr => ∃ i : Nat, from0 ≤ i ∧ i ≤ N ∧ v = .int .i64 i ∧ Hid (Below w.heap.size w wr) ∧ Hid (BoxAt wr w.heap.size (.bool false) (.string ⟨#[]⟩)) ∧ Hid (BoxAt wr (w.heap.size + 1) (.bool (canon (dotN T (i - from0))).neg) (.string (canon (dotN T (i - from0))).mag))) (fun v _ => N - (intOf v).toNat)
    case atStart => exact ⟨from0, Nat.le_refl _, hfr, by go_num, Lib.hid hb0, Lib.hid hx0, Lib.hid hx1⟩
    case round =>
      clear hb0 hx0 hx1
      obtain ⟨i, hfi, hi, rfl, Hb, H0, H1⟩ := hrel
      by_cases hlt : i < N
      · have i1 : (i : Int) < (N : Int) := by omega
        have wi : IntKind.i64.wrap ((i : Int) + 1) = (i : Int) + 1 := IntWalk.i64_in _ (by omega)
        have hx1 : dotN T (i + 1 - from0) = dotN T (i - from0) + T (i - from0) := by
          rw [show i + 1 - from0 = (i - from0) + 1 from by omega]; rfl
        have hs1 := HS1.out i hfi hlt
        have hs2 := HS2.out i hfi (by omega)
        have HRi := Lib.hid (HR.out i hfi hlt)
        obtain ⟨s, hs⟩ : ∃ s, dotN T (i - from0) = s := ⟨_, rfl⟩
        obtain ⟨t, ht⟩ : ∃ t, T (i - from0) = t := ⟨_, rfl⟩
        rw [hs] at hx1 hs2 H1
        rw [ht] at hx1 hs1 HRi
        have HA := Lib.hid (fun W => refAddC_any s t (by omega) (by omega) W)
        have Hx1 := Lib.hid hx1
        obtain ⟨Y, hY⟩ : ∃ W, wr = W := ⟨_, rfl⟩
        rw [hY] at Hb H0 H1 ⊢
        clear hY hs ht hx1 hs1 hs2
        have hHN : ∀ W, Below Y.heap.size Y W → Below w.heap.size w ((W.setCell ⟨w.heap.size + 1, 0, none⟩ (.bool (canon (s + t)).neg)).setCell ⟨w.heap.size + 1, 1, none⟩ (.string (canon (s + t)).mag)) ∧ BoxAt ((W.setCell ⟨w.heap.size + 1, 0, none⟩ (.bool (canon (s + t)).neg)).setCell ⟨w.heap.size + 1, 1, none⟩ (.string (canon (s + t)).mag)) w.heap.size (.bool false) (.string ⟨#[]⟩) ∧ BoxAt ((W.setCell ⟨w.heap.size + 1, 0, none⟩ (.bool (canon (s + t)).neg)).setCell ⟨w.heap.size + 1, 1, none⟩ (.string (canon (s + t)).mag)) (w.heap.size + 1) (.bool (canon (s + t)).neg) (.string (canon (s + t)).mag) := fun W hW =>
          ⟨((Hb.out.trans (hW.mono Hb.out.size)).setCell (by show w.heap.size ≤ w.heap.size + 1; omega) _).setCell (by show w.heap.size ≤ w.heap.size + 1; omega) _,
           boxp_far (boxp_far (H0.out.below hW H0.out.2.2.2.2) (by show w.heap.size ≠ w.heap.size + 1; omega) _) (by show w.heap.size ≠ w.heap.size + 1; omega) _,
           boxp_set (H1.out.below hW H1.out.2.2.2.2) _ _⟩
        have HN := Lib.hid hHN
        have HH1 : Hid (∀ W, Below Y.heap.size Y W → BoxAt W (w.heap.size + 1) (.bool (canon s).neg) (.string (canon s).mag)) := Lib.hid (fun W hW => H1.out.below hW H1.out.2.2.2.2)
        have HWW : Hid (∀ W, Below Y.heap.size Y W → Below w.heap.size w W) := Lib.hid (fun W hW => Hb.out.trans (hW.mono Hb.out.size))
        clear hHN H0 H1 Hb
        have hya : Below Y.heap.size Y (Y.alloc (.cells #[] 3)) := (Below.refl _ _).alloc (Nat.le_refl _) _
        have hia := HIA.out _ (HWW.out _ hya)
        go_wp2_with (at_builtin; refine wpList_append_ints rfl _ _ rfl Y.heap.size _ [] rfl (OwnInts.made Y (Nat.le_refl _)) q cq xs.length xs rfl rfl hia Hq0.out ?_ ?_ ?_)
        · simp; omega
        · simp
        intro v9 w9 hown9 hb9
        have hw9 := hya.trans (hb9.mono (Nat.le_refl _))
        have hi9 : IntsAt w9 (some ⟨0, 0, none⟩) xs → True := fun _ => trivial
        clear hi9 hia hya hb9
        obtain ⟨SS, hSe⟩ : ∃ SS : World → Prop, SS = fun _ => True := ⟨_, rfl⟩
        have HSS : Hid (∀ W, SS W) := Lib.hid (fun W => by rw [hSe]; trivial)
        have HF1 : Hid (∀ W1, W1 = (w9.alloc (.cells #[.int .i64 (i : Int)] 3)).drew → Below Y.heap.size Y W1 ∧ OwnInts W1 Y.heap.size v9 xs ∧ W1.cell? ⟨w9.heap.size, 0, none⟩ = some (.int .i64 (i : Int))) := Lib.hid (fun W1 h => by
          have hb : Below w9.heap.size w9 W1 := by rw [h]; exact ((Below.refl _ _).alloc (Nat.le_refl _) _).drew
          exact ⟨hw9.trans (hb.mono hw9.size), hown9.below (Nat.le_refl _) hb, by rw [h]; simp⟩)
        have hd : Below Y.heap.size Y w9.drew := hw9.drew
        clear hown9 hw9
        go_upto_region 18 with (fail)
        refine wp_region_held_drew (S := SS) (by kernel_rfl) (HSS.out _) (fun hSS => ?_)
        refine wpAnyH_take (i := 1) (v := ?_) rfl (by kernel_rfl) (by kernel_rfl) (by kernel_rfl) (fun _ _ _ h => h) (Or.inl ⟨by rfl, ?_⟩) hSS ?_
        rotate_left 1
        next => intro w hSw; rw [hSe] at hSw; have s1 := hSw; go_simp; try with_reducible rfl
        refine wpAnyH_take (i := 2) (v := ?_) rfl (by kernel_rfl) (by kernel_rfl) (by kernel_rfl) (fun _ _ _ h => h) (Or.inl ⟨by rfl, ?_⟩) hSS ?_
        rotate_left 1
        next => intro w hSw; rw [hSe] at hSw; have s1 := hSw; go_simp; try with_reducible rfl
        refine wpAnyH_take (i := 3) (v := ?_) rfl (by kernel_rfl) (by kernel_rfl) (by kernel_rfl) (fun _ _ _ h => h) (Or.inl ⟨by rfl, ?_⟩) hSS ?_
        rotate_left 1
        next => intro w hSw; rw [hSe] at hSw; have s1 := hSw; go_simp; try with_reducible rfl
        refine wpAnyH_take (i := 4) (v := ?_) rfl (by kernel_rfl) (by kernel_rfl) (by kernel_rfl) (fun _ _ _ h => h) (Or.inl ⟨by rfl, ?_⟩) hSS ?_
        rotate_left 1
        next => intro w hSw; rw [hSe] at hSw; have s1 := hSw; go_simp; try with_reducible rfl
        refine wpAnyH_take (i := 5) (v := ?_) rfl (by kernel_rfl) (by kernel_rfl) (by kernel_rfl) (fun _ _ _ h => h) (Or.inl ⟨by rfl, ?_⟩) hSS ?_
        rotate_left 1
        next => intro w hSw; rw [hSe] at hSw; have s1 := hSw; go_simp; try with_reducible rfl
        refine wpAnyH_take (i := 6) (v := ?_) rfl (by kernel_rfl) (by kernel_rfl) (by kernel_rfl) (fun _ _ _ h => h) (Or.inl ⟨by rfl, ?_⟩) hSS ?_
        rotate_left 1
        next => intro w hSw; rw [hSe] at hSw; have s1 := hSw; go_simp; try with_reducible rfl
        refine wpAnyH_take (i := 7) (v := ?_) rfl (by kernel_rfl) (by kernel_rfl) (by kernel_rfl) (fun _ _ _ h => h) (Or.inl ⟨by rfl, ?_⟩) hSS ?_
        rotate_left 1
        next => intro w hSw; rw [hSe] at hSw; have s1 := hSw; go_simp; try with_reducible rfl
        try simp only [Act.put, List.getElem_toArray, List.getElem_cons_zero, List.getElem_cons_succ, List.setIfInBounds_toArray, List.set_cons_zero, List.set_cons_succ]
        refine wpAnyH_ready (rs := [0, 8]) (by kernel_rfl) (by simp) ?_
        refine AllReadyH.cons rfl (fun K hK => ?_) (AllReadyH.cons rfl (fun K hK => ?_) AllReadyH.nil)
        · obtain ⟨z0, z1, z2, z3, z4⟩ := HH1.out _ hd
          go_simp
          refine hK.out _ _ (HSS.out _) (fun _ => ?_)
          clear hK K z0 z1 z2 z3 z4
          try simp only [Act.put, List.getElem_toArray, List.getElem_cons_zero, List.getElem_cons_succ, List.setIfInBounds_toArray, List.set_cons_zero, List.set_cons_succ]
          refine wpAnyH_ready (rs := [8]) (by kernel_rfl) (by simp) ?_
          refine AllReadyH.cons rfl (fun K hK => ?_) AllReadyH.nil
          go_simp
          obtain ⟨W1, hW1e⟩ : ∃ W, (w9.alloc (.cells #[.int .i64 (i : Int)] 3)).drew = W := ⟨_, rfl⟩
          rw [hW1e]
          obtain ⟨hW1, ho1, hc1⟩ := HF1.out _ hW1e.symm
          clear hW1e
          refine hK.out _ _ (HSS.out _) (fun _ => ?_)
          clear hK K
          try simp only [Act.put, List.getElem_toArray, List.getElem_cons_zero, List.getElem_cons_succ, List.setIfInBounds_toArray, List.set_cons_zero, List.set_cons_succ]
          refine wpAnyH_ready (rs := [9]) (by kernel_rfl) (by simp) ?_
          refine AllReadyH.cons rfl (fun K hK => ?_) AllReadyH.nil
          refine step_append_i1 rfl _ _ rfl Y.heap.size v9 xs rfl ho1 w9.heap.size 1 (i : Int) rfl hc1 (by omega) hW1.size ?_
          intro g2 c2 W2 ho2 hg2
          have hW2 : Below Y.heap.size Y W2 := below_append hW1 ho1 hg2 hW1.size (Nat.le_refl _)
          have hI2 := ownI_at ho2
          clear ho1 hc1 ho2 hg2
          refine hK.out _ _ (HSS.out _) (fun _ => ?_)
          clear hK K
          try simp only [Act.put, List.getElem_toArray, List.getElem_cons_zero, List.getElem_cons_succ, List.setIfInBounds_toArray, List.set_cons_zero, List.set_cons_succ]
          refine wpAnyH_ready (rs := [10]) (by kernel_rfl) (by simp) ?_
          refine AllReadyH.cons rfl (fun K hK => ?_) AllReadyH.nil
          go_simp
          refine (HRi.out _ g2 c2 (HWW.out _ hW2) hI2).mono ?_
          rintro e W3 ⟨rfl, hbc⟩
          have hW3 : Below Y.heap.size Y W3 := hW2.trans (hbc.mono hW2.size)
          dsimp only
          refine hK.out _ _ (HSS.out _) (fun _ => ?_)
          clear hK K hbc
          try simp only [Act.put, List.getElem_toArray, List.getElem_cons_zero, List.getElem_cons_succ, List.setIfInBounds_toArray, List.set_cons_zero, List.set_cons_succ]
          refine wpAnyH_ready (rs := [11]) (by kernel_rfl) (by simp) ?_
          refine AllReadyH.cons rfl (fun K hK => ?_) AllReadyH.nil
          go_simp
          refine (HA.out _).mono ?_
          rintro e W4 ⟨rfl, hbc⟩
          have hW4 : Below Y.heap.size Y W4 := hW3.trans (hbc.mono hW3.size)
          dsimp only
          refine hK.out _ _ (HSS.out _) (fun _ => ?_)
          clear hK K hbc
          try simp only [Act.put, List.getElem_toArray, List.getElem_cons_zero, List.getElem_cons_succ, List.setIfInBounds_toArray, List.set_cons_zero, List.set_cons_succ]
          refine wpAnyH_ready (rs := [12]) (by kernel_rfl) (by simp) ?_
          refine AllReadyH.cons rfl (fun K hK => ?_) AllReadyH.nil
          obtain ⟨z0, z1, z2, z3, z4⟩ := HH1.out _ hW4
          go_simp
          refine hK.out _ _ (HSS.out _) (fun _ => ?_)
          clear hK K z0 z1 z2 z3 z4
          refine wpAnyH_done (by kernel_rfl) ?_ _
          obtain ⟨n1, n2, n3⟩ := HN.out _ hW4
          have N1 := Lib.hid n1
          have N2 := Lib.hid n2
          have N3 := Lib.hid n3
          clear n1 n2 n3
          go_wp2
          go_roundw
          case rel => exact ⟨i + 1, by omega, by omega, by go_num, N1, N2, Lib.hid (by rw [Hx1.out]; exact N3.out)⟩
          case measure => simp [intOf]; omega
        · go_simp
          obtain ⟨W1, hW1e⟩ : ∃ W, (w9.alloc (.cells #[.int .i64 (i : Int)] 3)).drew = W := ⟨_, rfl⟩
          rw [hW1e]
          obtain ⟨hW1, ho1, hc1⟩ := HF1.out _ hW1e.symm
          clear hW1e
          refine hK.out _ _ (HSS.out _) (fun _ => ?_)
          clear hK K
          try simp only [Act.put, List.getElem_toArray, List.getElem_cons_zero, List.getElem_cons_succ, List.setIfInBounds_toArray, List.set_cons_zero, List.set_cons_succ]
          refine wpAnyH_ready (rs := [0, 9]) (by kernel_rfl) (by simp) ?_
          refine AllReadyH.cons rfl (fun K hK => ?_) (AllReadyH.cons rfl (fun K hK => ?_) AllReadyH.nil)
          · obtain ⟨z0, z1, z2, z3, z4⟩ := HH1.out _ hW1
            go_simp
            refine hK.out _ _ (HSS.out _) (fun _ => ?_)
            clear hK K z0 z1 z2 z3 z4
            try simp only [Act.put, List.getElem_toArray, List.getElem_cons_zero, List.getElem_cons_succ, List.setIfInBounds_toArray, List.set_cons_zero, List.set_cons_succ]
            refine wpAnyH_ready (rs := [9]) (by kernel_rfl) (by simp) ?_
            refine AllReadyH.cons rfl (fun K hK => ?_) AllReadyH.nil
            refine step_append_i1 rfl _ _ rfl Y.heap.size v9 xs rfl ho1 w9.heap.size 1 (i : Int) rfl hc1 (by omega) hW1.size ?_
            intro g2 c2 W2 ho2 hg2
            have hW2 : Below Y.heap.size Y W2 := below_append hW1 ho1 hg2 hW1.size (Nat.le_refl _)
            have hI2 := ownI_at ho2
            clear ho1 hc1 ho2 hg2
            refine hK.out _ _ (HSS.out _) (fun _ => ?_)
            clear hK K
            try simp only [Act.put, List.getElem_toArray, List.getElem_cons_zero, List.getElem_cons_succ, List.setIfInBounds_toArray, List.set_cons_zero, List.set_cons_succ]
            refine wpAnyH_ready (rs := [10]) (by kernel_rfl) (by simp) ?_
            refine AllReadyH.cons rfl (fun K hK => ?_) AllReadyH.nil
            go_simp
            refine (HRi.out _ g2 c2 (HWW.out _ hW2) hI2).mono ?_
            rintro e W3 ⟨rfl, hbc⟩
            have hW3 : Below Y.heap.size Y W3 := hW2.trans (hbc.mono hW2.size)
            dsimp only
            refine hK.out _ _ (HSS.out _) (fun _ => ?_)
            clear hK K hbc
            try simp only [Act.put, List.getElem_toArray, List.getElem_cons_zero, List.getElem_cons_succ, List.setIfInBounds_toArray, List.set_cons_zero, List.set_cons_succ]
            refine wpAnyH_ready (rs := [11]) (by kernel_rfl) (by simp) ?_
            refine AllReadyH.cons rfl (fun K hK => ?_) AllReadyH.nil
            go_simp
            refine (HA.out _).mono ?_
            rintro e W4 ⟨rfl, hbc⟩
            have hW4 : Below Y.heap.size Y W4 := hW3.trans (hbc.mono hW3.size)
            dsimp only
            refine hK.out _ _ (HSS.out _) (fun _ => ?_)
            clear hK K hbc
            try simp only [Act.put, List.getElem_toArray, List.getElem_cons_zero, List.getElem_cons_succ, List.setIfInBounds_toArray, List.set_cons_zero, List.set_cons_succ]
            refine wpAnyH_ready (rs := [12]) (by kernel_rfl) (by simp) ?_
            refine AllReadyH.cons rfl (fun K hK => ?_) AllReadyH.nil
            obtain ⟨z0, z1, z2, z3, z4⟩ := HH1.out _ hW4
            go_simp
            refine hK.out _ _ (HSS.out _) (fun _ => ?_)
            clear hK K z0 z1 z2 z3 z4
            refine wpAnyH_done (by kernel_rfl) ?_ _
            obtain ⟨n1, n2, n3⟩ := HN.out _ hW4
            have N1 := Lib.hid n1
            have N2 := Lib.hid n2
            have N3 := Lib.hid n3
            clear n1 n2 n3
            go_wp2
            go_roundw
            case rel => exact ⟨i + 1, by omega, by omega, by go_num, N1, N2, Lib.hid (by rw [Hx1.out]; exact N3.out)⟩
            case measure => simp [intOf]; omega
          · refine step_append_i1 rfl _ _ rfl Y.heap.size v9 xs rfl ho1 w9.heap.size 1 (i : Int) rfl hc1 (by omega) hW1.size ?_
            intro g2 c2 W2 ho2 hg2
            have hW2 : Below Y.heap.size Y W2 := below_append hW1 ho1 hg2 hW1.size (Nat.le_refl _)
            have hI2 := ownI_at ho2
            clear ho1 hc1 ho2 hg2
            refine hK.out _ _ (HSS.out _) (fun _ => ?_)
            clear hK K
            try simp only [Act.put, List.getElem_toArray, List.getElem_cons_zero, List.getElem_cons_succ, List.setIfInBounds_toArray, List.set_cons_zero, List.set_cons_succ]
            refine wpAnyH_ready (rs := [0, 10]) (by kernel_rfl) (by simp) ?_
            refine AllReadyH.cons rfl (fun K hK => ?_) (AllReadyH.cons rfl (fun K hK => ?_) AllReadyH.nil)
            · obtain ⟨z0, z1, z2, z3, z4⟩ := HH1.out _ hW2
              go_simp
              refine hK.out _ _ (HSS.out _) (fun _ => ?_)
              clear hK K z0 z1 z2 z3 z4
              try simp only [Act.put, List.getElem_toArray, List.getElem_cons_zero, List.getElem_cons_succ, List.setIfInBounds_toArray, List.set_cons_zero, List.set_cons_succ]
              refine wpAnyH_ready (rs := [10]) (by kernel_rfl) (by simp) ?_
              refine AllReadyH.cons rfl (fun K hK => ?_) AllReadyH.nil
              go_simp
              refine (HRi.out _ g2 c2 (HWW.out _ hW2) hI2).mono ?_
              rintro e W3 ⟨rfl, hbc⟩
              have hW3 : Below Y.heap.size Y W3 := hW2.trans (hbc.mono hW2.size)
              dsimp only
              refine hK.out _ _ (HSS.out _) (fun _ => ?_)
              clear hK K hbc
              try simp only [Act.put, List.getElem_toArray, List.getElem_cons_zero, List.getElem_cons_succ, List.setIfInBounds_toArray, List.set_cons_zero, List.set_cons_succ]
              refine wpAnyH_ready (rs := [11]) (by kernel_rfl) (by simp) ?_
              refine AllReadyH.cons rfl (fun K hK => ?_) AllReadyH.nil
              go_simp
              refine (HA.out _).mono ?_
              rintro e W4 ⟨rfl, hbc⟩
              have hW4 : Below Y.heap.size Y W4 := hW3.trans (hbc.mono hW3.size)
              dsimp only
              refine hK.out _ _ (HSS.out _) (fun _ => ?_)
              clear hK K hbc
              try simp only [Act.put, List.getElem_toArray, List.getElem_cons_zero, List.getElem_cons_succ, List.setIfInBounds_toArray, List.set_cons_zero, List.set_cons_succ]
              refine wpAnyH_ready (rs := [12]) (by kernel_rfl) (by simp) ?_
              refine AllReadyH.cons rfl (fun K hK => ?_) AllReadyH.nil
              obtain ⟨z0, z1, z2, z3, z4⟩ := HH1.out _ hW4
              go_simp
              refine hK.out _ _ (HSS.out _) (fun _ => ?_)
              clear hK K z0 z1 z2 z3 z4
              refine wpAnyH_done (by kernel_rfl) ?_ _
              obtain ⟨n1, n2, n3⟩ := HN.out _ hW4
              have N1 := Lib.hid n1
              have N2 := Lib.hid n2
              have N3 := Lib.hid n3
              clear n1 n2 n3
              go_wp2
              go_roundw
              case rel => exact ⟨i + 1, by omega, by omega, by go_num, N1, N2, Lib.hid (by rw [Hx1.out]; exact N3.out)⟩
              case measure => simp [intOf]; omega
            · go_simp
              refine (HRi.out _ g2 c2 (HWW.out _ hW2) hI2).mono ?_
              rintro e W3 ⟨rfl, hbc⟩
              have hW3 : Below Y.heap.size Y W3 := hW2.trans (hbc.mono hW2.size)
              dsimp only
              refine hK.out _ _ (HSS.out _) (fun _ => ?_)
              clear hK K hbc
              try simp only [Act.put, List.getElem_toArray, List.getElem_cons_zero, List.getElem_cons_succ, List.setIfInBounds_toArray, List.set_cons_zero, List.set_cons_succ]
              refine wpAnyH_ready (rs := [0]) (by kernel_rfl) (by simp) ?_
              refine AllReadyH.cons rfl (fun K hK => ?_) AllReadyH.nil
              obtain ⟨z0, z1, z2, z3, z4⟩ := HH1.out _ hW3
              go_simp
              refine hK.out _ _ (HSS.out _) (fun _ => ?_)
              clear hK K z0 z1 z2 z3 z4
              try simp only [Act.put, List.getElem_toArray, List.getElem_cons_zero, List.getElem_cons_succ, List.setIfInBounds_toArray, List.set_cons_zero, List.set_cons_succ]
              refine wpAnyH_ready (rs := [11]) (by kernel_rfl) (by simp) ?_
              refine AllReadyH.cons rfl (fun K hK => ?_) AllReadyH.nil
              go_simp
              refine (HA.out _).mono ?_
              rintro e W4 ⟨rfl, hbc⟩
              have hW4 : Below Y.heap.size Y W4 := hW3.trans (hbc.mono hW3.size)
              dsimp only
              refine hK.out _ _ (HSS.out _) (fun _ => ?_)
              clear hK K hbc
              try simp only [Act.put, List.getElem_toArray, List.getElem_cons_zero, List.getElem_cons_succ, List.setIfInBounds_toArray, List.set_cons_zero, List.set_cons_succ]
              refine wpAnyH_ready (rs := [12]) (by kernel_rfl) (by simp) ?_
              refine AllReadyH.cons rfl (fun K hK => ?_) AllReadyH.nil
              obtain ⟨z0, z1, z2, z3, z4⟩ := HH1.out _ hW4
              go_simp
              refine hK.out _ _ (HSS.out _) (fun _ => ?_)
              clear hK K z0 z1 z2 z3 z4
              refine wpAnyH_done (by kernel_rfl) ?_ _
              obtain ⟨n1, n2, n3⟩ := HN.out _ hW4
              have N1 := Lib.hid n1
              have N2 := Lib.hid n2
              have N3 := Lib.hid n3
              clear n1 n2 n3
              go_wp2
              go_roundw
              case rel => exact ⟨i + 1, by omega, by omega, by go_num, N1, N2, Lib.hid (by rw [Hx1.out]; exact N3.out)⟩
              case measure => simp [intOf]; omega
      · have i1 : ¬ (i : Int) < (N : Int) := by omega
        have hie : i = N := by omega
        rw [hie] at H1
        obtain ⟨b0, b1, b2, b3, b4⟩ := H0.out
        obtain ⟨d0, d1, d2, d3, d4⟩ := H1.out
        generalize canon (dotN T (N - from0)) = R at *
        clear H0 H1 hie
        go_wp2
        refine bodyPost_ret (v := .agg #[.bool R.neg, .string R.mag]) ?_ rfl ⟨rfl, ?_⟩
        · simp [results, Try.results71, go_sem, b0, b1]
        · refine (Hb.out.setCell ?_ _).setCell ?_ _ <;> simp
end Go.Proofs.Ytlkoiekdafaapaa

namespace Go.Proofs.Ytlkoiekdafaapaa
open Go.RowKit Go.Shelf

/-- All numbers of the expansions are of moderate size. -/
def DetQ (r : Nat) (F : Nat → Nat → Int) : Prop := ∃ e m, r ≤ 2 ^ m ∧ BnM r r F e ∧ r * (e + m) + r * m < 80000000
set_option maxRecDepth 100000 in
set_option maxHeartbeats 4000000 in
theorem refDet_m (a : GM) (p : Option Addr) (cp : Nat) (hfa : a.Fit) (hok : a.sq = 0 → DetQ a.r a.F) (w : World) (ha : a.At w p) :
    Calls Try.prog 19 #[.slice p a.r cp] w (RetNumE a.sq (detL a.r a.F) w) := by
  have HS := Lib.hid (fun W (hW : Below w.heap.size w W) => refSquare_any a p cp hfa W (ha.below (Nat.le_refl _) hW))
  have hbx := BoxAt.new w (.bool false) (.string ⟨#[]⟩) 27
  have hb0 : Below w.heap.size w (w.alloc (.cells #[.bool false, .string ⟨#[]⟩] 27)) := (Below.refl _ w).alloc (Nat.le_refl _) _
  have HS := Lib.hid (HS.out _ hb0)
  have HB : Hid (∀ W, Below (w.alloc (.cells #[.bool false, .string ⟨#[]⟩] 27)).heap.size (w.alloc (.cells #[.bool false, .string ⟨#[]⟩] 27)) W → BoxAt W w.heap.size (.bool false) (.string ⟨#[]⟩) ∧ Below w.heap.size w W) := Lib.hid (fun W hW => ⟨hbx.below hW hbx.2.2.2.2, hb0.trans (hW.mono hb0.size)⟩)
  clear hbx hb0
  by_cases hs : a.sq = 0
  · obtain ⟨h1, h2, h3, h4⟩ := GM.sq_zero hs
    have hM := GM.mat ha h1
    rw [← h2] at hM
    obtain ⟨e, m, q1, q2, q3⟩ := hok hs
    have HD := Lib.hid (fun (W : World) (hW : Below w.heap.size w W) => refDet_any m e a.r p cp a.F q1 (by omega) (by omega) q2 W (hM.below (Nat.le_refl _) hW))
    rw [hs] at HS ⊢
    clear hs h1 h2 h3 h4 hM q1 q2 q3 hok hfa ha
    generalize detL a.r a.F = d at *
    generalize a.r = r at *
    go_enter Try.func19, Try.ntmps19
    go_wp2_with fail
    refine HS.out.mono ?_
    rintro e w2 ⟨rfl, hb⟩
    dsimp only
    obtain ⟨_, hbw⟩ := HB.out _ hb
    have Hb := Lib.hid hb
    have HDD := Lib.hid (HD.out _ hbw)
    clear hb hbw HS HD
    go_wp2_with fail
    refine HDD.out.mono ?_
    rintro e w3 ⟨rfl, hb3⟩
    dsimp only
    obtain ⟨⟨b0, b1, b2, b3, b4⟩, hbw⟩ := HB.out _ (Hb.out.trans (hb3.mono Hb.out.size))
    have Hbw := Lib.hid hbw
    clear hb3 hbw Hb HB HDD
    go_wp2
    refine bodyPost_ret (v := .tuple #[.agg #[.bool (canon d).neg, .string (canon d).mag], .int .i64 0]) (by simp [results, Try.results19, go_sem, b0, b1]) rfl ?_
    exact ⟨(Hbw.out.setCell (by simp) _).setCell (by simp) _, .inl ⟨rfl, rfl⟩⟩
  · clear hok hfa ha
    generalize a.sq = v at *
    generalize detL a.r a.F = d at *
    generalize a.r = r at *
    have e1 : (v != 0) = true := by rw [bne_iff_ne]; exact hs
    have Hs := Lib.hid hs
    clear hs
    go_enter Try.func19, Try.ntmps19
    go_wp2_with fail
    refine HS.out.mono ?_
    rintro e w2 ⟨rfl, hb⟩
    dsimp only
    obtain ⟨⟨b0, b1, b2, b3, b4⟩, hbw⟩ := HB.out _ hb
    have Hbw := Lib.hid hbw
    clear hb hbw HS HB
    go_wp2
    refine bodyPost_ret (v := .tuple #[.agg #[.bool false, .string ⟨#[]⟩], .int .i64 v]) (by simp [results, Try.results19, go_sem, b0, b1]) rfl ?_
    exact ⟨(Hbw.out.setCell (by simp) _).setCell (by simp) _, .inr ⟨Hs.out, rfl⟩⟩
set_option maxRecDepth 100000 in
set_option maxHeartbeats 4000000 in
theorem refChr_m (a : GM) (p : Option Addr) (cp : Nat) (hfa : a.Fit) (hok : a.sq = 0 → DetQ a.r a.F) (w : World) (ha : a.At w p) :
    Calls Try.prog 23 #[.slice p a.r cp] w (RetRowE a.sq (a.r + 1) (fun k => sgF (a.r - k) (minS a.r a.F (a.r - k) 0 [])) w) := by
  have HS := Lib.hid (refSquare_any a p cp hfa w ha)
  by_cases hs : a.sq = 0
  · obtain ⟨h1, h2, h3, h4⟩ := GM.sq_zero hs
    have hM := GM.mat ha h1
    rw [← h2] at hM
    obtain ⟨e, m, q1, q2, q3⟩ := hok hs
    have hbk : ∀ k, k ≤ a.r → (canon (minS a.r a.F (a.r - k) 0 [])).mag.size ≤ 10000000 := fun k hk => by
      have h := minS_bn m e a.r a.F q1 q2 (a.r - k) 0 [] (fun t h => by cases h) (by simp)
      have h5 : (([] : List Nat).length + (a.r - k)) * (e + m) ≤ a.r * (e + m) := Nat.mul_le_mul_right _ (by simp)
      have h6 : (a.r - k) * m ≤ a.r * m := Nat.mul_le_mul_right _ (by omega)
      exact h.size _ (by omega)
    have HMn : Hid (∀ k, k ≤ a.r → ∀ W : World, Below w.heap.size w W → Calls Try.prog 71 #[.slice p a.r cp, .int .i64 0, .int .i64 ((a.r : Int) - (k : Int)), .slice none 0 0] W (RetZ (canon (minS a.r a.F (a.r - k) 0 [])) W)) := Lib.hid (fun k hk W hW => by
      rw [show ((a.r : Int) - (k : Int)) = ((a.r - k : Nat) : Int) from by omega]
      exact refMinors_any m e a.r a.F q1 (by omega) q2 q3 (a.r - k) 0 [] p none cp 0 (by omega) (fun t h => by cases h) (by simp) (fun _ => rfl) W (hM.below (Nat.le_refl _) hW) (.inl rfl))
    have HSg : Hid (∀ k, k ≤ a.r → ∀ W : World, Calls Try.prog 69 #[.int .i64 ((a.r : Int) - (k : Int)), .agg #[.bool (canon (minS a.r a.F (a.r - k) 0 [])).neg, .string (canon (minS a.r a.F (a.r - k) 0 [])).mag]] W (RetZ (canon (sgF (a.r - k) (minS a.r a.F (a.r - k) 0 []))) W)) := Lib.hid (fun k hk W => by
      rw [show ((a.r : Int) - (k : Int)) = ((a.r - k : Nat) : Int) from by omega]
      exact refSigned_any _ _ (Nat.le_trans (hbk k hk) (by decide)) W)
    rw [hs] at HS ⊢
    clear hs h1 h2 h3 hM q1 q2 q3 hok hfa ha hbk
    obtain ⟨G, hG⟩ : ∃ G : Nat → Int, G = fun k => sgF (a.r - k) (minS a.r a.F (a.r - k) 0 []) := ⟨_, rfl⟩
    have HG : Hid (∀ k, G k = sgF (a.r - k) (minS a.r a.F (a.r - k) 0 [])) := Lib.hid (fun k => by rw [hG])
    rw [← hG]
    clear hG
    generalize a.F = F at *
    generalize a.r = r at *
    go_enter Try.func23, Try.ntmps23
    go_wp2_with fail
    refine HS.out.mono ?_
    rintro e Y ⟨rfl, hb⟩
    dsimp only
    have HY : Hid (∀ W, Below Y.heap.size Y W → Below w.heap.size w W) := Lib.hid (fun W hW => hb.trans (hW.mono hb.size))
    have Hz : Hid (OwnZ (Y.alloc (.cells #[] 27)) Y.heap.size (.slice (some ⟨Y.heap.size, 0, none⟩) 0 0) (zsF G 0)) := Lib.hid (OwnZ.made Y (Nat.le_refl _))
    have Hb : Hid (Below Y.heap.size Y (Y.alloc (.cells #[] 27))) := Lib.hid ((Below.refl _ _).alloc (Nat.le_refl _) _)
    clear hb HS
    go_wp2_with fail
    go_loopw [5, 6] (fun v kv wr => ∃ k : Nat, k ≤ r + 1 ∧ kv = .int .i64 (k : Nat) ∧ Hid (OwnZ wr Y.heap.size v (zsF G k)) ∧ Hid (Below Y.heap.size Y wr)) (fun _ kv _ => r + 1 - (intOf kv).toNat)
    case atStart => exact ⟨0, by omega, by go_num, Hz, Hb⟩
    case round =>
      clear Hz Hb
      obtain ⟨k, hk, rfl, HZ, Hb⟩ := hrel
      by_cases hlt : k ≤ r
      · have k1 : (k : Int) ≤ (r : Int) := by omega
        have HM1 := Lib.hid (HMn.out k hlt)
        have HS1 := Lib.hid (HSg.out k hlt)
        have hnx : zsF G (k + 1) = zsF G k ++ [sgF (r - k) (minS r F (r - k) 0 [])] := by rw [zsF_succ, HG.out k]
        obtain ⟨s, hs⟩ : ∃ s, minS r F (r - k) 0 [] = s := ⟨_, rfl⟩
        rw [hs] at HM1 HS1 hnx
        obtain ⟨t, ht⟩ : ∃ t, sgF (r - k) s = t := ⟨_, rfl⟩
        rw [ht] at HS1 hnx
        have Hnx := Lib.hid hnx
        clear hs ht hnx
        go_wp2_with fail
        refine (HM1.out _ (HY.out _ Hb.out)).mono ?_
        rintro e w3 ⟨rfl, hb3⟩
        dsimp only
        have HZ3 := Lib.hid (HZ.out.below (Nat.le_refl _) hb3)
        have hb3 := Hb.out.trans (hb3.mono Hb.out.size)
        have Hb3 := Lib.hid hb3
        clear hb3 HM1 HZ Hb
        go_wp2_with fail
        refine (HS1.out _).mono ?_
        rintro e w4 ⟨rfl, hb4⟩
        dsimp only
        have HZ4 := Lib.hid (HZ3.out.below (Nat.le_refl _) hb4)
        have hb4 := Hb3.out.trans (hb4.mono Hb3.out.size)
        have hys := hb4.size
        have Hb4 := Lib.hid hb4
        clear hb4 HS1 HZ3 Hb3
        go_wp2_with (at_builtin; refine wpList_append_zs rfl _ _ rfl Y.heap.size _ (zsF G k) rfl (HZ4.out.alloc _) w4.heap.size 0 1 1 [t] rfl rfl ?_ ?_ ?_ ?_)
        · intro j hj
          have : j = 0 := by simpa using hj
          subst this
          simp
        · rw [zsF_len]; simp; omega
        · simp; omega
        · intro v9 w9 hown9 hgr9
          have hb9 : Below Y.heap.size Y w9 := below_append (Hb4.out.alloc hys _) (HZ4.out.alloc _) hgr9 (by simp; omega) (Nat.le_refl _)
          rw [← Hnx.out] at hown9
          have HZ9 := Lib.hid hown9
          have HY9 := Lib.hid hb9
          clear hown9 hgr9 hb9 HZ4 Hb4 hys
          go_wp2
          go_roundw
          case rel => exact ⟨k + 1, by omega, by go_num, HZ9, HY9⟩
          case measure => simp [intOf]; omega
      · have k1 : ¬ (k : Int) ≤ (r : Int) := by omega
        have hke : k = r + 1 := by omega
        have hz9 := HZ.out
        rw [hke, ← List.nil_append (zsF _ _)] at hz9
        obtain ⟨gl, cl, rfl, hgl, hrow⟩ := hz9.mkRow (by omega)
        have Hrow := Lib.hid hrow
        clear hz9 hrow hke HZ
        go_wp2
        refine bodyPost_ret (v := .tuple #[.slice (some ⟨gl, 0, none⟩) (r + 1) cl, .int .i64 0]) (by simp [results, Try.results23, go_sem]) rfl ?_
        exact ⟨HY.out _ Hb.out, .inl ⟨rfl, _, _, rfl, Hrow.out.z.row⟩⟩
  · clear hok hfa ha
    generalize (fun k => sgF (a.r - k) (minS a.r a.F (a.r - k) 0 [])) = G at *
    generalize a.sq = v at *
    generalize a.r = r at *
    have e1 : (v != 0) = true := by rw [bne_iff_ne]; exact hs
    have Hs := Lib.hid hs
    clear hs
    go_enter Try.func23, Try.ntmps23
    go_wp2_with fail
    refine HS.out.mono ?_
    rintro e w2 ⟨rfl, hb⟩
    dsimp only
    have Hb := Lib.hid hb
    clear hb HS
    go_wp2
    refine bodyPost_ret (v := .tuple #[.slice none 0 0, .int .i64 v]) (by simp [results, Try.results23, go_sem]) rfl ?_
    exact ⟨Hb.out, .inr ⟨Hs.out, rfl⟩⟩
set_option maxRecDepth 100000 in
set_option maxHeartbeats 8000000 in
theorem refAdj_m (a : GM) (p : Option Addr) (cp : Nat) (hfa : a.Fit) (hok : a.sq = 0 → DetQ a.r a.F) (w : World) (ha : a.At w p) :
    Calls Try.prog 21 #[.slice p a.r cp] w (RetMatE a.sq a.r a.r (adjL a.r a.F) w) := by
  have HS := Lib.hid (refSquare_any a p cp hfa w ha)
  by_cases hs : a.sq = 0
  · obtain ⟨h1, h2, h3, h4⟩ := GM.sq_zero hs
    have hM := GM.mat ha h1
    rw [← h2] at hM
    obtain ⟨e, m, q1, q2, q3⟩ := hok hs
    obtain ⟨N, hN⟩ : ∃ N, a.r = N + 1 := ⟨a.r - 1, by omega⟩
    have hq3 : N * (e + m) ≤ a.r * (e + m) := Nat.mul_le_mul_right _ (by omega)
    have hwo : ∀ i k, BnM N N (woF a.F i k) e := fun i k => woF_bn (by rw [← hN]; exact q2) i k
    have HW : Hid (∀ i k, i < a.r → k < a.r → ∀ W : World, Below w.heap.size w W → Calls Try.prog 70 #[.slice p a.r cp, .int .i64 (i : Int), .int .i64 (k : Int)] W (RetMat N N (woF a.F i k) W)) := Lib.hid (fun i k hi hk W hW => refWithout_any a.r N p cp a.F i k hN hi hk (by omega) W (hM.below (Nat.le_refl _) hW))
    have HD : Hid (∀ (i k : Nat) (W : World) (q : Option Addr) (c : Nat), MatF W q N N (woF a.F i k) → Calls Try.prog 65 #[.slice q N c] W (RetZ (canon (detL N (woF a.F i k))) W)) := Lib.hid (fun i k W q c hM => refDet_any m e N q c (woF a.F i k) (by omega) (by omega) (by omega) (hwo i k) W hM)
    have HSg : Hid (∀ (i k : Nat) (W : World), Calls Try.prog 69 #[.int .i64 ((i : Int) + (k : Int)), .agg #[.bool (canon (detL N (woF a.F i k))).neg, .string (canon (detL N (woF a.F i k))).mag]] W (RetZ (canon (adjL a.r a.F k i)) W)) := Lib.hid (fun i k W => by
      have h : adjL a.r a.F k i = sgF (i + k) (detL N (woF a.F i k)) := by
        unfold adjL
        rw [hN, Nat.add_sub_cancel, Nat.add_comm k i]
      rw [h, show ((i : Int) + (k : Int)) = ((i + k : Nat) : Int) from by push_cast; rfl]
      exact refSigned_any _ _ (Nat.le_trans ((detL_bn m e N (woF a.F i k) (by omega) (hwo i k)).size 10000000 (by omega)) (by decide)) W)
    have HZ := Lib.hid (fun W => refZeros_any a.r a.r h3 (by omega) (by omega) W)
    obtain ⟨G, hG⟩ : ∃ G : Nat → Nat → Int, G = fun i k => adjL a.r a.F k i := ⟨_, rfl⟩
    have HGe : Hid (∀ i k, adjL a.r a.F k i = G i k) := Lib.hid (fun i k => by rw [hG])
    rw [hs] at HS ⊢
    clear hs h1 h2 hM q1 q2 q3 hok hfa ha hN hq3 hwo hG
    generalize adjL a.r a.F = AD at *
    generalize a.F = F at *
    generalize a.r = r at *
    go_enter Try.func21, Try.ntmps21
    go_wp2_with fail
    refine HS.out.mono ?_
    rintro e w2 ⟨rfl, hb2⟩
    dsimp only
    have Hb := Lib.hid hb2
    clear hb2 HS
    go_wp2_with fail
    refine (HZ.out _).mono ?_
    rintro e w1 ⟨g, cap, A, rfl, hG, hb⟩
    clear HZ
    have HG := Lib.hid (hG.congr (G := trT G 0 0) (fun i k _ _ => by simp [trT]))
    have Hb1 := Lib.hid hb
    clear hG hb
    dsimp only
    go_wp2_with fail
    have HGB : Hid (Grid w1 w.heap.size g r r A (trT G 0 0)) := Lib.hid ⟨Nat.le_trans Hb.out.size HG.out.low, HG.out.lt, HG.out.hdr, fun i hi => ⟨(HG.out.row i hi).1, Nat.le_trans Hb.out.size (HG.out.row i hi).2⟩, HG.out.ne, HG.out.inj⟩
    have HBB0 : Hid (Below w.heap.size w w1) := Lib.hid (Hb.out.trans (Hb1.out.mono Hb.out.size))
    clear HG Hb1 Hb
    go_loopw [6] (fun iv wr => ∃ i : Nat, i ≤ r ∧ iv = .int .i64 (i : Nat) ∧ Hid (Grid wr w.heap.size g r r A (trT G i 0)) ∧ Hid (Below w.heap.size w wr)) (fun iv _ => r - (intOf iv).toNat)
    case atStart => exact ⟨0, by omega, by go_num, HGB, HBB0⟩
    case round =>
      clear HGB HBB0
      obtain ⟨i, hi, rfl, HG, HB⟩ := hrel
      by_cases hlt : i < r
      · have i1 : (i : Int) < (r : Int) := by omega
        go_wp2
        go_loopw [7] (fun kv wr => ∃ k : Nat, k ≤ r ∧ kv = .int .i64 (k : Nat) ∧ Hid (Grid wr w.heap.size g r r A (trT G i k)) ∧ Hid (Below w.heap.size w wr)) (fun kv _ => r - (intOf kv).toNat)
        case atStart => exact ⟨0, by omega, by go_num, HG, HB⟩
        case round =>
          clear HG HB
          obtain ⟨k, hk, rfl, HG, HB⟩ := hrel
          by_cases hkt : k < r
          · have k1 : (k : Int) < (r : Int) := by omega
            have wik : IntKind.i64.wrap ((i : Int) + (k : Int)) = (i : Int) + (k : Int) := IntWalk.i64_in _ (by omega)
            have HW1 := Lib.hid (HW.out i k hlt hkt)
            have HD1 := Lib.hid (HD.out i k)
            have HS1 := Lib.hid (HSg.out i k)
            rw [HGe.out i k] at HS1
            go_upto_region 11 with (fail)
            obtain ⟨W0, hW0⟩ : ∃ W, wr = W := ⟨_, rfl⟩
            rw [hW0] at HG HB ⊢
            clear hW0
            obtain ⟨SS, hSe⟩ : ∃ SS : World → Prop, SS = fun W => W.cell? ⟨g, k, none⟩ = some (.slice (some ⟨A k, 0, none⟩) r r) := ⟨_, rfl⟩
            have HS0 : Hid (∀ W T, Grid W w.heap.size g r r A T → SS W) := Lib.hid (fun W T hT => by
              rw [hSe]
              exact hT.hdr k hkt)
            have HBB : Hid (∀ W, Below W0.heap.size W0 W → Below w.heap.size w W) := Lib.hid (fun W hW => HB.out.trans (hW.mono HB.out.size))
            have HS : Hid (∀ W, Below W0.heap.size W0 W → SS W) := Lib.hid (fun W hW => HS0.out W _ (HG.out.call hW))
            have hd : Below W0.heap.size W0 W0.drew := (Below.refl W0.heap.size W0).drew
            refine wp_region_held_drew (S := SS) (by kernel_rfl) (HS.out _ hd) (fun hSS => ?_)
            refine wpAnyH_take (i := 0) (v := ?_) rfl (by kernel_rfl) (by kernel_rfl) (by kernel_rfl) (fun _ _ _ h => h) (Or.inl ⟨by rfl, ?_⟩) hSS ?_
            rotate_left 1
            next => intro w hSw; rw [hSe] at hSw; have s1 := hSw; go_simp; try with_reducible rfl
            refine wpAnyH_take (i := 1) (v := ?_) rfl (by kernel_rfl) (by kernel_rfl) (by kernel_rfl) (fun _ _ _ h => h) (Or.inl ⟨by rfl, ?_⟩) hSS ?_
            rotate_left 1
            next => intro w hSw; rw [hSe] at hSw; have s1 := hSw; go_simp; try with_reducible rfl
            refine wpAnyH_take (i := 2) (v := ?_) rfl (by kernel_rfl) (by kernel_rfl) (by kernel_rfl) (fun _ _ _ h => h) (Or.inl ⟨by rfl, ?_⟩) hSS ?_
            rotate_left 1
            next => intro w hSw; rw [hSe] at hSw; have s1 := hSw; go_simp; try with_reducible rfl
            refine wpAnyH_take (i := 3) (v := ?_) rfl (by kernel_rfl) (by kernel_rfl) (by kernel_rfl) (fun _ _ _ h => h) (Or.inl ⟨by rfl, ?_⟩) hSS ?_
            rotate_left 1
            next => intro w hSw; rw [hSe] at hSw; have s1 := hSw; go_simp; try with_reducible rfl
            refine wpAnyH_take (i := 4) (v := ?_) rfl (by kernel_rfl) (by kernel_rfl) (by kernel_rfl) (fun _ _ _ h => h) (Or.inl ⟨by rfl, ?_⟩) hSS ?_
            rotate_left 1
            next => intro w hSw; rw [hSe] at hSw; have s1 := hSw; go_simp; try with_reducible rfl
            refine wpAnyH_take (i := 5) (v := ?_) rfl (by kernel_rfl) (by kernel_rfl) (by kernel_rfl) (fun _ _ _ h => h) (Or.inl ⟨by rfl, ?_⟩) hSS ?_
            rotate_left 1
            next => intro w hSw; rw [hSe] at hSw; have s1 := hSw; go_simp; try with_reducible rfl
            refine wpAnyH_take (i := 6) (v := ?_) rfl (by kernel_rfl) (by kernel_rfl) (by kernel_rfl) (fun _ _ _ h => h) (Or.inl ⟨by rfl, ?_⟩) hSS ?_
            rotate_left 1
            next => intro w hSw; rw [hSe] at hSw; have s1 := hSw; go_simp; try with_reducible rfl
            refine wpAnyH_take (i := 7) (v := ?_) rfl (by kernel_rfl) (by kernel_rfl) (by kernel_rfl) (fun _ _ _ h => h) (Or.inl ⟨by rfl, ?_⟩) hSS ?_
            rotate_left 1
            next => intro w hSw; rw [hSe] at hSw; have s1 := hSw; go_simp; try with_reducible rfl
            refine wpAnyH_take (i := 8) (v := ?_) rfl (by kernel_rfl) (by kernel_rfl) (by kernel_rfl) (fun _ _ _ h => h) (Or.inl ⟨by rfl, ?_⟩) hSS ?_
            rotate_left 1
            next => intro w hSw; rw [hSe] at hSw; have s1 := hSw; go_simp; try with_reducible rfl
            refine wpAnyH_take (i := 9) (v := ?_) rfl (by kernel_rfl) (by kernel_rfl) (by kernel_rfl) (fun _ _ _ h => h) (Or.inl ⟨by rfl, ?_⟩) hSS ?_
            rotate_left 1
            next => intro w hSw; rw [hSe] at hSw; have s1 := hSw; go_simp; try with_reducible rfl
            refine wpAnyH_take (i := 10) (v := ?_) rfl (by kernel_rfl) (by kernel_rfl) (by kernel_rfl) (fun _ _ _ h => h) (Or.inl ⟨by rfl, ?_⟩) hSS ?_
            rotate_left 1
            next => intro w hSw; rw [hSe] at hSw; have s1 := hSw; go_simp; try with_reducible rfl
            try simp only [Act.put, List.getElem_toArray, List.getElem_cons_zero, List.getElem_cons_succ, List.setIfInBounds_toArray, List.set_cons_zero, List.set_cons_succ]
            refine wpAnyH_ready (rs := [11]) (by kernel_rfl) (by simp) ?_
            refine AllReadyH.cons rfl (fun K hK => ?_) AllReadyH.nil
            go_simp
            refine (HW1.out _ (HBB.out _ hd)).mono ?_
            rintro e W1 ⟨q1, c1, rfl, hM1, hbc⟩
            have hW1 : Below W0.heap.size W0 W1 := hd.trans (hbc.mono hd.size)
            dsimp only
            refine hK.out _ _ (HS.out _ hW1) (fun _ => ?_)
            clear hK K hbc
            try simp only [Act.put, List.getElem_toArray, List.getElem_cons_zero, List.getElem_cons_succ, List.setIfInBounds_toArray, List.set_cons_zero, List.set_cons_succ]
            refine wpAnyH_ready (rs := [12]) (by kernel_rfl) (by simp) ?_
            refine AllReadyH.cons rfl (fun K hK => ?_) AllReadyH.nil
            go_simp
            refine (HD1.out _ q1 c1 hM1).mono ?_
            rintro e W2 ⟨rfl, hbc⟩
            have hW2 : Below W0.heap.size W0 W2 := hW1.trans (hbc.mono hW1.size)
            dsimp only
            refine hK.out _ _ (HS.out _ hW2) (fun _ => ?_)
            clear hK K hbc
            try simp only [Act.put, List.getElem_toArray, List.getElem_cons_zero, List.getElem_cons_succ, List.setIfInBounds_toArray, List.set_cons_zero, List.set_cons_succ]
            refine wpAnyH_ready (rs := [13]) (by kernel_rfl) (by simp) ?_
            refine AllReadyH.cons rfl (fun K hK => ?_) AllReadyH.nil
            go_simp
            refine (HS1.out _).mono ?_
            rintro e W3 ⟨rfl, hbc⟩
            have hW3 : Below W0.heap.size W0 W3 := hW2.trans (hbc.mono hW2.size)
            dsimp only
            refine hK.out _ _ (HS.out _ hW3) (fun _ => ?_)
            clear hK K hbc
            refine wpAnyH_take (i := 14) (v := ?_) rfl (by kernel_rfl) (by kernel_rfl) (by kernel_rfl) (fun _ _ _ h => h) (Or.inl ⟨by rfl, ?_⟩) (HS.out _ hW3) ?_
            rotate_left 1
            next => intro w hSw; rw [hSe] at hSw; have s1 := hSw; go_simp; try with_reducible rfl
            have hG1 := HG.out.call hW3
            obtain ⟨⟨z1, z2⟩, z3, z4⟩ := (hG1.row k hkt).1.z.2 i hlt
            have hg2 := hG1.set hkt i (G i k)
            have hb2 : Below w.heap.size w ((W3.setCell ⟨A k, i * 2, none⟩ (.bool (canon (G i k)).neg)).setCell ⟨A k, i * 2 + 1, none⟩ (.string (canon (G i k)).mag)) := ((HBB.out _ hW3).setCell (HG.out.row k hkt).2 _).setCell (HG.out.row k hkt).2 _
            try simp only [Act.put, List.getElem_toArray, List.getElem_cons_zero, List.getElem_cons_succ, List.setIfInBounds_toArray, List.set_cons_zero, List.set_cons_succ]
            refine wpAnyH_ready (rs := [15]) (by kernel_rfl) (by simp) ?_
            refine AllReadyH.cons rfl (fun K hK => ?_) AllReadyH.nil
            go_simp
            refine hK.out _ _ (HS0.out _ _ hg2) (fun _ => ?_)
            clear hK K
            refine wpAnyH_done (by kernel_rfl) ?_ _
            have HG2 := Lib.hid (hg2.congr (G := trT G i (k + 1)) fun a b ha hb => trT_step G i k a b)
            have HB2 := Lib.hid hb2
            clear hg2 z1 z2 z3 z4 hG1 hW1 hW2 hW3 hd HS hSe hb2 HS0 HBB hSS
            go_wp2
            go_roundw
            case rel => exact ⟨k + 1, by omega, by go_num, HG2, HB2⟩
            case measure => simp [intOf]; omega
          · have k1 : ¬ (k : Int) < (r : Int) := by omega
            have hke : k = r := by omega
            rw [hke] at HG
            have HG2 := Lib.hid (HG.out.congr (G := trT G (i + 1) 0) fun a b ha hb => trT_row r G i a b ha)
            clear hke HG
            go_wp2
            go_roundw
            case rel => exact ⟨i + 1, by omega, by go_num, HG2, HB⟩
            case measure => simp [intOf]; omega
      · have i1 : ¬ (i : Int) < (r : Int) := by omega
        have hie : i = r := by omega
        rw [hie] at HG
        clear hie
        go_wp2
        refine bodyPost_ret (v := .tuple #[.slice (some ⟨g, 0, none⟩) r cap, .int .i64 0]) (by simp [results, Try.results21, go_sem]) rfl ?_
        exact ⟨HB.out, .inl ⟨rfl, _, _, rfl, HG.out.mat.congr fun a b ha hb => by rw [HGe.out b a]; simp [trT, hb]⟩⟩
  · clear hok hfa ha
    generalize adjL a.r a.F = AD at *
    generalize a.sq = v at *
    generalize a.r = r at *
    have e1 : (v != 0) = true := by rw [bne_iff_ne]; exact hs
    have Hs := Lib.hid hs
    clear hs
    go_enter Try.func21, Try.ntmps21
    go_wp2_with fail
    refine HS.out.mono ?_
    rintro e w2 ⟨rfl, hb⟩
    dsimp only
    have Hb := Lib.hid hb
    clear hb HS
    go_wp2
    refine bodyPost_ret (v := .tuple #[.slice none 0 0, .int .i64 v]) (by simp [results, Try.results21, go_sem]) rfl ?_
    exact ⟨Hb.out, .inr ⟨Hs.out, rfl⟩⟩
end Go.Proofs.Ytlkoiekdafaapaa
