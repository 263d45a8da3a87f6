/- The walks of matrix.Adjugate and Transpose. -/
import Derived.Test.YtlkoiekdafaapaaWchr
namespace Go.Proofs.Ytlkoiekdafaapaa
open Go.RowKit Go.Shelf

set_option maxRecDepth 100000 in
set_option maxHeartbeats 4000000 in
theorem adj1_any (r c i k g : Nat) (p : Option Addr) (cp : Nat) (F : Nat → Nat → Int) (hi : i < r) (hk : k < c) (w : World) (ha : w.cell? ⟨g, 0, none⟩ = some (.slice p r cp)) (hF : MatF w p r c F) (hs : Small r c F) :
    Calls Try.prog 67 #[.int .i64 (i : Int), .int .i64 (k : Int), .pointer (some ⟨g, 0, none⟩)] w (RetZ (canon (-F i k)) w) := by
  obtain ⟨fb, fo, rfl, _, H, hH, hR⟩ := hF.cells hi
  have a2 := hH i hi
  obtain ⟨ab, ao, hpe, _, hac⟩ := (hR i hi).cells hk
  rw [hpe] at a2
  obtain ⟨a3, a4⟩ := hac k hk
  have HN := Lib.hid (negc_any (F i k) (hs i k hi hk))
  have i0 : (0 : Int) ≤ (i : Int) := by omega
  have i1 : (i : Int) < (r : Int) := by omega
  have k0 : (0 : Int) ≤ (k : Int) := by omega
  have k1 : (k : Int) < (c : Int) := by omega
  have l1 : g < w.heap.size := World.block_lt_of_cell? w _ ha
  have l2 : fb < w.heap.size := World.block_lt_of_cell? w _ a2
  have l3 : ab < w.heap.size := World.block_lt_of_cell? w _ a3
  generalize canon (F i k) = X at *
  obtain ⟨Z, hZ⟩ : ∃ Z, canon (-F i k) = Z := ⟨_, rfl⟩
  rw [hZ] at HN ⊢
  clear hZ hac hpe hH hR hF hs
  go_enter Try.func67, Try.ntmps67
  go_wp2_with fail
  have hA0 := BoxAt.new w (.bool false) (.string ⟨#[]⟩) 27
  have hb0 := (Below.refl w.heap.size w).alloc (Nat.le_refl _) (.cells #[.bool false, .string ⟨#[]⟩] 27)
  refine (HN.out _).mono ?_
  rintro e w2 ⟨rfl, hb2⟩
  dsimp only
  have hA2 := hA0.below hb2 hA0.2.2.2.2
  have hb3 := hb0.trans (hb2.mono (by simp))
  clear hb2 hb0 hA0
  obtain ⟨c0, c1, f0, f1, hl⟩ := hA2
  go_wp2
  refine bodyPost_ret (v := .agg #[.bool Z.neg, .string Z.mag]) (by simp [results, Try.results67, go_sem, c0, c1]) rfl ⟨rfl, ?_⟩
  exact (hb3.setCell (by simp) _).setCell (by simp) _

set_option maxRecDepth 100000 in
set_option maxHeartbeats 4000000 in
theorem tr1_any (r c i k g : Nat) (p : Option Addr) (cp : Nat) (F : Nat → Nat → Int) (hi : i < c) (hk : k < r) (w : World) (ha : w.cell? ⟨g, 0, none⟩ = some (.slice p r cp)) (hF : MatF w p r c F) :
    Calls Try.prog 75 #[.int .i64 (i : Int), .int .i64 (k : Int), .pointer (some ⟨g, 0, none⟩)] w (RetZ (canon (F k i)) w) := by
  obtain ⟨fb, fo, rfl, _, H, hH, hR⟩ := hF.cells hk
  have a2 := hH k hk
  obtain ⟨ab, ao, hpe, _, hac⟩ := (hR k hk).cells hi
  rw [hpe] at a2
  obtain ⟨a3, a4⟩ := hac i hi
  have i0 : (0 : Int) ≤ (i : Int) := by omega
  have i1 : (i : Int) < (c : Int) := by omega
  have k0 : (0 : Int) ≤ (k : Int) := by omega
  have k1 : (k : Int) < (r : Int) := by omega
  have l1 : g < w.heap.size := World.block_lt_of_cell? w _ ha
  have l2 : fb < w.heap.size := World.block_lt_of_cell? w _ a2
  have l3 : ab < w.heap.size := World.block_lt_of_cell? w _ a3
  have n1 : ¬ w.heap.size = g := by omega
  have n2 : ¬ w.heap.size = fb := by omega
  have n3 : ¬ w.heap.size = ab := by omega
  generalize canon (F k i) = X at *
  clear hac hpe hH hR hF
  go_enter Try.func75, Try.ntmps75
  go_wp2
  refine bodyPost_ret (v := .agg #[.bool X.neg, .string X.mag]) (by simp [results, Try.results75, go_sem]) rfl ⟨rfl, ?_⟩
  first
    | exact (Below.refl _ _).alloc (Nat.le_refl _) _
    | exact (((Below.refl _ _).alloc (Nat.le_refl _) _).setCell (Nat.le_refl _) _).setCell (Nat.le_refl _) _

/-- The adjugate, from the last of the matrices. -/
def adjC (n : Nat) (A : Nat → Nat → Int) (i k : Nat) : Int := if n % 2 = 0 then -chrM n A (n - 1) i k else chrM n A (n - 1) i k
set_option maxRecDepth 100000 in
set_option maxHeartbeats 4000000 in
theorem adj_any (m : GM) (p : Option Addr) (cp : Nat) (hf : m.Fit) (hok : m.sq = 0 → ChrOk m.r m.F) (w : World) (hm : m.At w p) :
    Calls Try.prog 20 #[.slice p m.r cp] w (RetMatE m.sq m.r m.r (adjC m.r m.F) w) := by
  have HS := Lib.hid (square_any m p cp hf w hm)
  by_cases hs : m.sq = 0
  · obtain ⟨h1, h2, h3, h4⟩ := GM.sq_zero hs
    have hM := GM.mat hm h1
    rw [← h2] at hM
    have HC := Lib.hid (fun (W : World) (hW : Below w.heap.size w W) => chr_any m.r p cp m.F h3 (by omega) W (hM.below (Nat.le_refl _) hW) (hok hs))
    have hsm : Small m.r m.r (chrM m.r m.F (m.r - 1)) := (hok hs).m (m.r - 1) (by omega)
    rw [hs] at HS ⊢
    have HD : Hid (∀ i k, adjC m.r m.F i k = if m.r % 2 = 0 then -chrM m.r m.F (m.r - 1) i k else chrM m.r m.F (m.r - 1) i k) := Lib.hid (fun _ _ => rfl)
    clear hs h1 h2 hM hok hf hm
    generalize adjC m.r m.F = D at *
    obtain ⟨M, hMM⟩ : ∃ M, chrM m.r m.F (m.r - 1) = M := ⟨_, rfl⟩
    rw [hMM] at HD hsm
    have HM := Lib.hid hMM
    clear hMM
    have HT := Lib.hid (fun (W : World) (g q : Nat) (hg : W.cell? ⟨g, 0, none⟩ = some (.slice (some ⟨q, 0, none⟩) m.r m.r)) (hq : MatF W (some ⟨q, 0, none⟩) m.r m.r M) => table_any m.r m.r (by omega) (by omega) 67 #[.pointer (some ⟨g, 0, none⟩)] (fun i k => -M i k) W (enters_of Try.func67 (by kernel_rfl) rfl) (fun i k V hi hk hV =>
      adj1_any m.r m.r i k g (some ⟨q, 0, none⟩) m.r M hi hk V (cell_below hV hg) (hq.below (Nat.le_refl _) hV) hsm))
    clear hsm
    by_cases hp : m.r % 2 = 0
    · have ep : ((m.r : Int) % 2 == 0) = true := by rw [beq_iff_eq]; omega
      have HD : Hid (∀ i k, D i k = -M i k) := Lib.hid (fun i k => by rw [HD.out i k, if_pos hp])
      clear hp
      go_enter Try.func20, Try.ntmps20
      go_wp2_with fail
      refine HS.out.mono ?_
      rintro e w2 ⟨rfl, hb⟩
      dsimp only
      have Hb := Lib.hid hb
      clear hb HS
      go_wp2_with fail
      refine (HC.out w2 Hb.out).mono ?_
      rintro e w3 ⟨g, q, rfl, _, hown, hb3⟩
      dsimp only
      rw [HM.out] at hown
      have Hb3 := Lib.hid (Hb.out.trans (hb3.mono Hb.out.size))
      have Ho := Lib.hid hown
      clear hb3 HC hown
      go_wp2_with fail
      have hbx : Boxed (w3.alloc (.cells #[.slice (some ⟨q, 0, none⟩) m.r m.r] 22)) w3.heap.size 22 (.slice (some ⟨q, 0, none⟩) m.r m.r) := Boxed.new w3 22 _
      have hb4 : Below w3.heap.size w3 (w3.alloc (.cells #[.slice (some ⟨q, 0, none⟩) m.r m.r] 22)) := (Below.refl _ _).alloc (Nat.le_refl _) _
      refine (HT.out _ w3.heap.size q hbx.cell ((Ho.out.call hb4).mat)).mono ?_
      rintro e w4 ⟨g2, rfl, hown2, hb5⟩
      dsimp only
      have c0 := (hb5.cell (p := ⟨w3.heap.size, 0, none⟩) (by simp)).trans hbx.cell
      have f0 := (hb5.frozen (p := ⟨w3.heap.size, 0, none⟩) (by simp)).trans hbx.frozen
      have Hw4 := Lib.hid (Hb3.out.trans ((hb4.trans (hb5.mono (by simp))).mono Hb3.out.size))
      have hl : w.heap.size ≤ w3.heap.size := Hb3.out.size
      have Hown2 := Lib.hid (hown2.other ⟨w3.heap.size, 0, none⟩ (.slice (some ⟨g2, 0, none⟩) m.r m.r) (by simp))
      clear hbx hb4 hb5 hown2 HT
      go_wp2
      refine bodyPost_ret (v := .tuple #[.slice (some ⟨g2, 0, none⟩) m.r m.r, .int .i64 0]) (by simp [results, Try.results20, go_sem]) rfl ?_
      exact ⟨Hw4.out.setCell hl _, .inl ⟨rfl, _, _, rfl, Hown2.out.mat.congr fun i k _ _ => (HD.out i k).symm⟩⟩
    · have ep : ((m.r : Int) % 2 == 0) = false := by rw [beq_eq_false_iff_ne]; omega
      have HD : Hid (∀ i k, D i k = M i k) := Lib.hid (fun i k => by rw [HD.out i k, if_neg hp])
      clear hp HT
      go_enter Try.func20, Try.ntmps20
      go_wp2_with fail
      refine HS.out.mono ?_
      rintro e w2 ⟨rfl, hb⟩
      dsimp only
      have Hb := Lib.hid hb
      clear hb HS
      go_wp2_with fail
      refine (HC.out w2 Hb.out).mono ?_
      rintro e w3 ⟨g, q, rfl, _, hown, hb3⟩
      dsimp only
      rw [HM.out] at hown
      have Hb3 := Lib.hid (Hb.out.trans (hb3.mono Hb.out.size))
      have Ho := Lib.hid hown
      clear hb3 HC hown
      go_wp2
      refine bodyPost_ret (v := .tuple #[.slice (some ⟨q, 0, none⟩) m.r m.r, .int .i64 0]) (by simp [results, Try.results20, go_sem]) rfl ?_
      have hb4 : Below w3.heap.size w3 (w3.alloc (.cells #[.slice (some ⟨q, 0, none⟩) m.r m.r] 22)) := (Below.refl _ _).alloc (Nat.le_refl _) _
      exact ⟨Hb3.out.trans (hb4.mono Hb3.out.size), .inl ⟨rfl, _, _, rfl, (Ho.out.call hb4).mat.congr fun i k _ _ => (HD.out i k).symm⟩⟩
  · clear hok hf hm
    generalize m.sq = v at *
    generalize m.F = F at *
    generalize m.r = r at *
    have e1 : (v != 0) = true := by rw [bne_iff_ne]; exact hs
    have Hs := Lib.hid hs
    clear hs
    go_enter Try.func20, Try.ntmps20
    go_wp2_with fail
    refine HS.out.mono ?_
    rintro e w2 ⟨rfl, hb⟩
    dsimp only
    have Hb := Lib.hid hb
    clear hb HS
    go_wp2
    refine bodyPost_ret (v := .tuple #[.slice none 0 0, .int .i64 v]) (by simp [results, Try.results20, go_sem]) rfl ?_
    exact ⟨Hb.out, .inr ⟨Hs.out, rfl⟩⟩

set_option maxRecDepth 100000 in
set_option maxHeartbeats 4000000 in
theorem identity_any (n : Int) (w : World) :
    Calls Try.prog 35 #[.int .i64 n] w (RetMatE (if n < 1 ∨ 32 < n then 2 else 0) n.toNat n.toNat (fun i k => if i = k then 1 else 0) w) := by
  by_cases h1 : n < 1
  · rw [if_pos (.inl h1)]
    go_enter Try.func35, Try.ntmps35
    go_wp2
    refine bodyPost_ret (v := .tuple #[.slice none 0 0, .int .i64 2]) (by simp [results, Try.results35, go_sem]) rfl ?_
    exact ⟨Below.refl _ _, .inr ⟨by decide, rfl⟩⟩
  by_cases h2 : 32 < n
  · rw [if_pos (.inr h2)]
    have h2' : n > 32 := h2
    go_enter Try.func35, Try.ntmps35
    go_wp2
    refine bodyPost_ret (v := .tuple #[.slice none 0 0, .int .i64 2]) (by simp [results, Try.results35, go_sem]) rfl ?_
    exact ⟨Below.refl _ _, .inr ⟨by decide, rfl⟩⟩
  rw [if_neg (by omega)]
  obtain ⟨N, rfl⟩ : ∃ N : Nat, n = N := ⟨n.toNat, by omega⟩
  have h2' : ¬ (N : Int) > 32 := h2
  have HO := Lib.hid (fun W => of_any 1 (by omega) (by omega) W)
  have HS := Lib.hid (fun W => scalar_any 1 N (by omega) W)
  rw [Int.toNat_natCast]
  go_enter Try.func35, Try.ntmps35
  go_wp2_with fail
  refine (HO.out _).mono ?_
  rintro e w2 ⟨rfl, hb2⟩
  dsimp only
  have Hb := Lib.hid hb2
  clear hb2 HO
  go_wp2_with fail
  refine (HS.out _).mono ?_
  rintro e w3 ⟨g, rfl, hown, hb3⟩
  dsimp only
  have Hb3 := Lib.hid (Hb.out.trans (hb3.mono Hb.out.size))
  have Ho := Lib.hid hown.mat
  clear hb3 hown HS
  go_wp2
  refine bodyPost_ret (v := .tuple #[.slice (some ⟨g, 0, none⟩) N N, .int .i64 0]) (by simp [results, Try.results35, go_sem]) rfl ?_
  exact ⟨Hb3.out, .inl ⟨rfl, _, _, rfl, Ho.out⟩⟩
end Go.Proofs.Ytlkoiekdafaapaa
