/- The walks of matrix.Characteristic and Det. The walks of matrix.Adjugate and Transpose. The walks of matrix.Mul and Add. The walk of matrix.Transpose. The walk of matrix.Apply. -/
import Derived.Test.YtlkoiekdafaapaaChkM
namespace Go.Proofs.Ytlkoiekdafaapaa
open Go.RowKit Go.Shelf

/-- A matrix and an error, or nil and an error. -/
def RetMatE (v : Int) (r c : Nat) (F : Nat → Nat → Int) (w : World) (e : Ending) (w' : World) : Prop :=
  Below w.heap.size w w' ∧ ((v = 0 ∧ ∃ q k, e = .returned (.tuple #[.slice q r k, .int .i64 0]) ∧ MatF w' q r c F) ∨ (v ≠ 0 ∧ e = .returned (.tuple #[.slice none 0 0, .int .i64 v])))
def RetRowE (v : Int) (n : Nat) (f : Nat → Int) (w : World) (e : Ending) (w' : World) : Prop :=
  Below w.heap.size w w' ∧ ((v = 0 ∧ ∃ q k, e = .returned (.tuple #[.slice q n k, .int .i64 0]) ∧ RowF w' q n f) ∨ (v ≠ 0 ∧ e = .returned (.tuple #[.slice none 0 0, .int .i64 v])))
def RetNumE (v : Int) (n : Int) (w : World) (e : Ending) (w' : World) : Prop :=
  Below w.heap.size w w' ∧ ((v = 0 ∧ e = .returned (.tuple #[.agg #[.bool (canon n).neg, .string (canon n).mag], .int .i64 0])) ∨ (v ≠ 0 ∧ e = .returned (.tuple #[.agg #[.bool false, .string ⟨#[]⟩], .int .i64 v])))
theorem GM.sq_zero {m : GM} (h : m.sq = 0) : m.chk = 0 ∧ m.r = m.L 0 ∧ 0 < m.r ∧ m.r ≤ 32 := by
  unfold GM.sq at h
  split at h
  · cases h
  split at h
  · cases h
  · rename_i h1 h2
    have h1 : m.chk = 0 := by omega
    have := GM.chk_zero h1
    exact ⟨h1, by omega, this.1, this.2.2.1⟩

set_option maxRecDepth 100000 in
set_option maxHeartbeats 4000000 in
theorem charac_any (m : GM) (p : Option Addr) (cp : Nat) (hf : m.Fit) (hok : m.sq = 0 → ChrOk m.r m.F) (w : World) (hm : m.At w p) :
    Calls Try.prog 22 #[.slice p m.r cp] w (RetRowE m.sq (m.r + 1) (chrP m.r m.F m.r) w) := by
  have HS := Lib.hid (square_any m p cp hf w hm)
  by_cases hs : m.sq = 0
  · obtain ⟨h1, h2, h3, h4⟩ := GM.sq_zero hs
    have hM := GM.mat hm h1
    rw [← h2] at hM
    have HC := Lib.hid (fun (W : World) (hW : Below w.heap.size w W) => chr_any m.r p cp m.F h3 (by omega) W (hM.below (Nat.le_refl _) hW) (hok hs))
    rw [hs] at HS ⊢
    clear hs h1 h2 h4 hM hok hf hm
    go_enter Try.func22, Try.ntmps22
    go_wp2_with fail
    refine HS.out.mono ?_
    rintro e w2 ⟨rfl, hb⟩
    dsimp only
    have Hb := Lib.hid hb
    clear hb HS
    go_wp2_with fail
    refine (HC.out w2 Hb.out).mono ?_
    rintro e w3 ⟨g, q, rfl, hz, _, hb3⟩
    dsimp only
    have Hb3 := Lib.hid (Hb.out.trans (hb3.mono Hb.out.size))
    have Hz := Lib.hid hz
    clear hb3 hz HC
    go_wp2
    refine bodyPost_ret (v := .tuple #[.slice (some ⟨g, 0, none⟩) (m.r + 1) (m.r + 1), .int .i64 0]) (by simp [results, Try.results22, go_sem]) rfl ?_
    exact ⟨Hb3.out, .inl ⟨rfl, _, _, rfl, Hz.out.row⟩⟩
  · clear hok hf hm
    generalize m.sq = v at *
    generalize m.F = F at *
    generalize m.r = r at *
    have e1 : (v != 0) = true := by rw [bne_iff_ne]; exact hs
    have Hs := Lib.hid hs
    clear hs
    go_enter Try.func22, Try.ntmps22
    go_wp2_with fail
    refine HS.out.mono ?_
    rintro e w2 ⟨rfl, hb⟩
    dsimp only
    have Hb := Lib.hid hb
    clear hb HS
    go_wp2
    refine bodyPost_ret (v := .tuple #[.slice none 0 0, .int .i64 v]) (by simp [results, Try.results22, go_sem]) rfl ?_
    exact ⟨Hb.out, .inr ⟨Hs.out, rfl⟩⟩

/-- The determinant, from the characteristic polynomial. -/
def detC (n : Nat) (A : Nat → Nat → Int) : Int := if n % 2 = 1 then -chrP n A n 0 else chrP n A n 0
theorem chrP_zero {n : Nat} (h : 0 < n) (A : Nat → Nat → Int) : chrP n A n 0 = chrC n A (n - 1) := by
  unfold chrP
  rw [if_neg (by omega), if_pos (by omega)]
  rfl
set_option maxRecDepth 100000 in
set_option maxHeartbeats 4000000 in
theorem det_any (m : GM) (p : Option Addr) (cp : Nat) (hf : m.Fit) (hok : m.sq = 0 → ChrOk m.r m.F) (w : World) (hm : m.At w p) :
    Calls Try.prog 18 #[.slice p m.r cp] w (RetNumE m.sq (detC m.r m.F) w) := by
  have HS := Lib.hid (fun (W : World) (hW : Below w.heap.size w W) => square_any m p cp hf W (hm.below (Nat.le_refl _) hW))
  by_cases hs : m.sq = 0
  · obtain ⟨h1, h2, h3, h4⟩ := GM.sq_zero hs
    have hM := GM.mat hm h1
    rw [← h2] at hM
    have HC := Lib.hid (fun (W : World) (hW : Below w.heap.size w W) => chr_any m.r p cp m.F h3 (by omega) W (hM.below (Nat.le_refl _) hW) (hok hs))
    have HN := Lib.hid (negc_any (chrP m.r m.F m.r 0) (by rw [chrP_zero h3]; exact (hok hs).c (m.r - 1) (by omega)))
    rw [hs] at HS ⊢
    have hP0 : (0 : Int) < ((m.r + 1 : Nat) : Int) := by omega
    have HD : Hid (detC m.r m.F = if m.r % 2 = 1 then -chrP m.r m.F m.r 0 else chrP m.r m.F m.r 0) := Lib.hid rfl
    clear hs h1 h2 hM hok hf hm
    generalize hd : detC m.r m.F = D at *
    clear hd
    have hbx := BoxAt.new w (.bool false) (.string ⟨#[]⟩) 27
    have hb0 : Below w.heap.size w (w.alloc (.cells #[.bool false, .string ⟨#[]⟩] 27)) := (Below.refl _ w).alloc (Nat.le_refl _) _
    have hs0 : w.heap.size < (w.alloc (.cells #[.bool false, .string ⟨#[]⟩] 27)).heap.size := by simp
    have HS := Lib.hid (HS.out _ hb0)
    have Hb0 := Lib.hid hb0
    have Hbx := Lib.hid hbx
    clear hb0 hbx
    by_cases hp : m.r % 2 = 1
    · have ep : ((m.r : Int) % 2 == 1) = true := by rw [beq_iff_eq]; omega
      rw [if_pos hp] at HD
      generalize hG : chrP m.r m.F m.r = G at *
      go_enter Try.func18, Try.ntmps18
      go_wp2_with fail
      refine HS.out.mono ?_
      rintro e w2 ⟨rfl, hb⟩
      dsimp only
      have Hbx2 := Lib.hid (Hbx.out.below hb hs0)
      have Hb := Lib.hid (Hb0.out.trans (hb.mono Hb0.out.size))
      clear hb HS Hbx
      go_wp2_with fail
      refine (HC.out w2 Hb.out).mono ?_
      rintro e w3 ⟨g, q, rfl, hz, _, hb3⟩
      dsimp only
      rw [hG] at hz
      have hbx3 := Hbx2.out.below hb3 Hbx2.out.2.2.2.2
      have Hb3 := Lib.hid (Hb.out.trans (hb3.mono Hb.out.size))
      obtain ⟨⟨z0, z1⟩, _⟩ := hz.2 0 (by omega)
      simp only [Nat.zero_mul, Nat.zero_add] at z0 z1
      clear hz hb3 HC Hbx2 hG hp
      have Hbx3 := Lib.hid hbx3
      clear hbx3
      go_wp2_with fail
      refine (HN.out w3).mono ?_
      rintro e w4 ⟨rfl, hb4⟩
      dsimp only
      have hbx4 := Hbx3.out.below hb4 Hbx3.out.2.2.2.2
      have hb5 := Hb3.out.trans (hb4.mono Hb3.out.size)
      clear hb4
      obtain ⟨c0, c1, f0, f1, hl⟩ := hbx4
      generalize hXe : canon (-G 0) = X at *
      go_wp2
      refine bodyPost_ret (v := .tuple #[.agg #[.bool (X).neg, .string (X).mag], .int .i64 0]) (by simp [results, Try.results18, go_sem, c0, c1]) rfl ?_
      exact ⟨(hb5.setCell (by simp) _).setCell (by simp) _, .inl ⟨rfl, by rw [HD.out, hXe]⟩⟩
    · have ep : ((m.r : Int) % 2 == 1) = false := by rw [beq_eq_false_iff_ne]; omega
      rw [if_neg hp] at HD
      generalize hG : chrP m.r m.F m.r = G at *
      go_enter Try.func18, Try.ntmps18
      go_wp2_with fail
      refine HS.out.mono ?_
      rintro e w2 ⟨rfl, hb⟩
      dsimp only
      have Hbx2 := Lib.hid (Hbx.out.below hb hs0)
      have Hb := Lib.hid (Hb0.out.trans (hb.mono Hb0.out.size))
      clear hb HS Hbx
      go_wp2_with fail
      refine (HC.out w2 Hb.out).mono ?_
      rintro e w3 ⟨g, q, rfl, hz, _, hb3⟩
      dsimp only
      rw [hG] at hz
      have hbx3 := Hbx2.out.below hb3 Hbx2.out.2.2.2.2
      have Hb3 := Lib.hid (Hb.out.trans (hb3.mono Hb.out.size))
      obtain ⟨⟨z0, z1⟩, _⟩ := hz.2 0 (by omega)
      simp only [Nat.zero_mul, Nat.zero_add] at z0 z1
      clear hz hb3 HC Hbx2 hG hp
      obtain ⟨c0, c1, f0, f1, hl⟩ := hbx3
      go_wp2
      refine bodyPost_ret (v := .tuple #[.agg #[.bool (canon (G 0)).neg, .string (canon (G 0)).mag], .int .i64 0]) (by simp [results, Try.results18, go_sem, c0, c1]) rfl ?_
      exact ⟨(Hb3.out.setCell (by simp) _).setCell (by simp) _, .inl ⟨rfl, by rw [HD.out]⟩⟩
  · have e1 : (m.sq != 0) = true := by rw [bne_iff_ne]; exact hs
    clear hok hf hm
    generalize m.sq = v at *
    generalize m.F = F at *
    generalize m.r = r at *
    have Hs := Lib.hid hs
    clear hs
    have hbx := BoxAt.new w (.bool false) (.string ⟨#[]⟩) 27
    have hb0 : Below w.heap.size w (w.alloc (.cells #[.bool false, .string ⟨#[]⟩] 27)) := (Below.refl _ w).alloc (Nat.le_refl _) _
    have hs0 : w.heap.size < (w.alloc (.cells #[.bool false, .string ⟨#[]⟩] 27)).heap.size := by simp
    have HS := Lib.hid (HS.out _ hb0)
    have Hb0 := Lib.hid hb0
    have Hbx := Lib.hid hbx
    clear hb0 hbx
    go_enter Try.func18, Try.ntmps18
    go_wp2_with fail
    refine HS.out.mono ?_
    rintro e w2 ⟨rfl, hb⟩
    dsimp only
    have hbx2 := Hbx.out.below hb hs0
    have Hb := Lib.hid (Hb0.out.trans (hb.mono Hb0.out.size))
    clear hb HS Hbx
    obtain ⟨c0, c1, f0, f1, hl⟩ := hbx2
    go_wp2
    refine bodyPost_ret (v := .tuple #[.agg #[.bool false, .string ⟨#[]⟩], .int .i64 v]) (by simp [results, Try.results18, go_sem, c0, c1]) rfl ?_
    exact ⟨(Hb.out.setCell (by simp) _).setCell (by simp) _, .inr ⟨Hs.out, rfl⟩⟩
end Go.Proofs.Ytlkoiekdafaapaa

namespace Go.Proofs.Ytlkoiekdafaapaa
open Go.RowKit Go.Shelf

set_option maxRecDepth 100000 in
set_option maxHeartbeats 4000000 in
theorem adj1_any (r c i k g : Nat) (p : Option Addr) (cp : Nat) (F : Nat → Nat → Int) (hi : i < r) (hk : k < c) (w : World) (ha : w.cell? ⟨g, 0, none⟩ = some (.slice p r cp)) (hF : MatF w p r c F) (hs : Small r c F) :
    Calls Try.prog 67 #[.int .i64 (i : Int), .int .i64 (k : Int), .pointer (some ⟨g, 0, none⟩)] w (RetZ (canon (-F i k)) w) := by
  obtain ⟨fb, fo, rfl, _, H, hH, hR⟩ := hF.cells hi
  have a2 := hH i hi
  obtain ⟨ab, ao, hpe, _, hac⟩ := (hR i hi).cells hk
  rw [hpe] at a2
  obtain ⟨a3, a4⟩ := hac k hk
  have HN := Lib.hid (negc_any (F i k) (hs i k hi hk))
  have i0 : (0 : Int) ≤ (i : Int) := by omega
  have i1 : (i : Int) < (r : Int) := by omega
  have k0 : (0 : Int) ≤ (k : Int) := by omega
  have k1 : (k : Int) < (c : Int) := by omega
  have l1 : g < w.heap.size := World.block_lt_of_cell? w _ ha
  have l2 : fb < w.heap.size := World.block_lt_of_cell? w _ a2
  have l3 : ab < w.heap.size := World.block_lt_of_cell? w _ a3
  generalize canon (F i k) = X at *
  obtain ⟨Z, hZ⟩ : ∃ Z, canon (-F i k) = Z := ⟨_, rfl⟩
  rw [hZ] at HN ⊢
  clear hZ hac hpe hH hR hF hs
  go_enter Try.func67, Try.ntmps67
  go_wp2_with fail
  have hA0 := BoxAt.new w (.bool false) (.string ⟨#[]⟩) 27
  have hb0 := (Below.refl w.heap.size w).alloc (Nat.le_refl _) (.cells #[.bool false, .string ⟨#[]⟩] 27)
  refine (HN.out _).mono ?_
  rintro e w2 ⟨rfl, hb2⟩
  dsimp only
  have hA2 := hA0.below hb2 hA0.2.2.2.2
  have hb3 := hb0.trans (hb2.mono (by simp))
  clear hb2 hb0 hA0
  obtain ⟨c0, c1, f0, f1, hl⟩ := hA2
  go_wp2
  refine bodyPost_ret (v := .agg #[.bool Z.neg, .string Z.mag]) (by simp [results, Try.results67, go_sem, c0, c1]) rfl ⟨rfl, ?_⟩
  exact (hb3.setCell (by simp) _).setCell (by simp) _

set_option maxRecDepth 100000 in
set_option maxHeartbeats 4000000 in
theorem tr1_any (r c i k g : Nat) (p : Option Addr) (cp : Nat) (F : Nat → Nat → Int) (hi : i < c) (hk : k < r) (w : World) (ha : w.cell? ⟨g, 0, none⟩ = some (.slice p r cp)) (hF : MatF w p r c F) :
    Calls Try.prog 75 #[.int .i64 (i : Int), .int .i64 (k : Int), .pointer (some ⟨g, 0, none⟩)] w (RetZ (canon (F k i)) w) := by
  obtain ⟨fb, fo, rfl, _, H, hH, hR⟩ := hF.cells hk
  have a2 := hH k hk
  obtain ⟨ab, ao, hpe, _, hac⟩ := (hR k hk).cells hi
  rw [hpe] at a2
  obtain ⟨a3, a4⟩ := hac i hi
  have i0 : (0 : Int) ≤ (i : Int) := by omega
  have i1 : (i : Int) < (c : Int) := by omega
  have k0 : (0 : Int) ≤ (k : Int) := by omega
  have k1 : (k : Int) < (r : Int) := by omega
  have l1 : g < w.heap.size := World.block_lt_of_cell? w _ ha
  have l2 : fb < w.heap.size := World.block_lt_of_cell? w _ a2
  have l3 : ab < w.heap.size := World.block_lt_of_cell? w _ a3
  have n1 : ¬ w.heap.size = g := by omega
  have n2 : ¬ w.heap.size = fb := by omega
  have n3 : ¬ w.heap.size = ab := by omega
  generalize canon (F k i) = X at *
  clear hac hpe hH hR hF
  go_enter Try.func75, Try.ntmps75
  go_wp2
  refine bodyPost_ret (v := .agg #[.bool X.neg, .string X.mag]) (by simp [results, Try.results75, go_sem]) rfl ⟨rfl, ?_⟩
  first
    | exact (Below.refl _ _).alloc (Nat.le_refl _) _
    | exact (((Below.refl _ _).alloc (Nat.le_refl _) _).setCell (Nat.le_refl _) _).setCell (Nat.le_refl _) _

/-- The adjugate, from the last of the matrices. -/
def adjC (n : Nat) (A : Nat → Nat → Int) (i k : Nat) : Int := if n % 2 = 0 then -chrM n A (n - 1) i k else chrM n A (n - 1) i k
set_option maxRecDepth 100000 in
set_option maxHeartbeats 4000000 in
theorem adj_any (m : GM) (p : Option Addr) (cp : Nat) (hf : m.Fit) (hok : m.sq = 0 → ChrOk m.r m.F) (w : World) (hm : m.At w p) :
    Calls Try.prog 20 #[.slice p m.r cp] w (RetMatE m.sq m.r m.r (adjC m.r m.F) w) := by
  have HS := Lib.hid (square_any m p cp hf w hm)
  by_cases hs : m.sq = 0
  · obtain ⟨h1, h2, h3, h4⟩ := GM.sq_zero hs
    have hM := GM.mat hm h1
    rw [← h2] at hM
    have HC := Lib.hid (fun (W : World) (hW : Below w.heap.size w W) => chr_any m.r p cp m.F h3 (by omega) W (hM.below (Nat.le_refl _) hW) (hok hs))
    have hsm : Small m.r m.r (chrM m.r m.F (m.r - 1)) := (hok hs).m (m.r - 1) (by omega)
    rw [hs] at HS ⊢
    have HD : Hid (∀ i k, adjC m.r m.F i k = if m.r % 2 = 0 then -chrM m.r m.F (m.r - 1) i k else chrM m.r m.F (m.r - 1) i k) := Lib.hid (fun _ _ => rfl)
    clear hs h1 h2 hM hok hf hm
    generalize adjC m.r m.F = D at *
    obtain ⟨M, hMM⟩ : ∃ M, chrM m.r m.F (m.r - 1) = M := ⟨_, rfl⟩
    rw [hMM] at HD hsm
    have HM := Lib.hid hMM
    clear hMM
    have HT := Lib.hid (fun (W : World) (g q : Nat) (hg : W.cell? ⟨g, 0, none⟩ = some (.slice (some ⟨q, 0, none⟩) m.r m.r)) (hq : MatF W (some ⟨q, 0, none⟩) m.r m.r M) => table_any m.r m.r (by omega) (by omega) 67 #[.pointer (some ⟨g, 0, none⟩)] (fun i k => -M i k) W (enters_of Try.func67 (by kernel_rfl) rfl) (fun i k V hi hk hV =>
      adj1_any m.r m.r i k g (some ⟨q, 0, none⟩) m.r M hi hk V (cell_below hV hg) (hq.below (Nat.le_refl _) hV) hsm))
    clear hsm
    by_cases hp : m.r % 2 = 0
    · have ep : ((m.r : Int) % 2 == 0) = true := by rw [beq_iff_eq]; omega
      have HD : Hid (∀ i k, D i k = -M i k) := Lib.hid (fun i k => by rw [HD.out i k, if_pos hp])
      clear hp
      go_enter Try.func20, Try.ntmps20
      go_wp2_with fail
      refine HS.out.mono ?_
      rintro e w2 ⟨rfl, hb⟩
      dsimp only
      have Hb := Lib.hid hb
      clear hb HS
      go_wp2_with fail
      refine (HC.out w2 Hb.out).mono ?_
      rintro e w3 ⟨g, q, rfl, _, hown, hb3⟩
      dsimp only
      rw [HM.out] at hown
      have Hb3 := Lib.hid (Hb.out.trans (hb3.mono Hb.out.size))
      have Ho := Lib.hid hown
      clear hb3 HC hown
      go_wp2_with fail
      have hbx : Boxed (w3.alloc (.cells #[.slice (some ⟨q, 0, none⟩) m.r m.r] 22)) w3.heap.size 22 (.slice (some ⟨q, 0, none⟩) m.r m.r) := Boxed.new w3 22 _
      have hb4 : Below w3.heap.size w3 (w3.alloc (.cells #[.slice (some ⟨q, 0, none⟩) m.r m.r] 22)) := (Below.refl _ _).alloc (Nat.le_refl _) _
      refine (HT.out _ w3.heap.size q hbx.cell ((Ho.out.call hb4).mat)).mono ?_
      rintro e w4 ⟨g2, rfl, hown2, hb5⟩
      dsimp only
      have c0 := (hb5.cell (p := ⟨w3.heap.size, 0, none⟩) (by simp)).trans hbx.cell
      have f0 := (hb5.frozen (p := ⟨w3.heap.size, 0, none⟩) (by simp)).trans hbx.frozen
      have Hw4 := Lib.hid (Hb3.out.trans ((hb4.trans (hb5.mono (by simp))).mono Hb3.out.size))
      have hl : w.heap.size ≤ w3.heap.size := Hb3.out.size
      have Hown2 := Lib.hid (hown2.other ⟨w3.heap.size, 0, none⟩ (.slice (some ⟨g2, 0, none⟩) m.r m.r) (by simp))
      clear hbx hb4 hb5 hown2 HT
      go_wp2
      refine bodyPost_ret (v := .tuple #[.slice (some ⟨g2, 0, none⟩) m.r m.r, .int .i64 0]) (by simp [results, Try.results20, go_sem]) rfl ?_
      exact ⟨Hw4.out.setCell hl _, .inl ⟨rfl, _, _, rfl, Hown2.out.mat.congr fun i k _ _ => (HD.out i k).symm⟩⟩
    · have ep : ((m.r : Int) % 2 == 0) = false := by rw [beq_eq_false_iff_ne]; omega
      have HD : Hid (∀ i k, D i k = M i k) := Lib.hid (fun i k => by rw [HD.out i k, if_neg hp])
      clear hp HT
      go_enter Try.func20, Try.ntmps20
      go_wp2_with fail
      refine HS.out.mono ?_
      rintro e w2 ⟨rfl, hb⟩
      dsimp only
      have Hb := Lib.hid hb
      clear hb HS
      go_wp2_with fail
      refine (HC.out w2 Hb.out).mono ?_
      rintro e w3 ⟨g, q, rfl, _, hown, hb3⟩
      dsimp only
      rw [HM.out] at hown
      have Hb3 := Lib.hid (Hb.out.trans (hb3.mono Hb.out.size))
      have Ho := Lib.hid hown
      clear hb3 HC hown
      go_wp2
      refine bodyPost_ret (v := .tuple #[.slice (some ⟨q, 0, none⟩) m.r m.r, .int .i64 0]) (by simp [results, Try.results20, go_sem]) rfl ?_
      have hb4 : Below w3.heap.size w3 (w3.alloc (.cells #[.slice (some ⟨q, 0, none⟩) m.r m.r] 22)) := (Below.refl _ _).alloc (Nat.le_refl _) _
      exact ⟨Hb3.out.trans (hb4.mono Hb3.out.size), .inl ⟨rfl, _, _, rfl, (Ho.out.call hb4).mat.congr fun i k _ _ => (HD.out i k).symm⟩⟩
  · clear hok hf hm
    generalize m.sq = v at *
    generalize m.F = F at *
    generalize m.r = r at *
    have e1 : (v != 0) = true := by rw [bne_iff_ne]; exact hs
    have Hs := Lib.hid hs
    clear hs
    go_enter Try.func20, Try.ntmps20
    go_wp2_with fail
    refine HS.out.mono ?_
    rintro e w2 ⟨rfl, hb⟩
    dsimp only
    have Hb := Lib.hid hb
    clear hb HS
    go_wp2
    refine bodyPost_ret (v := .tuple #[.slice none 0 0, .int .i64 v]) (by simp [results, Try.results20, go_sem]) rfl ?_
    exact ⟨Hb.out, .inr ⟨Hs.out, rfl⟩⟩

set_option maxRecDepth 100000 in
set_option maxHeartbeats 4000000 in
theorem identity_any (n : Int) (w : World) :
    Calls Try.prog 35 #[.int .i64 n] w (RetMatE (if n < 1 ∨ 32 < n then 2 else 0) n.toNat n.toNat (fun i k => if i = k then 1 else 0) w) := by
  by_cases h1 : n < 1
  · rw [if_pos (.inl h1)]
    go_enter Try.func35, Try.ntmps35
    go_wp2
    refine bodyPost_ret (v := .tuple #[.slice none 0 0, .int .i64 2]) (by simp [results, Try.results35, go_sem]) rfl ?_
    exact ⟨Below.refl _ _, .inr ⟨by decide, rfl⟩⟩
  by_cases h2 : 32 < n
  · rw [if_pos (.inr h2)]
    have h2' : n > 32 := h2
    go_enter Try.func35, Try.ntmps35
    go_wp2
    refine bodyPost_ret (v := .tuple #[.slice none 0 0, .int .i64 2]) (by simp [results, Try.results35, go_sem]) rfl ?_
    exact ⟨Below.refl _ _, .inr ⟨by decide, rfl⟩⟩
  rw [if_neg (by omega)]
  obtain ⟨N, rfl⟩ : ∃ N : Nat, n = N := ⟨n.toNat, by omega⟩
  have h2' : ¬ (N : Int) > 32 := h2
  have HO := Lib.hid (fun W => of_any 1 (by omega) (by omega) W)
  have HS := Lib.hid (fun W => scalar_any 1 N (by omega) W)
  rw [Int.toNat_natCast]
  go_enter Try.func35, Try.ntmps35
  go_wp2_with fail
  refine (HO.out _).mono ?_
  rintro e w2 ⟨rfl, hb2⟩
  dsimp only
  have Hb := Lib.hid hb2
  clear hb2 HO
  go_wp2_with fail
  refine (HS.out _).mono ?_
  rintro e w3 ⟨g, rfl, hown, hb3⟩
  dsimp only
  have Hb3 := Lib.hid (Hb.out.trans (hb3.mono Hb.out.size))
  have Ho := Lib.hid hown.mat
  clear hb3 hown HS
  go_wp2
  refine bodyPost_ret (v := .tuple #[.slice (some ⟨g, 0, none⟩) N N, .int .i64 0]) (by simp [results, Try.results35, go_sem]) rfl ?_
  exact ⟨Hb3.out, .inl ⟨rfl, _, _, rfl, Ho.out⟩⟩
end Go.Proofs.Ytlkoiekdafaapaa

namespace Go.Proofs.Ytlkoiekdafaapaa
open Go.RowKit Go.Shelf

theorem bad2 (a b : GM) (p q : Option Addr) (cp cq : Nat) (hfa : a.Fit) (hfb : b.Fit) (w : World) (ha : a.At w p) (hb : b.At w q) (W : World) (g : Nat) (hW : Below w.heap.size w W) (h0 : W.cell? ⟨g, 0, none⟩ = some (.slice p a.r cp)) (h1 : W.cell? ⟨g, 1, none⟩ = some (.slice q b.r cq)) :
    Calls Try.prog 73 #[.slice (some ⟨g, 0, none⟩) 2 2] W (RetB (a.chk != 0 || b.chk != 0) W) := by
  have h := bad_any 2 (some ⟨g, 0, none⟩) 2 (fun k => if k = 0 then a else b) (fun k => if k = 0 then p else q) (fun k => if k = 0 then cp else cq) (by omega) (fun k hk => by split <;> assumption) W (.inr ⟨g, 0, rfl, World.block_lt_of_cell? W _ h0, fun i hi j hj => by
    have e2 : j = 0 := by omega
    subst e2
    have : i = 0 ∨ i = 1 := by omega
    rcases this with rfl | rfl
    · simpa using h0
    · simpa using h1⟩) (fun k hk => by
      split
      · exact ha.below (Nat.le_refl _) hW
      · exact hb.below (Nat.le_refl _) hW)
  simpa [anyN] using h
theorem below_drN {B : Nat} {w w' : World} (h : Below B w w') (k : Nat) : Below B w (w'.drewN k) := by
  exact below_dr h
def mulE (a b : GM) : Int := if (a.chk != 0 || b.chk != 0) = true then 1 else if a.L 0 ≠ b.r then 11 else 0
theorem mulE_zero {a b : GM} (h : mulE a b = 0) : a.chk = 0 ∧ b.chk = 0 ∧ a.L 0 = b.r := by
  unfold mulE at h
  split at h
  · cases h
  · rename_i h1
    split at h
    · cases h
    · rename_i h2
      simp at h1
      exact ⟨h1.1, h1.2, by omega⟩
set_option maxRecDepth 100000 in
set_option maxHeartbeats 4000000 in
theorem mul_m (a b : GM) (p q : Option Addr) (cp cq : Nat) (hfa : a.Fit) (hfb : b.Fit) (hok : mulE a b = 0 → Small a.r b.r a.F ∧ Small b.r (b.L 0) b.F ∧ SmallP a.r b.r (b.L 0) a.F b.F) (w : World) (ha : a.At w p) (hb : b.At w q) :
    Calls Try.prog 28 #[.slice p a.r cp, .slice q b.r cq] w (RetMatE (mulE a b) a.r (b.L 0) (mulF b.r a.F b.F) w) := by
  have HB := Lib.hid (bad2 a b p q cp cq hfa hfb w ha hb)
  by_cases hz : (a.chk != 0 || b.chk != 0) = true
  · have hv : mulE a b = 1 := if_pos hz
    rw [hv]
    rw [hz] at HB
    clear hz hv hok hfa hfb ha hb
    generalize b.L 0 = l at *
    generalize mulF b.r a.F b.F = D at *
    generalize a.r = r at *
    generalize b.r = n at *
    go_enter Try.func28, Try.ntmps28
    go_wp2_with fail
    refine (HB.out _ w.heap.size ((Below.refl _ w).alloc (Nat.le_refl _) _) (by simp) (by simp)).mono ?_
    rintro e w2 ⟨rfl, hb2⟩
    dsimp only
    have Hb := Lib.hid (((Below.refl _ w).alloc (Nat.le_refl _) _).trans (hb2.mono (by simp)))
    clear hb2 HB
    go_wp2
    refine bodyPost_ret (v := .tuple #[.slice none 0 0, .int .i64 1]) (by simp [results, Try.results28, go_sem]) rfl ?_
    exact ⟨Hb.out, .inr ⟨by decide, rfl⟩⟩
  · have hz2 : (a.chk != 0 || b.chk != 0) = false := by simpa using hz
    rw [hz2] at HB
    have hca : a.chk = 0 := by simp at hz2; exact hz2.1
    have hcb : b.chk = 0 := by simp at hz2; exact hz2.2
    have hMa := GM.mat ha hca
    have hMb := GM.mat hb hcb
    have hra := GM.chk_zero hca
    have hrb := GM.chk_zero hcb
    obtain ⟨bl, off, q1, c1, hpe, hbl, a0⟩ := GM.head ha hra.1
    have hv : mulE a b = if a.L 0 ≠ b.r then 11 else 0 := if_neg hz
    have r0 : (0 : Int) < (a.r : Int) := by omega
    by_cases hl : a.L 0 = b.r
    · have hv0 : mulE a b = 0 := by rw [hv, if_neg (by omega)]
      have e1 : ((a.L 0 : Int) != (b.r : Int)) = false := by rw [hl, bne_self_eq_false]
      obtain ⟨s1, s2, s3⟩ := hok hv0
      rw [hl] at hMa
      have HP := Lib.hid (fun (W : World) (hW : Below w.heap.size w W) => product_any a.r b.r (b.L 0) p q cp cq a.F b.F (by omega) (by omega) (by omega) (by omega) W (hMa.below (Nat.le_refl _) hW) (hMb.below (Nat.le_refl _) hW) s1 s2 s3)
      rw [hv0]
      clear hv0 hv hl s1 s2 s3 hra hrb hMa hMb hca hcb hz hz2 hok hfa hfb ha hb
      generalize b.L 0 = l at *
      generalize a.L 0 = la at *
      generalize mulF b.r a.F b.F = D at *
      generalize a.r = r at *
      generalize b.r = n at *
      subst hpe
      go_enter Try.func28, Try.ntmps28
      go_wp2_with fail
      refine (HB.out _ w.heap.size ((Below.refl _ w).alloc (Nat.le_refl _) _) (by simp) (by simp)).mono ?_
      rintro e w2 ⟨rfl, hb2⟩
      dsimp only
      have hb3 := ((Below.refl w.heap.size w).alloc (Nat.le_refl _) (.cells #[.slice (some ⟨bl, off, none⟩) r cp, .slice q n cq] 22)).trans (hb2.mono (by simp))
      have Hb := Lib.hid hb3
      have a2 := cell_below hb3 a0
      clear hb2 hb3 HB a0
      go_wp2_with fail
      refine (HP.out w2 Hb.out).mono ?_
      rintro e w3 ⟨g, rfl, hown, hb3⟩
      dsimp only
      have Hb3 := Lib.hid (Hb.out.trans (hb3.mono Hb.out.size))
      have Ho := Lib.hid hown.mat
      clear hb3 hown HP
      go_wp2
      refine bodyPost_ret (v := .tuple #[.slice (some ⟨g, 0, none⟩) r r, .int .i64 0]) (by simp [results, Try.results28, go_sem]) rfl ?_
      exact ⟨Hb3.out, .inl ⟨rfl, _, _, rfl, Ho.out⟩⟩
    · have hv0 : mulE a b = 11 := by rw [hv, if_pos hl]
      have e1 : ((a.L 0 : Int) != (b.r : Int)) = true := by rw [bne_iff_ne]; omega
      rw [hv0]
      clear hv0 hv hl hra hrb hMa hMb hca hcb hz hz2 hok hfa hfb ha hb
      generalize b.L 0 = l at *
      generalize a.L 0 = la at *
      generalize mulF b.r a.F b.F = D at *
      generalize a.r = r at *
      generalize b.r = n at *
      subst hpe
      go_enter Try.func28, Try.ntmps28
      go_wp2_with fail
      refine (HB.out _ w.heap.size ((Below.refl _ w).alloc (Nat.le_refl _) _) (by simp) (by simp)).mono ?_
      rintro e w2 ⟨rfl, hb2⟩
      dsimp only
      have hb3 := ((Below.refl w.heap.size w).alloc (Nat.le_refl _) (.cells #[.slice (some ⟨bl, off, none⟩) r cp, .slice q n cq] 22)).trans (hb2.mono (by simp))
      have Hb := Lib.hid hb3
      have a2 := cell_below hb3 a0
      clear hb2 hb3 HB a0
      go_wp2
      refine bodyPost_ret (v := .tuple #[.slice none 0 0, .int .i64 11]) (by simp [results, Try.results28, go_sem]) rfl ?_
      exact ⟨Hb.out, .inr ⟨by decide, rfl⟩⟩
def addE (a b : GM) : Int := if (a.chk != 0 || b.chk != 0) = true then 1 else if ¬(a.r = b.r ∧ a.L 0 = b.L 0) then 11 else 0
theorem addE_zero {a b : GM} (h : addE a b = 0) : a.chk = 0 ∧ b.chk = 0 ∧ a.r = b.r ∧ a.L 0 = b.L 0 := by
  unfold addE at h
  split at h
  · cases h
  · rename_i h1
    split at h
    · cases h
    · rename_i h2
      simp at h1
      exact ⟨h1.1, h1.2, by omega, by omega⟩
set_option maxRecDepth 100000 in
set_option maxHeartbeats 4000000 in
theorem add_m (a b : GM) (p q : Option Addr) (cp cq : Nat) (hfa : a.Fit) (hfb : b.Fit) (hok : addE a b = 0 → Small a.r (a.L 0) a.F ∧ Small b.r (b.L 0) b.F) (w : World) (ha : a.At w p) (hb : b.At w q) :
    Calls Try.prog 46 #[.slice p a.r cp, .slice q b.r cq] w (RetMatE (addE a b) a.r (a.L 0) (fun i k => a.F i k + b.F i k) w) := by
  have HB := Lib.hid (bad2 a b p q cp cq hfa hfb w ha hb)
  by_cases hz : (a.chk != 0 || b.chk != 0) = true
  · have hv : addE a b = 1 := if_pos hz
    rw [hv]
    rw [hz] at HB
    clear hz hv hok hfa hfb ha hb
    generalize a.L 0 = l at *
    generalize (fun i k => a.F i k + b.F i k) = D at *
    generalize a.r = r at *
    generalize b.r = n at *
    go_enter Try.func46, Try.ntmps46
    go_wp2_with fail
    refine (HB.out _ w.heap.size ((Below.refl _ w).alloc (Nat.le_refl _) _) (by simp) (by simp)).mono ?_
    rintro e w2 ⟨rfl, hb2⟩
    dsimp only
    have Hb := Lib.hid (((Below.refl _ w).alloc (Nat.le_refl _) _).trans (hb2.mono (by simp)))
    clear hb2 HB
    go_wp2
    refine bodyPost_ret (v := .tuple #[.slice none 0 0, .int .i64 1]) (by simp [results, Try.results46, go_sem]) rfl ?_
    exact ⟨Hb.out, .inr ⟨by decide, rfl⟩⟩
  · have hz2 : (a.chk != 0 || b.chk != 0) = false := by simpa using hz
    rw [hz2] at HB
    have hca : a.chk = 0 := by simp at hz2; exact hz2.1
    have hcb : b.chk = 0 := by simp at hz2; exact hz2.2
    have hMa := GM.mat ha hca
    have hMb := GM.mat hb hcb
    have hra := GM.chk_zero hca
    have hrb := GM.chk_zero hcb
    obtain ⟨bl, off, q1, c1, hpe, hbl, a0⟩ := GM.head ha hra.1
    obtain ⟨bm, ofm, q2, c2, hqe, hbm, b0⟩ := GM.head hb hrb.1
    have hv : addE a b = if ¬(a.r = b.r ∧ a.L 0 = b.L 0) then 11 else 0 := if_neg hz
    have r0 : (0 : Int) < (a.r : Int) := by omega
    have r1 : (0 : Int) < (b.r : Int) := by omega
    by_cases h1 : a.r = b.r
    · by_cases h2 : a.L 0 = b.L 0
      · have hv0 : addE a b = 0 := by rw [hv, if_neg (by omega)]
        have e1 : ((a.r : Int) != (b.r : Int)) = false := by rw [h1, bne_self_eq_false]
        have e2 : ((a.L 0 : Int) != (b.L 0 : Int)) = false := by rw [h2, bne_self_eq_false]
        obtain ⟨s1, s2⟩ := hok hv0
        have HP : Hid (∀ W : World, Below w.heap.size w W → Calls Try.prog 96 #[.slice p a.r cp, .slice q b.r cq] W (RetOwn a.r (a.L 0) (fun i k => a.F i k + b.F i k) W)) := Lib.hid (fun W hW => by
          rw [← h1, ← h2] at hMb s2
          rw [← h1]
          exact sum_any a.r (a.L 0) p q cp cq a.F b.F (by omega) (by omega) (by omega) W (hMa.below (Nat.le_refl _) hW) (hMb.below (Nat.le_refl _) hW) s1 s2)
        rw [hv0]
        clear h1 h2 s1 s2
        clear hv0 hv hra hrb hMa hMb hca hcb hz hz2 hok hfa hfb ha hb
        generalize (fun i k => a.F i k + b.F i k) = D at *
        generalize a.L 0 = la at *
        generalize b.L 0 = lb at *
        generalize a.r = r at *
        generalize b.r = n at *
        subst hpe hqe
        go_enter Try.func46, Try.ntmps46
        go_wp2_with fail
        refine (HB.out _ w.heap.size ((Below.refl _ w).alloc (Nat.le_refl _) _) (by simp) (by simp)).mono ?_
        rintro e w2 ⟨rfl, hb2⟩
        dsimp only
        have hb3 := ((Below.refl w.heap.size w).alloc (Nat.le_refl _) (.cells #[.slice (some ⟨bl, off, none⟩) r cp, .slice (some ⟨bm, ofm, none⟩) n cq] 22)).trans (hb2.mono (by simp))
        have Hb := Lib.hid hb3
        have a2 := cell_below hb3 a0
        have b2 := cell_below hb3 b0
        clear hb2 hb3 HB a0 b0
        go_wp2_with fail
        go_quiet (fail)
        go_wp2_with fail
        refine (HP.out _ ?_).mono ?_
        · first
            | exact Hb.out
            | exact below_drN Hb.out _
        rintro e w3 ⟨g, rfl, hown, hb3⟩
        dsimp only
        have Hb3 : Hid (Below w.heap.size w w3) := Lib.hid (by
          first
            | exact Hb.out.trans (hb3.mono Hb.out.size)
            | exact (below_drN Hb.out _).trans (hb3.mono (below_drN Hb.out _).size))
        have Ho := Lib.hid hown.mat
        clear hb3 hown HP
        go_wp2
        refine bodyPost_ret (v := .tuple #[.slice (some ⟨g, 0, none⟩) r r, .int .i64 0]) (by simp [results, Try.results46, go_sem]) rfl ?_
        exact ⟨Hb3.out, .inl ⟨rfl, _, _, rfl, Ho.out⟩⟩
      · have hv0 : addE a b = 11 := by rw [hv, if_pos (by omega)]
        have e1 : ((a.r : Int) != (b.r : Int)) = false := by rw [h1, bne_self_eq_false]
        have e2 : ((a.L 0 : Int) != (b.L 0 : Int)) = true := by rw [bne_iff_ne]; omega
        rw [hv0]
        clear h1 h2
        clear hv0 hv hra hrb hMa hMb hca hcb hz hz2 hok hfa hfb ha hb
        generalize (fun i k => a.F i k + b.F i k) = D at *
        generalize a.L 0 = la at *
        generalize b.L 0 = lb at *
        generalize a.r = r at *
        generalize b.r = n at *
        subst hpe hqe
        go_enter Try.func46, Try.ntmps46
        go_wp2_with fail
        refine (HB.out _ w.heap.size ((Below.refl _ w).alloc (Nat.le_refl _) _) (by simp) (by simp)).mono ?_
        rintro e w2 ⟨rfl, hb2⟩
        dsimp only
        have hb3 := ((Below.refl w.heap.size w).alloc (Nat.le_refl _) (.cells #[.slice (some ⟨bl, off, none⟩) r cp, .slice (some ⟨bm, ofm, none⟩) n cq] 22)).trans (hb2.mono (by simp))
        have Hb := Lib.hid hb3
        have a2 := cell_below hb3 a0
        have b2 := cell_below hb3 b0
        clear hb2 hb3 HB a0 b0
        go_wp2_with fail
        go_quiet (fail)
        go_wp2
        refine bodyPost_ret (v := .tuple #[.slice none 0 0, .int .i64 11]) (by simp [results, Try.results46, go_sem]) rfl ?_
        refine ⟨?_, .inr ⟨by decide, rfl⟩⟩
        first
          | exact Hb.out
          | exact below_drN Hb.out _
    · have hv0 : addE a b = 11 := by rw [hv, if_pos (by omega)]
      have e1 : ((a.r : Int) != (b.r : Int)) = true := by rw [bne_iff_ne]; omega
      rw [hv0]
      clear h1
      clear hv0 hv hra hrb hMa hMb hca hcb hz hz2 hok hfa hfb ha hb
      generalize (fun i k => a.F i k + b.F i k) = D at *
      generalize a.L 0 = la at *
      generalize b.L 0 = lb at *
      generalize a.r = r at *
      generalize b.r = n at *
      subst hpe hqe
      go_enter Try.func46, Try.ntmps46
      go_wp2_with fail
      refine (HB.out _ w.heap.size ((Below.refl _ w).alloc (Nat.le_refl _) _) (by simp) (by simp)).mono ?_
      rintro e w2 ⟨rfl, hb2⟩
      dsimp only
      have hb3 := ((Below.refl w.heap.size w).alloc (Nat.le_refl _) (.cells #[.slice (some ⟨bl, off, none⟩) r cp, .slice (some ⟨bm, ofm, none⟩) n cq] 22)).trans (hb2.mono (by simp))
      have Hb := Lib.hid hb3
      have a2 := cell_below hb3 a0
      have b2 := cell_below hb3 b0
      clear hb2 hb3 HB a0 b0
      go_wp2_with fail
      go_quiet (fail)
      go_wp2
      refine bodyPost_ret (v := .tuple #[.slice none 0 0, .int .i64 11]) (by simp [results, Try.results46, go_sem]) rfl ?_
      refine ⟨?_, .inr ⟨by decide, rfl⟩⟩
      first
        | exact Hb.out
        | exact below_drN Hb.out _
end Go.Proofs.Ytlkoiekdafaapaa

namespace Go.Proofs.Ytlkoiekdafaapaa
open Go.RowKit Go.Shelf

def trE (a : GM) : Int := if a.chk ≠ 0 then 1 else 0
theorem bad1m (a : GM) (p : Option Addr) (cp : Nat) (hfa : a.Fit) (w : World) (ha : a.At w p) (W : World) (g : Nat) (hW : Below w.heap.size w W) (h0 : W.cell? ⟨g, 0, none⟩ = some (.slice p a.r cp)) :
    Calls Try.prog 73 #[.slice (some ⟨g, 0, none⟩) 1 1] W (RetB (a.chk != 0) W) := by
  have h := bad_any 1 (some ⟨g, 0, none⟩) 1 (fun _ => a) (fun _ => p) (fun _ => cp) (by omega) (fun k hk => hfa) W (.inr ⟨g, 0, rfl, World.block_lt_of_cell? W _ h0, fun i hi j hj => by
    have e1 : i = 0 := by omega
    have e2 : j = 0 := by omega
    subst e1; subst e2
    simpa using h0⟩) (fun k hk => ha.below (Nat.le_refl _) hW)
  simpa [anyN] using h
set_option maxRecDepth 100000 in
set_option maxHeartbeats 4000000 in
theorem tr_m (a : GM) (p : Option Addr) (cp : Nat) (hfa : a.Fit) (w : World) (ha : a.At w p) :
    Calls Try.prog 30 #[.slice p a.r cp] w (RetMatE (trE a) (a.L 0) a.r (fun i k => a.F k i) w) := by
  have hb0 : Below w.heap.size w (w.alloc (.cells #[.slice p a.r cp] 22)) := (Below.refl _ w).alloc (Nat.le_refl _) _
  have hx0 : Boxed (w.alloc (.cells #[.slice p a.r cp] 22)) w.heap.size 22 (.slice p a.r cp) := Boxed.new w 22 (.slice p a.r cp)
  have hb1 : Below (w.heap.size + 1) (w.alloc (.cells #[.slice p a.r cp] 22)) ((w.alloc (.cells #[.slice p a.r cp] 22)).alloc (.cells #[.slice p a.r cp] 22)) := (Below.refl _ _).alloc (by simp) _
  have HB := Lib.hid (bad1m a p cp hfa w ha ((w.alloc (.cells #[.slice p a.r cp] 22)).alloc (.cells #[.slice p a.r cp] 22)) (w.heap.size + 1) (hb0.trans (hb1.mono (by omega))) (by
    simp))
  by_cases hz : a.chk = 0
  · have hv : trE a = 0 := if_neg (by omega)
    have hz2 : (a.chk != 0) = false := by rw [hz]; rfl
    rw [hz2] at HB
    rw [hv]
    have hM := GM.mat ha hz
    obtain ⟨r0, c0, r1, c1, _, _⟩ := GM.chk_zero hz
    have HT := Lib.hid (fun W (hW : Below (w.heap.size + 1) (w.alloc (.cells #[.slice p a.r cp] 22)) W) => table_any (a.L 0) a.r (by omega) (by omega) 75 #[.pointer (some ⟨w.heap.size, 0, none⟩)] (fun i k => a.F k i) W (enters_of Try.func75 (by kernel_rfl) rfl) (fun i k V hi hk hV => by
      have hWw : Below w.heap.size w W := hb0.trans (hW.mono (by omega))
      refine tr1_any a.r (a.L 0) i k w.heap.size p cp a.F hi hk V ?_ (hM.below (Nat.le_refl _) (hWw.trans (hV.mono hWw.size)))
      refine cell_below hV ?_
      rw [hW.cell (p := ⟨w.heap.size, 0, none⟩) (by simp)]
      exact hx0.cell))
    obtain ⟨bl, off, q1, c2, hpe, hbl, a0⟩ := GM.head ha r0
    have S0 : ∀ W, Below (w.heap.size + 1) (w.alloc (.cells #[.slice p a.r cp] 22)) W → W.cell? ⟨w.heap.size, 0, none⟩ = some (.slice p a.r cp) ∧ W.cell? ⟨bl, off, none⟩ = some (.slice q1 (a.L 0) c2) := fun W hW => by
      refine ⟨?_, cell_below (hb0.trans (hW.mono (by omega))) a0⟩
      rw [hW.cell (p := ⟨w.heap.size, 0, none⟩) (by simp)]
      exact hx0.cell
    have HS := Lib.hid S0
    have Hb0 := Lib.hid hb0
    have Hb1 := Lib.hid hb1
    have hs1 : (w.alloc (.cells #[.slice p a.r cp] 22)).heap.size = w.heap.size + 1 := by simp
    clear S0 hb0 hb1 hx0 hM hz hz2 hv hfa ha a0
    have r0' : (0 : Int) < (a.r : Int) := by omega
    generalize (fun i k => a.F k i) = D at *
    generalize a.L 0 = l at *
    generalize a.r = r at *
    subst hpe
    go_enter Try.func30, Try.ntmps30
    go_wp2_with fail
    refine HB.out.mono ?_
    rintro e w2 ⟨rfl, hb2⟩
    dsimp only
    have hb3 := Hb1.out.trans (hb2.mono (by simp))
    have Hb3 := Lib.hid hb3
    clear hb2 HB
    generalize w.alloc (.cells #[.slice (some ⟨bl, off, none⟩) r cp] 22) = w1 at *
    have hs2 := hb3.size
    go_wp2_with fail
    have hd := (Below.refl w2.heap.size w2).drew
    refine wp_region_held_drew (S := fun W => W.cell? ⟨w.heap.size, 0, none⟩ = some (.slice (some ⟨bl, off, none⟩) r cp) ∧ W.cell? ⟨bl, off, none⟩ = some (.slice q1 l c2)) (by kernel_rfl) (HS.out _ (Hb3.out.trans (hd.mono (by omega)))) (fun hSS => ?_)
    refine wpAnyH_take (i := 0) (v := ?_) rfl (by kernel_rfl) (by kernel_rfl) (by kernel_rfl) (fun _ _ _ h => h) (Or.inl ⟨by rfl, ?_⟩) hSS ?_
    rotate_left 1
    next => intro w hSw; obtain ⟨s1, s2⟩ := hSw; go_simp; try with_reducible rfl
    refine wpAnyH_take (i := 1) (v := ?_) rfl (by kernel_rfl) (by kernel_rfl) (by kernel_rfl) (fun _ _ _ h => h) (Or.inl ⟨by rfl, ?_⟩) hSS ?_
    rotate_left 1
    next => intro w hSw; obtain ⟨s1, s2⟩ := hSw; go_simp; try with_reducible rfl
    refine wpAnyH_take (i := 2) (v := ?_) rfl (by kernel_rfl) (by kernel_rfl) (by kernel_rfl) (fun _ _ _ h => h) (Or.inl ⟨by rfl, ?_⟩) hSS ?_
    rotate_left 1
    next => intro w hSw; obtain ⟨s1, s2⟩ := hSw; go_simp; try with_reducible rfl
    refine wpAnyH_take (i := 3) (v := ?_) rfl (by kernel_rfl) (by kernel_rfl) (by kernel_rfl) (fun _ _ _ h => h) (Or.inl ⟨by rfl, ?_⟩) hSS ?_
    rotate_left 1
    next => intro w hSw; obtain ⟨s1, s2⟩ := hSw; go_simp; try with_reducible rfl
    refine wpAnyH_take (i := 4) (v := ?_) rfl (by kernel_rfl) (by kernel_rfl) (by kernel_rfl) (fun _ _ _ h => h) (Or.inl ⟨by rfl, ?_⟩) hSS ?_
    rotate_left 1
    next => intro w hSw; obtain ⟨s1, s2⟩ := hSw; go_simp; try with_reducible rfl
    refine wpAnyH_take (i := 5) (v := ?_) rfl (by kernel_rfl) (by kernel_rfl) (by kernel_rfl) (fun _ _ _ h => h) (Or.inl ⟨by rfl, ?_⟩) hSS ?_
    rotate_left 1
    next => intro w hSw; obtain ⟨s1, s2⟩ := hSw; go_simp; try with_reducible rfl
    refine wpAnyH_take (i := 6) (v := ?_) rfl (by kernel_rfl) (by kernel_rfl) (by kernel_rfl) (fun _ _ _ h => h) (Or.inl ⟨by rfl, ?_⟩) hSS ?_
    rotate_left 1
    next => intro w hSw; obtain ⟨s1, s2⟩ := hSw; go_simp; try with_reducible rfl
    refine wpAnyH_ready (rs := [7]) (by kernel_rfl) (by simp) ?_
    refine AllReadyH.cons rfl (fun K hK => ?_) AllReadyH.nil
    go_simp
    refine (HT.out _ (Hb3.out.trans (hd.mono (by omega)))).mono ?_
    rintro e5 w5 ⟨g, rfl, hown, hb⟩
    have hb5 : Below (w.heap.size + 1) w1 w5 := Hb3.out.trans ((hd.trans (hb.mono (by exact Nat.le_refl _))).mono (by omega))
    have hS5 := HS.out _ hb5
    have HR : Hid (RetMatE 0 l r D w (.returned (.tuple #[.slice (some ⟨g, 0, none⟩) l l, .int .i64 0])) w5) := Lib.hid ⟨Hb0.out.trans (hb5.mono (by omega)), .inl ⟨rfl, _, _, rfl, hown.mat⟩⟩
    clear hb hown
    dsimp only
    refine hK.out _ _ hS5 (fun _ => ?_)
    clear hK K
    refine wpAnyH_take (i := 8) (v := ?_) rfl (by kernel_rfl) (by kernel_rfl) (by kernel_rfl) (fun _ _ _ h => h) (Or.inl ⟨by rfl, ?_⟩) hS5 ?_
    rotate_left 1
    next => intro w hSw; obtain ⟨s1, s2⟩ := hSw; go_simp; try with_reducible rfl
    refine wpAnyH_take (i := 9) (v := ?_) rfl (by kernel_rfl) (by kernel_rfl) (by kernel_rfl) (fun _ _ _ h => h) (Or.inl ⟨by rfl, ?_⟩) hS5 ?_
    rotate_left 1
    next => intro w hSw; obtain ⟨s1, s2⟩ := hSw; go_simp; try with_reducible rfl
    refine wpAnyH_done (by kernel_rfl) ?_ _
    go_wp2
    exact bodyPost_ret (v := .tuple #[.slice (some ⟨g, 0, none⟩) l l, .int .i64 0]) (by simp [results, Try.results30, go_sem]) rfl HR.out
  · have hv : trE a = 1 := if_pos hz
    have hz2 : (a.chk != 0) = true := by rw [bne_iff_ne]; exact hz
    rw [hz2] at HB
    rw [hv]
    have Hb0 := Lib.hid hb0
    have Hb1 := Lib.hid hb1
    clear hb0 hb1 hz hz2 hv hfa ha
    generalize (fun i k => a.F k i) = D at *
    generalize a.L 0 = l at *
    generalize a.r = r at *
    go_enter Try.func30, Try.ntmps30
    go_wp2_with fail
    refine HB.out.mono ?_
    rintro e w2 ⟨rfl, hb2⟩
    dsimp only
    have hb3 := Hb1.out.trans (hb2.mono (by simp))
    have Hb3 := Lib.hid (Hb0.out.trans (hb3.mono (by omega)))
    clear hb2 hb3 HB
    go_wp2
    refine bodyPost_ret (v := .tuple #[.slice none 0 0, .int .i64 1]) (by simp [results, Try.results30, go_sem]) rfl ?_
    exact ⟨Hb3.out, .inr ⟨by decide, rfl⟩⟩
end Go.Proofs.Ytlkoiekdafaapaa

namespace Go.Proofs.Ytlkoiekdafaapaa
open Go.RowKit Go.Shelf

def applyE (a : GM) (n : Nat) (Z : Nat → ZI) : Int := if (a.chk != 0 || anyN (fun k => !okZ (Z k)) n) = true then 1 else if n ≠ a.L 0 then 11 else 0
theorem applyE_zero {a : GM} {n : Nat} {Z : Nat → ZI} (h : applyE a n Z = 0) : a.chk = 0 ∧ n = a.L 0 ∧ ∀ k, k < n → Z k = canon (valZ (Z k)) := by
  unfold applyE at h
  split at h
  · cases h
  · rename_i h1
    split at h
    · cases h
    · rename_i h2
      rw [Bool.not_eq_true, Bool.or_eq_false_iff, anyN_false] at h1
      exact ⟨by simpa using h1.1, by omega, fun k hk => by simpa [okZ] using h1.2 k hk⟩
/-- Within Apply: i rows are done, and k numbers of the next one. -/
structure ApI (w wr : World) (g r n i k : Nat) (F : Nat → Nat → Int) (V : Nat → Int) : Prop where
  below : Below w.heap.size w wr
  cur : ZAt wr g r (fun m => if m < i then dotN (fun j => F m j * V j) n else if m = i then dotN (fun j => F i j * V j) k else 0)
  low : w.heap.size ≤ g
theorem ApI.start (w wr : World) (hb : Below w.heap.size w wr) (r n : Nat) (t : TypeId) (F : Nat → Nat → Int) (V : Nat → Int) : ApI w (wr.alloc (.cells (madeCells #[.bool false, .string ⟨#[]⟩] (r * 2)) t)) wr.heap.size r n 0 0 F V :=
  ⟨hb.alloc hb.size _, (made_zero wr r t).congr fun k _ => by
    rw [if_neg (by omega)]
    split <;> rfl, hb.size⟩
theorem ApI.call {w wr wr' : World} {g r n i k : Nat} {F : Nat → Nat → Int} {V : Nat → Int} (h : ApI w wr g r n i k F V) (hb : Below wr.heap.size wr wr') : ApI w wr' g r n i k F V :=
  ⟨h.below.trans (hb.mono h.below.size), h.cur.below hb h.cur.1, h.low⟩
theorem ApI.put {w wr : World} {g r n i k : Nat} {F : Nat → Nat → Int} {V : Nat → Int} (h : ApI w wr g r n i k F V) :
    ApI w ((wr.setCell ⟨g, i * 2, none⟩ (.bool (canon (dotN (fun j => F i j * V j) (k + 1))).neg)).setCell ⟨g, i * 2 + 1, none⟩ (.string (canon (dotN (fun j => F i j * V j) (k + 1))).mag)) g r n i (k + 1) F V :=
  ⟨(h.below.setCell (by simpa using h.low) _).setCell (by simpa using h.low) _, (h.cur.set _).congr fun m _ => by
    by_cases e : m = i
    · subst e; simp
    · simp [e], h.low⟩
theorem ApI.leave {w wr : World} {g r n i : Nat} {F : Nat → Nat → Int} {V : Nat → Int} (h : ApI w wr g r n i n F V) : ApI w wr g r n (i + 1) 0 F V :=
  ⟨h.below, h.cur.congr fun m _ => by
    by_cases e : m = i
    · subst e; simp
    · by_cases e2 : m < i
      · rw [if_pos e2, if_pos (by omega)]
      · rw [if_neg e2, if_neg e, if_neg (by omega)]
        split <;> rfl, h.low⟩
set_option maxRecDepth 100000 in
set_option maxHeartbeats 4000000 in
theorem apply_m (a : GM) (p : Option Addr) (cp : Nat) (q : Option Addr) (n cq : Nat) (Z : Nat → ZI) (hfa : a.Fit) (hn : n ≤ 1000000) (hfZ : ∀ k, k < n → (Z k).mag.size ≤ 100000000) (hok : applyE a n Z = 0 → Small a.r n a.F ∧ SmallP a.r n 1 a.F (fun j _ => valZ (Z j))) (w : World) (ha : a.At w p) (hq : GRow w q n Z) :
    Calls Try.prog 29 #[.slice p a.r cp, .slice q n cq] w (RetRowE (applyE a n Z) a.r (fun i => dotN (fun j => a.F i j * valZ (Z j)) n) w) := by
  have hb0 : Below w.heap.size w (w.alloc (.cells #[.slice p a.r cp] 22)) := (Below.refl _ w).alloc (Nat.le_refl _) _
  have HB := Lib.hid (bad1m a p cp hfa w ha (w.alloc (.cells #[.slice p a.r cp] 22)) w.heap.size hb0 (by simp))
  have Hb0 := Lib.hid hb0
  clear hb0
  by_cases hz : a.chk = 0
  · have hz2 : (a.chk != 0) = false := by rw [hz]; rfl
    rw [hz2] at HB
    have HO := Lib.hid (fun (W : World) (hW : Below w.heap.size w W) => odd_any n q cq Z (by omega) W (hq.mono (Nat.le_refl _) hW) hfZ)
    by_cases ho : anyN (fun k => !okZ (Z k)) n = true
    · have hv : applyE a n Z = 1 := if_pos (by rw [ho]; simp)
      rw [hv]
      rw [ho] at HO
      clear hz hz2 hok hfa ha ho hv hfZ hq
      generalize a.r = r at *
      generalize (fun i => dotN (fun j => a.F i j * valZ (Z j)) n) = D at *
      go_enter Try.func29, Try.ntmps29
      go_wp2_with fail
      refine HB.out.mono ?_
      rintro e w2 ⟨rfl, hb2⟩
      dsimp only
      have Hb := Lib.hid (Hb0.out.trans (hb2.mono (by simp)))
      clear hb2 HB
      go_wp2_with fail
      refine (HO.out _ Hb.out).mono ?_
      rintro e w3 ⟨rfl, hb3⟩
      dsimp only
      have Hb3 := Lib.hid (Hb.out.trans (hb3.mono Hb.out.size))
      clear hb3 HO
      go_wp2
      refine bodyPost_ret (v := .tuple #[.slice none 0 0, .int .i64 1]) (by simp [results, Try.results29, go_sem]) rfl ?_
      exact ⟨Hb3.out, .inr ⟨by decide, rfl⟩⟩
    have ho2 : anyN (fun k => !okZ (Z k)) n = false := by simpa using ho
    rw [ho2] at HO
    have hcan : ∀ k, k < n → Z k = canon (valZ (Z k)) := fun k hk => by
      rw [anyN_false] at ho2
      simpa [okZ] using ho2 k hk
    obtain ⟨r0, c0, r1, c1, _, _⟩ := GM.chk_zero hz
    obtain ⟨bl, off, q1, c2, hpe, hbl, a0⟩ := GM.head ha r0
    have r0' : (0 : Int) < (a.r : Int) := by omega
    have hv1 : applyE a n Z = if n ≠ a.L 0 then 11 else 0 := if_neg (by rw [hz, ho2]; decide)
    by_cases hl : n = a.L 0
    · have hv : applyE a n Z = 0 := by rw [hv1, if_neg (by omega)]
      have e1 : ((n : Int) != (a.L 0 : Int)) = false := by rw [hl, bne_self_eq_false]
      obtain ⟨s1, s2⟩ := hok hv
      rw [hv]
      have hM := GM.mat ha hz
      rw [← hl] at hM a0 e1 c0 c1
      obtain ⟨V, hV⟩ : ∃ V : Nat → Int, V = fun j => valZ (Z j) := ⟨_, rfl⟩
      have hR : RowF w q n V := hq.congr fun k hk j _ => by
        rw [hV]
        show zg (Z k) j = zc (valZ (Z k)) j
        unfold zg zc
        rw [← hcan k hk]
      rw [show (fun i => dotN (fun j => a.F i j * valZ (Z j)) n) = fun i => dotN (fun j => a.F i j * V j) n from by rw [hV]]
      rw [show (fun j _ => valZ (Z j) : Nat → Nat → Int) = fun j _ => V j from by rw [hV]] at s2
      have HM := Lib.hid hM
      have HR := Lib.hid hR
      have HsF := Lib.hid s1
      have HsV : Hid (∀ j, j < n → (canon (V j)).mag.size ≤ 100000000) := Lib.hid (fun j hj => by rw [hV]; dsimp only; rw [← hcan j hj]; exact hfZ j hj)
      have HsP := Lib.hid s2
      clear hz hz2 hok hfa ha ho ho2 hv hv1 hfZ hq hcan hM hR hV hl s1 s2
      generalize a.r = r at *
      generalize a.F = F at *
      subst hpe
      go_enter Try.func29, Try.ntmps29
      go_wp2_with fail
      refine HB.out.mono ?_
      rintro e w2 ⟨rfl, hb2⟩
      dsimp only
      have Hb := Lib.hid (Hb0.out.trans (hb2.mono (by simp)))
      clear hb2 HB
      go_wp2_with fail
      refine (HO.out _ Hb.out).mono ?_
      rintro e w3 ⟨rfl, hb3⟩
      dsimp only
      have hb4 := Hb.out.trans (hb3.mono Hb.out.size)
      have Hb3 := Lib.hid hb4
      have a3 := cell_below hb4 a0
      have hmk := make_zs r (by omega) w3
      have Hst := Lib.hid (ApI.start w w3 hb4 r n 27 F V)
      clear hb3 HO hb4
      generalize w3.alloc (.cells (madeCells #[.bool false, .string ⟨#[]⟩] (r * 2)) 27) = w4 at *
      generalize w3.heap.size = g at *
      go_wp2
      go_loopw [30] (fun v wr => ∃ i : Nat, i ≤ r ∧ v = .int .i64 i ∧ Hid (ApI w wr g r n i 0 F V)) (fun v _ => r - (intOf v).toNat)
      case atStart => exact ⟨0, by omega, by go_num, Hst⟩
      case round =>
        clear Hst hmk a3 Hb3 Hb
        obtain ⟨i, hi, rfl, HA⟩ := hrel
        by_cases hlt : i < r
        · have i0 : (0 : Int) ≤ (i : Int) := by omega
          have i1 : (i : Int) < (r : Int) := by omega
          obtain ⟨fb, fo, hpe, hfb, H, hH, hRr⟩ := HM.out.cells hlt
          obtain ⟨he1, he2, _⟩ := Addr.mk.inj (Option.some.inj hpe)
          subst he1 he2
          have a5 := cell_below HA.out.below (hH i hlt)
          have HRi := Lib.hid (hRr i hlt)
          clear hH hRr hpe
          go_wp2
          go_loopw [37] (fun v wr => ∃ k : Nat, k ≤ n ∧ v = .int .i64 k ∧ Hid (ApI w wr g r n i k F V)) (fun v _ => n - (intOf v).toNat)
          case atStart => exact ⟨0, by omega, by go_num, HA⟩
          case round =>
            clear HA a5
            obtain ⟨k, hk, rfl, HA⟩ := hrel
            by_cases hkl : k < n
            · have k0 : (0 : Int) ≤ (k : Int) := by omega
              have k1 : (k : Int) < (n : Int) := by omega
              obtain ⟨ab, ao, hpe, hab, hac⟩ := HRi.out.cells hkl
              obtain ⟨a6, a7⟩ := hac k hkl
              have a6 := cell_below HA.out.below a6
              have a7 := cell_below HA.out.below a7
              obtain ⟨vb, vo, hqe, hvb, hvc⟩ := HR.out.cells hkl
              obtain ⟨v6, v7⟩ := hvc k hkl
              have v6 := cell_below HA.out.below v6
              have v7 := cell_below HA.out.below v7
              rw [hpe]
              rw [hqe]
              clear hac hvc
              go_wp2
              have hXb := (Below.refl wr.heap.size wr).alloc (Nat.le_refl _) (.cells #[.bool (canon (F i k)).neg, .string (canon (F i k)).mag] 27)
              have hbx := BoxAt.new wr (.bool (canon (F i k)).neg) (.string (canon (F i k)).mag) 27
              have hgl : g < wr.heap.size := HA.out.cur.1
              have hwl : w.heap.size ≤ wr.heap.size := HA.out.below.size
              have hglow : w.heap.size ≤ g := HA.out.low
              have HA := Lib.hid (HA.out.call hXb)
              have v6 := cell_below hXb v6
              have v7 := cell_below hXb v7
              have hF1 := HsF.out i k hlt hkl
              have hV1 := HsV.out k hkl
              obtain ⟨hP1, hP2⟩ := HsP.out i 0 hlt (by omega)
              have HM := Lib.hid (fun W => mulc_any (F i k) (V k) hF1 hV1 W)
              have HA1 := Lib.hid (fun W => addc_any (dotN (fun j => F i j * V j) k) (F i k * V k) (hP1 k (by omega)) (hP2 k hkl) W)
              rw [show dotN (fun j => F i j * V j) k + F i k * V k = dotN (fun j => F i j * V j) (k + 1) from rfl] at HA1
              clear hP1 hP2 hF1 hV1 a6 a7
              generalize wr.alloc (.cells #[.bool (canon (F i k)).neg, .string (canon (F i k)).mag] 27) = X at *
              obtain ⟨gx, hgx⟩ : ∃ gx, wr.heap.size = gx := ⟨_, rfl⟩
              rw [hgx] at hbx hgl ⊢
              have HN := Lib.hid (fun (W : World) (h : Below X.heap.size X W) => (HA.out.call h).put)
              have HX0 : ∀ W : World, Below X.heap.size X W → (W.cell? ⟨g, i * 2, none⟩ = some (.bool (canon (dotN (fun j => F i j * V j) k)).neg) ∧ W.cell? ⟨g, i * 2 + 1, none⟩ = some (.string (canon (dotN (fun j => F i j * V j) k)).mag)) ∧ W.frozen? ⟨g, i * 2, none⟩ = false ∧ W.frozen? ⟨g, i * 2 + 1, none⟩ = false := fun W h => by
                have h2 := (HA.out.call h).cur.2 i hlt
                simpa using h2
              obtain ⟨XF, hXF⟩ : ∃ Z, canon (F i k) = Z := ⟨_, rfl⟩
              obtain ⟨XG, hXG⟩ : ∃ Z, canon (V k) = Z := ⟨_, rfl⟩
              obtain ⟨XP, hXP⟩ : ∃ Z, canon (F i k * V k) = Z := ⟨_, rfl⟩
              obtain ⟨XS, hXS⟩ : ∃ Z, canon (dotN (fun j => F i j * V j) k) = Z := ⟨_, rfl⟩
              obtain ⟨XT, hXT⟩ : ∃ Z, canon (dotN (fun j => F i j * V j) (k + 1)) = Z := ⟨_, rfl⟩
              rw [hXF] at HM hbx ⊢
              rw [hXG] at HM v6 v7
              rw [hXP] at HM HA1
              rw [hXS] at HA1 HX0
              rw [hXT] at HA1 HN
              clear hXF hXG hXP hXS hXT
              have HX := Lib.hid HX0
              obtain ⟨SS, hSe⟩ : ∃ SS : World → Prop, SS = fun W => W.cell? ⟨gx, 0, none⟩ = some (.bool XF.neg) ∧ W.cell? ⟨gx, 1, none⟩ = some (.string XF.mag) ∧ W.cell? ⟨vb, vo + k * 2, none⟩ = some (.bool XG.neg) ∧ W.cell? ⟨vb, vo + k * 2 + 1, none⟩ = some (.string XG.mag) := ⟨_, rfl⟩
              have HS : Hid (∀ W, Below X.heap.size X W → SS W) := Lib.hid (fun W hW => by rw [hSe]; exact ⟨cell_below hW hbx.1, cell_below hW hbx.2.1, cell_below hW v6, cell_below hW v7⟩)
              have HS2 : Hid (∀ W v1 v2, SS W → SS ((W.setCell ⟨g, i * 2, none⟩ v1).setCell ⟨g, i * 2 + 1, none⟩ v2)) := Lib.hid (fun W v1 v2 hW => by
                rw [hSe] at hW ⊢
                obtain ⟨s1, s2, s3, s4⟩ := hW
                refine ⟨?_, ?_, ?_, ?_⟩ <;> (rw [World.cell?_setCell_other _ _ _ _ (by intro hh; simp only [Addr.mk.injEq] at hh; omega), World.cell?_setCell_other _ _ _ _ (by intro hh; simp only [Addr.mk.injEq] at hh; omega)]; assumption))
              clear HX0 hbx v6 v7 hXb HA
              have hd : Below X.heap.size X X.drew := (Below.refl X.heap.size X).drew
              have hd : Below X.heap.size X X.drew := hd
              have hSS := HS.out _ hd
              refine wp_region_held_drew (S := SS) (by kernel_rfl) hSS (fun hSS => ?_)
              refine wpAnyH_take (i := 0) (v := ?_) rfl (by kernel_rfl) (by kernel_rfl) (by kernel_rfl) (fun _ _ _ h => h) (Or.inl ⟨by rfl, ?_⟩) hSS ?_
              rotate_left 1
              next => intro w hSw; rw [hSe] at hSw; obtain ⟨s1, s2, s3, s4⟩ := hSw; go_simp; try with_reducible rfl
              refine wpAnyH_take (i := 1) (v := ?_) rfl (by kernel_rfl) (by kernel_rfl) (by kernel_rfl) (fun _ _ _ h => h) (Or.inl ⟨by rfl, ?_⟩) hSS ?_
              rotate_left 1
              next => intro w hSw; rw [hSe] at hSw; obtain ⟨s1, s2, s3, s4⟩ := hSw; go_simp; try with_reducible rfl
              refine wpAnyH_take (i := 2) (v := ?_) rfl (by kernel_rfl) (by kernel_rfl) (by kernel_rfl) (fun _ _ _ h => h) (Or.inl ⟨by rfl, ?_⟩) hSS ?_
              rotate_left 1
              next => intro w hSw; rw [hSe] at hSw; obtain ⟨s1, s2, s3, s4⟩ := hSw; go_simp; try with_reducible rfl
              refine wpAnyH_take (i := 3) (v := ?_) rfl (by kernel_rfl) (by kernel_rfl) (by kernel_rfl) (fun _ _ _ h => h) (Or.inl ⟨by rfl, ?_⟩) hSS ?_
              rotate_left 1
              next => intro w hSw; rw [hSe] at hSw; obtain ⟨s1, s2, s3, s4⟩ := hSw; go_simp; try with_reducible rfl
              refine wpAnyH_take (i := 4) (v := ?_) rfl (by kernel_rfl) (by kernel_rfl) (by kernel_rfl) (fun _ _ _ h => h) (Or.inl ⟨by rfl, ?_⟩) hSS ?_
              rotate_left 1
              next => intro w hSw; rw [hSe] at hSw; obtain ⟨s1, s2, s3, s4⟩ := hSw; go_simp; try with_reducible rfl
              refine wpAnyH_take (i := 6) (v := ?_) rfl (by kernel_rfl) (by kernel_rfl) (by kernel_rfl) (fun _ _ _ h => h) (Or.inl ⟨by rfl, ?_⟩) hSS ?_
              rotate_left 1
              next => intro w hSw; rw [hSe] at hSw; obtain ⟨s1, s2, s3, s4⟩ := hSw; go_simp; try with_reducible rfl
              refine wpAnyH_take (i := 7) (v := ?_) rfl (by kernel_rfl) (by kernel_rfl) (by kernel_rfl) (fun _ _ _ h => h) (Or.inl ⟨by rfl, ?_⟩) hSS ?_
              rotate_left 1
              next => intro w hSw; rw [hSe] at hSw; obtain ⟨s1, s2, s3, s4⟩ := hSw; go_simp; try with_reducible rfl
              refine wpAnyH_take (i := 8) (v := ?_) rfl (by kernel_rfl) (by kernel_rfl) (by kernel_rfl) (fun _ _ _ h => h) (Or.inl ⟨by rfl, ?_⟩) hSS ?_
              rotate_left 1
              next => intro w hSw; rw [hSe] at hSw; obtain ⟨s1, s2, s3, s4⟩ := hSw; go_simp; try with_reducible rfl
              refine wpAnyH_take (i := 9) (v := ?_) rfl (by kernel_rfl) (by kernel_rfl) (by kernel_rfl) (fun _ _ _ h => h) (Or.inl ⟨by rfl, ?_⟩) hSS ?_
              rotate_left 1
              next => intro w hSw; rw [hSe] at hSw; obtain ⟨s1, s2, s3, s4⟩ := hSw; go_simp; try with_reducible rfl
              refine wpAnyH_take (i := 10) (v := ?_) rfl (by kernel_rfl) (by kernel_rfl) (by kernel_rfl) (fun _ _ _ h => h) (Or.inl ⟨by rfl, ?_⟩) hSS ?_
              rotate_left 1
              next => intro w hSw; rw [hSe] at hSw; obtain ⟨s1, s2, s3, s4⟩ := hSw; go_simp; try with_reducible rfl
              simp only [Act.put, List.getElem_toArray, List.getElem_cons_zero, List.getElem_cons_succ, List.setIfInBounds_toArray, List.set_cons_zero, List.set_cons_succ]
              refine wpAnyH_ready (rs := [5, 11]) (by kernel_rfl) (by simp) ?_
              refine AllReadyH.cons rfl ?_ ?_
              · intro K hK
                obtain ⟨⟨z0, z1⟩, z2, z3⟩ := HX.out _ hd
                go_simp
                refine hK.out _ _ (HS.out _ hd) (fun _ => ?_)
                clear hK K
                refine wpAnyH_ready (rs := [11]) (by kernel_rfl) (by simp) ?_
                refine AllReadyH.cons rfl (fun K hK => ?_) AllReadyH.nil
                go_simp
                refine (HM.out _).mono ?_
                rintro e5 w5 ⟨rfl, hbm⟩
                have hb5 : Below X.heap.size X w5 := hd.trans (hbm.mono hd.size)
                dsimp only
                refine hK.out _ _ (HS.out _ hb5) (fun _ => ?_)
                clear hK K
                refine wpAnyH_ready (rs := [12]) (by kernel_rfl) (by simp) ?_
                refine AllReadyH.cons rfl (fun K hK => ?_) AllReadyH.nil
                go_simp
                refine (HA1.out _).mono ?_
                rintro e5 w6 ⟨rfl, hbm⟩
                have hb6 : Below X.heap.size X w6 := hb5.trans (hbm.mono hb5.size)
                dsimp only
                refine hK.out _ _ (HS.out _ hb6) (fun _ => ?_)
                clear hK K
                refine wpAnyH_take (i := 13) (v := ?_) rfl (by kernel_rfl) (by kernel_rfl) (by kernel_rfl) (fun _ _ _ h => h) (Or.inl ⟨by rfl, ?_⟩) (HS.out _ hb6) ?_
                rotate_left 1
                next => intro w hSw; rw [hSe] at hSw; obtain ⟨s1, s2, s3, s4⟩ := hSw; go_simp; try with_reducible rfl
                refine wpAnyH_ready (rs := [14]) (by kernel_rfl) (by simp) ?_
                refine AllReadyH.cons rfl (fun K hK => ?_) AllReadyH.nil
                obtain ⟨⟨z0, z1⟩, z2, z3⟩ := HX.out _ hb6
                go_simp
                refine hK.out _ _ (HS2.out _ _ _ (HS.out _ hb6)) (fun _ => ?_)
                clear hK K
                refine wpAnyH_done (by kernel_rfl) ?_ _
                have Hfin := Lib.hid (HN.out _ hb6)
                clear z0 z1 z2 z3
                go_wp2
                go_roundw
                case rel => exact ⟨k + 1, by omega, by go_num, Hfin⟩
                case measure => simp [intOf]; omega
              · refine AllReadyH.cons rfl ?_ AllReadyH.nil
                intro K hK
                go_simp
                refine (HM.out _).mono ?_
                rintro e5 w5 ⟨rfl, hbm⟩
                have hb5 : Below X.heap.size X w5 := hd.trans (hbm.mono hd.size)
                dsimp only
                refine hK.out _ _ (HS.out _ hb5) (fun _ => ?_)
                clear hK K
                refine wpAnyH_ready (rs := [5]) (by kernel_rfl) (by simp) ?_
                refine AllReadyH.cons rfl (fun K hK => ?_) AllReadyH.nil
                obtain ⟨⟨z0, z1⟩, z2, z3⟩ := HX.out _ hb5
                go_simp
                refine hK.out _ _ (HS.out _ hb5) (fun _ => ?_)
                clear hK K
                refine wpAnyH_ready (rs := [12]) (by kernel_rfl) (by simp) ?_
                refine AllReadyH.cons rfl (fun K hK => ?_) AllReadyH.nil
                go_simp
                refine (HA1.out _).mono ?_
                rintro e5 w6 ⟨rfl, hbm⟩
                have hb6 : Below X.heap.size X w6 := hb5.trans (hbm.mono hb5.size)
                dsimp only
                refine hK.out _ _ (HS.out _ hb6) (fun _ => ?_)
                clear hK K
                refine wpAnyH_take (i := 13) (v := ?_) rfl (by kernel_rfl) (by kernel_rfl) (by kernel_rfl) (fun _ _ _ h => h) (Or.inl ⟨by rfl, ?_⟩) (HS.out _ hb6) ?_
                rotate_left 1
                next => intro w hSw; rw [hSe] at hSw; obtain ⟨s1, s2, s3, s4⟩ := hSw; go_simp; try with_reducible rfl
                refine wpAnyH_ready (rs := [14]) (by kernel_rfl) (by simp) ?_
                refine AllReadyH.cons rfl (fun K hK => ?_) AllReadyH.nil
                obtain ⟨⟨z0, z1⟩, z2, z3⟩ := HX.out _ hb6
                go_simp
                refine hK.out _ _ (HS2.out _ _ _ (HS.out _ hb6)) (fun _ => ?_)
                clear hK K
                refine wpAnyH_done (by kernel_rfl) ?_ _
                have Hfin := Lib.hid (HN.out _ hb6)
                clear z0 z1 z2 z3
                go_wp2
                go_roundw
                case rel => exact ⟨k + 1, by omega, by go_num, Hfin⟩
                case measure => simp [intOf]; omega
            · have k1 : ¬ (k : Int) < (n : Int) := by omega
              have HA2 : Hid (ApI w wr g r n (i + 1) 0 F V) := Lib.hid (by
                have h := HA.out
                rw [show k = n from by omega] at h
                exact h.leave)
              clear HA
              go_wp2
              go_roundw
              case rel => exact ⟨i + 1, by omega, by go_num, HA2⟩
              case measure => simp [intOf]; omega
        · have i1 : ¬ (i : Int) < (r : Int) := by omega
          have hir : i = r := by omega
          go_wp2
          refine bodyPost_ret (v := .tuple #[.slice (some ⟨g, 0, none⟩) r r, .int .i64 0]) (by simp [results, Try.results29, go_sem]) rfl ?_
          refine ⟨HA.out.below, .inl ⟨rfl, _, _, rfl, (HA.out.cur.congr fun m hm => ?_).row⟩⟩
          rw [if_pos (by omega)]
    · have hv : applyE a n Z = 11 := by rw [hv1, if_pos hl]
      have e1 : ((n : Int) != (a.L 0 : Int)) = true := by rw [bne_iff_ne]; omega
      rw [hv]
      clear hz hz2 hok hfa ha ho ho2 hv hv1 hfZ hq hcan hl
      generalize (fun i => dotN (fun j => a.F i j * valZ (Z j)) n) = D at *
      generalize a.L 0 = l at *
      generalize a.r = r at *
      subst hpe
      go_enter Try.func29, Try.ntmps29
      go_wp2_with fail
      refine HB.out.mono ?_
      rintro e w2 ⟨rfl, hb2⟩
      dsimp only
      have Hb := Lib.hid (Hb0.out.trans (hb2.mono (by simp)))
      clear hb2 HB
      go_wp2_with fail
      refine (HO.out _ Hb.out).mono ?_
      rintro e w3 ⟨rfl, hb3⟩
      dsimp only
      have hb4 := Hb.out.trans (hb3.mono Hb.out.size)
      have Hb3 := Lib.hid hb4
      have a3 := cell_below hb4 a0
      clear hb3 HO hb4
      go_wp2
      refine bodyPost_ret (v := .tuple #[.slice none 0 0, .int .i64 11]) (by simp [results, Try.results29, go_sem]) rfl ?_
      exact ⟨Hb3.out, .inr ⟨by decide, rfl⟩⟩
  · have hz2 : (a.chk != 0) = true := by rw [bne_iff_ne]; exact hz
    have hv : applyE a n Z = 1 := if_pos (by rw [hz2]; rfl)
    rw [hz2] at HB
    rw [hv]
    clear hz hz2 hok hfa ha hv hfZ hq
    generalize a.r = r at *
    generalize (fun i => dotN (fun j => a.F i j * valZ (Z j)) n) = D at *
    go_enter Try.func29, Try.ntmps29
    go_wp2_with fail
    refine HB.out.mono ?_
    rintro e w2 ⟨rfl, hb2⟩
    dsimp only
    have Hb := Lib.hid (Hb0.out.trans (hb2.mono (by simp)))
    clear hb2 HB
    go_wp2
    refine bodyPost_ret (v := .tuple #[.slice none 0 0, .int .i64 1]) (by simp [results, Try.results29, go_sem]) rfl ?_
    exact ⟨Hb.out, .inr ⟨by decide, rfl⟩⟩
end Go.Proofs.Ytlkoiekdafaapaa
