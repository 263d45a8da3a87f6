/- The walks of matrix.Characteristic and Det. -/
import Derived.Test.YtlkoiekdafaapaaChkM
namespace Go.Proofs.Ytlkoiekdafaapaa
open Go.RowKit Go.Shelf

/-- A matrix and an error, or nil and an error. -/
def RetMatE (v : Int) (r c : Nat) (F : Nat → Nat → Int) (w : World) (e : Ending) (w' : World) : Prop :=
  Below w.heap.size w w' ∧ ((v = 0 ∧ ∃ q k, e = .returned (.tuple #[.slice q r k, .int .i64 0]) ∧ MatF w' q r c F) ∨ (v ≠ 0 ∧ e = .returned (.tuple #[.slice none 0 0, .int .i64 v])))
def RetRowE (v : Int) (n : Nat) (f : Nat → Int) (w : World) (e : Ending) (w' : World) : Prop :=
  Below w.heap.size w w' ∧ ((v = 0 ∧ ∃ q k, e = .returned (.tuple #[.slice q n k, .int .i64 0]) ∧ RowF w' q n f) ∨ (v ≠ 0 ∧ e = .returned (.tuple #[.slice none 0 0, .int .i64 v])))
def RetNumE (v : Int) (n : Int) (w : World) (e : Ending) (w' : World) : Prop :=
  Below w.heap.size w w' ∧ ((v = 0 ∧ e = .returned (.tuple #[.agg #[.bool (canon n).neg, .string (canon n).mag], .int .i64 0])) ∨ (v ≠ 0 ∧ e = .returned (.tuple #[.agg #[.bool false, .string ⟨#[]⟩], .int .i64 v])))
theorem GM.sq_zero {m : GM} (h : m.sq = 0) : m.chk = 0 ∧ m.r = m.L 0 ∧ 0 < m.r ∧ m.r ≤ 32 := by
  unfold GM.sq at h
  split at h
  · cases h
  split at h
  · cases h
  · rename_i h1 h2
    have h1 : m.chk = 0 := by omega
    have := GM.chk_zero h1
    exact ⟨h1, by omega, this.1, this.2.2.1⟩

set_option maxRecDepth 100000 in
set_option maxHeartbeats 4000000 in
theorem charac_any (m : GM) (p : Option Addr) (cp : Nat) (hf : m.Fit) (hok : m.sq = 0 → ChrOk m.r m.F) (w : World) (hm : m.At w p) :
    Calls Try.prog 22 #[.slice p m.r cp] w (RetRowE m.sq (m.r + 1) (chrP m.r m.F m.r) w) := by
  have HS := Lib.hid (square_any m p cp hf w hm)
  by_cases hs : m.sq = 0
  · obtain ⟨h1, h2, h3, h4⟩ := GM.sq_zero hs
    have hM := GM.mat hm h1
    rw [← h2] at hM
    have HC := Lib.hid (fun (W : World) (hW : Below w.heap.size w W) => chr_any m.r p cp m.F h3 (by omega) W (hM.below (Nat.le_refl _) hW) (hok hs))
    rw [hs] at HS ⊢
    clear hs h1 h2 h4 hM hok hf hm
    go_enter Try.func22, Try.ntmps22
    go_wp2_with fail
    refine HS.out.mono ?_
    rintro e w2 ⟨rfl, hb⟩
    dsimp only
    have Hb := Lib.hid hb
    clear hb HS
    go_wp2_with fail
    refine (HC.out w2 Hb.out).mono ?_
    rintro e w3 ⟨g, q, rfl, hz, _, hb3⟩
    dsimp only
    have Hb3 := Lib.hid (Hb.out.trans (hb3.mono Hb.out.size))
    have Hz := Lib.hid hz
    clear hb3 hz HC
    go_wp2
    refine bodyPost_ret (v := .tuple #[.slice (some ⟨g, 0, none⟩) (m.r + 1) (m.r + 1), .int .i64 0]) (by simp [results, Try.results22, go_sem]) rfl ?_
    exact ⟨Hb3.out, .inl ⟨rfl, _, _, rfl, Hz.out.row⟩⟩
  · clear hok hf hm
    generalize m.sq = v at *
    generalize m.F = F at *
    generalize m.r = r at *
    have e1 : (v != 0) = true := by rw [bne_iff_ne]; exact hs
    have Hs := Lib.hid hs
    clear hs
    go_enter Try.func22, Try.ntmps22
    go_wp2_with fail
    refine HS.out.mono ?_
    rintro e w2 ⟨rfl, hb⟩
    dsimp only
    have Hb := Lib.hid hb
    clear hb HS
    go_wp2
    refine bodyPost_ret (v := .tuple #[.slice none 0 0, .int .i64 v]) (by simp [results, Try.results22, go_sem]) rfl ?_
    exact ⟨Hb.out, .inr ⟨Hs.out, rfl⟩⟩

/-- The determinant, from the characteristic polynomial. -/
def detC (n : Nat) (A : Nat → Nat → Int) : Int := if n % 2 = 1 then -chrP n A n 0 else chrP n A n 0
theorem chrP_zero {n : Nat} (h : 0 < n) (A : Nat → Nat → Int) : chrP n A n 0 = chrC n A (n - 1) := by
  unfold chrP
  rw [if_neg (by omega), if_pos (by omega)]
  rfl
set_option maxRecDepth 100000 in
set_option maxHeartbeats 4000000 in
theorem det_any (m : GM) (p : Option Addr) (cp : Nat) (hf : m.Fit) (hok : m.sq = 0 → ChrOk m.r m.F) (w : World) (hm : m.At w p) :
    Calls Try.prog 18 #[.slice p m.r cp] w (RetNumE m.sq (detC m.r m.F) w) := by
  have HS := Lib.hid (fun (W : World) (hW : Below w.heap.size w W) => square_any m p cp hf W (hm.below (Nat.le_refl _) hW))
  by_cases hs : m.sq = 0
  · obtain ⟨h1, h2, h3, h4⟩ := GM.sq_zero hs
    have hM := GM.mat hm h1
    rw [← h2] at hM
    have HC := Lib.hid (fun (W : World) (hW : Below w.heap.size w W) => chr_any m.r p cp m.F h3 (by omega) W (hM.below (Nat.le_refl _) hW) (hok hs))
    have HN := Lib.hid (negc_any (chrP m.r m.F m.r 0) (by rw [chrP_zero h3]; exact (hok hs).c (m.r - 1) (by omega)))
    rw [hs] at HS ⊢
    have hP0 : (0 : Int) < ((m.r + 1 : Nat) : Int) := by omega
    have HD : Hid (detC m.r m.F = if m.r % 2 = 1 then -chrP m.r m.F m.r 0 else chrP m.r m.F m.r 0) := Lib.hid rfl
    clear hs h1 h2 hM hok hf hm
    generalize hd : detC m.r m.F = D at *
    clear hd
    have hbx := BoxAt.new w (.bool false) (.string ⟨#[]⟩) 27
    have hb0 : Below w.heap.size w (w.alloc (.cells #[.bool false, .string ⟨#[]⟩] 27)) := (Below.refl _ w).alloc (Nat.le_refl _) _
    have hs0 : w.heap.size < (w.alloc (.cells #[.bool false, .string ⟨#[]⟩] 27)).heap.size := by simp
    have HS := Lib.hid (HS.out _ hb0)
    have Hb0 := Lib.hid hb0
    have Hbx := Lib.hid hbx
    clear hb0 hbx
    by_cases hp : m.r % 2 = 1
    · have ep : ((m.r : Int) % 2 == 1) = true := by rw [beq_iff_eq]; omega
      rw [if_pos hp] at HD
      generalize hG : chrP m.r m.F m.r = G at *
      go_enter Try.func18, Try.ntmps18
      go_wp2_with fail
      refine HS.out.mono ?_
      rintro e w2 ⟨rfl, hb⟩
      dsimp only
      have Hbx2 := Lib.hid (Hbx.out.below hb hs0)
      have Hb := Lib.hid (Hb0.out.trans (hb.mono Hb0.out.size))
      clear hb HS Hbx
      go_wp2_with fail
      refine (HC.out w2 Hb.out).mono ?_
      rintro e w3 ⟨g, q, rfl, hz, _, hb3⟩
      dsimp only
      rw [hG] at hz
      have hbx3 := Hbx2.out.below hb3 Hbx2.out.2.2.2.2
      have Hb3 := Lib.hid (Hb.out.trans (hb3.mono Hb.out.size))
      obtain ⟨⟨z0, z1⟩, _⟩ := hz.2 0 (by omega)
      simp only [Nat.zero_mul, Nat.zero_add] at z0 z1
      clear hz hb3 HC Hbx2 hG hp
      have Hbx3 := Lib.hid hbx3
      clear hbx3
      go_wp2_with fail
      refine (HN.out w3).mono ?_
      rintro e w4 ⟨rfl, hb4⟩
      dsimp only
      have hbx4 := Hbx3.out.below hb4 Hbx3.out.2.2.2.2
      have hb5 := Hb3.out.trans (hb4.mono Hb3.out.size)
      clear hb4
      obtain ⟨c0, c1, f0, f1, hl⟩ := hbx4
      generalize hXe : canon (-G 0) = X at *
      go_wp2
      refine bodyPost_ret (v := .tuple #[.agg #[.bool (X).neg, .string (X).mag], .int .i64 0]) (by simp [results, Try.results18, go_sem, c0, c1]) rfl ?_
      exact ⟨(hb5.setCell (by simp) _).setCell (by simp) _, .inl ⟨rfl, by rw [HD.out, hXe]⟩⟩
    · have ep : ((m.r : Int) % 2 == 1) = false := by rw [beq_eq_false_iff_ne]; omega
      rw [if_neg hp] at HD
      generalize hG : chrP m.r m.F m.r = G at *
      go_enter Try.func18, Try.ntmps18
      go_wp2_with fail
      refine HS.out.mono ?_
      rintro e w2 ⟨rfl, hb⟩
      dsimp only
      have Hbx2 := Lib.hid (Hbx.out.below hb hs0)
      have Hb := Lib.hid (Hb0.out.trans (hb.mono Hb0.out.size))
      clear hb HS Hbx
      go_wp2_with fail
      refine (HC.out w2 Hb.out).mono ?_
      rintro e w3 ⟨g, q, rfl, hz, _, hb3⟩
      dsimp only
      rw [hG] at hz
      have hbx3 := Hbx2.out.below hb3 Hbx2.out.2.2.2.2
      have Hb3 := Lib.hid (Hb.out.trans (hb3.mono Hb.out.size))
      obtain ⟨⟨z0, z1⟩, _⟩ := hz.2 0 (by omega)
      simp only [Nat.zero_mul, Nat.zero_add] at z0 z1
      clear hz hb3 HC Hbx2 hG hp
      obtain ⟨c0, c1, f0, f1, hl⟩ := hbx3
      go_wp2
      refine bodyPost_ret (v := .tuple #[.agg #[.bool (canon (G 0)).neg, .string (canon (G 0)).mag], .int .i64 0]) (by simp [results, Try.results18, go_sem, c0, c1]) rfl ?_
      exact ⟨(Hb3.out.setCell (by simp) _).setCell (by simp) _, .inl ⟨rfl, by rw [HD.out]⟩⟩
  · have e1 : (m.sq != 0) = true := by rw [bne_iff_ne]; exact hs
    clear hok hf hm
    generalize m.sq = v at *
    generalize m.F = F at *
    generalize m.r = r at *
    have Hs := Lib.hid hs
    clear hs
    have hbx := BoxAt.new w (.bool false) (.string ⟨#[]⟩) 27
    have hb0 : Below w.heap.size w (w.alloc (.cells #[.bool false, .string ⟨#[]⟩] 27)) := (Below.refl _ w).alloc (Nat.le_refl _) _
    have hs0 : w.heap.size < (w.alloc (.cells #[.bool false, .string ⟨#[]⟩] 27)).heap.size := by simp
    have HS := Lib.hid (HS.out _ hb0)
    have Hb0 := Lib.hid hb0
    have Hbx := Lib.hid hbx
    clear hb0 hbx
    go_enter Try.func18, Try.ntmps18
    go_wp2_with fail
    refine HS.out.mono ?_
    rintro e w2 ⟨rfl, hb⟩
    dsimp only
    have hbx2 := Hbx.out.below hb hs0
    have Hb := Lib.hid (Hb0.out.trans (hb.mono Hb0.out.size))
    clear hb HS Hbx
    obtain ⟨c0, c1, f0, f1, hl⟩ := hbx2
    go_wp2
    refine bodyPost_ret (v := .tuple #[.agg #[.bool false, .string ⟨#[]⟩], .int .i64 v]) (by simp [results, Try.results18, go_sem, c0, c1]) rfl ?_
    exact ⟨(Hb.out.setCell (by simp) _).setCell (by simp) _, .inr ⟨Hs.out, rfl⟩⟩
end Go.Proofs.Ytlkoiekdafaapaa
