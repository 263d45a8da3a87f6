/- The walks of matrix.Characteristic and Det. The walks of matrix.Adjugate and Transpose. The walks of matrix.Mul and Add. The walk of matrix.Transpose. The walk of matrix.Apply. -/
import Derived.Test.YtlaoijfphkhchaaB23
namespace Go.Proofs.Ytlaoijfphkhchaa
open Go.RowKit Go.Shelf

/-- A matrix and an error, or nil and an error. -/
def RetMatE (v : Int) (r c : Nat) (F : Nat → Nat → Int) (w : World) (e : Ending) (w' : World) : Prop :=
  Below w.heap.size w w' ∧ ((v = 0 ∧ ∃ q k, e = .returned (.tuple #[.slice q r k, .int .i64 0]) ∧ MatF w' q r c F) ∨ (v ≠ 0 ∧ e = .returned (.tuple #[.slice none 0 0, .int .i64 v])))
def RetRowE (v : Int) (n : Nat) (f : Nat → Int) (w : World) (e : Ending) (w' : World) : Prop :=
  Below w.heap.size w w' ∧ ((v = 0 ∧ ∃ q k, e = .returned (.tuple #[.slice q n k, .int .i64 0]) ∧ RowF w' q n f) ∨ (v ≠ 0 ∧ e = .returned (.tuple #[.slice none 0 0, .int .i64 v])))
def RetNumE (v : Int) (n : Int) (w : World) (e : Ending) (w' : World) : Prop :=
  Below w.heap.size w w' ∧ ((v = 0 ∧ e = .returned (.tuple #[.agg #[.bool (canon n).neg, .string (canon n).mag], .int .i64 0])) ∨ (v ≠ 0 ∧ e = .returned (.tuple #[.agg #[.bool false, .string ⟨#[]⟩], .int .i64 v])))
theorem GM.sq_zero {m : GM} (h : m.sq = 0) : m.chk = 0 ∧ m.r = m.L 0 ∧ 0 < m.r ∧ m.r ≤ 32 := by
  unfold GM.sq at h
  split at h
  · cases h
  split at h
  · cases h
  · rename_i h1 h2
    have h1 : m.chk = 0 := by omega
    have := GM.chk_zero h1
    exact ⟨h1, by omega, this.1, this.2.2.1⟩

set_option maxRecDepth 100000 in
set_option maxHeartbeats 4000000 in
theorem charac_any (m : GM) (p : Option Addr) (cp : Nat) (hf : m.Fit) (hok : m.sq = 0 → ChrOk m.r m.F) (w : World) (hm : m.At w p) :
    Calls Try.prog 41 #[.slice p m.r cp] w (RetRowE m.sq (m.r + 1) (chrP m.r m.F m.r) w) := by
  have HS := Lib.hid (square_any m p cp hf w hm)
  by_cases hs : m.sq = 0
  · obtain ⟨h1, h2, h3, h4⟩ := GM.sq_zero hs
    have hM := GM.mat hm h1
    rw [← h2] at hM
    have HC := Lib.hid (fun (W : World) (hW : Below w.heap.size w W) => chr_any m.r p cp m.F h3 (by omega) W (hM.below (Nat.le_refl _) hW) (hok hs))
    rw [hs] at HS ⊢
    clear hs h1 h2 h4 hM hok hf hm
    go_enter Try.func41, Try.ntmps41
    go_wp2_with fail
    refine HS.out.mono ?_
    rintro e w2 ⟨rfl, hb⟩
    dsimp only
    have Hb := Lib.hid hb
    clear hb HS
    go_wp2_with fail
    refine (HC.out w2 Hb.out).mono ?_
    rintro e w3 ⟨g, q, rfl, hz, _, hb3⟩
    dsimp only
    have Hb3 := Lib.hid (Hb.out.trans (hb3.mono Hb.out.size))
    have Hz := Lib.hid hz
    clear hb3 hz HC
    go_wp2
    refine bodyPost_ret (v := .tuple #[.slice (some ⟨g, 0, none⟩) (m.r + 1) (m.r + 1), .int .i64 0]) (by simp [results, Try.results41, go_sem]) rfl ?_
    exact ⟨Hb3.out, .inl ⟨rfl, _, _, rfl, Hz.out.row⟩⟩
  · clear hok hf hm
    generalize m.sq = v at *
    generalize m.F = F at *
    generalize m.r = r at *
    have e1 : (v != 0) = true := by rw [bne_iff_ne]; exact hs
    have Hs := Lib.hid hs
    clear hs
    go_enter Try.func41, Try.ntmps41
    go_wp2_with fail
    refine HS.out.mono ?_
    rintro e w2 ⟨rfl, hb⟩
    dsimp only
    have Hb := Lib.hid hb
    clear hb HS
    go_wp2
    refine bodyPost_ret (v := .tuple #[.slice none 0 0, .int .i64 v]) (by simp [results, Try.results41, go_sem]) rfl ?_
    exact ⟨Hb.out, .inr ⟨Hs.out, rfl⟩⟩

/-- The determinant, from the characteristic polynomial. -/
def detC (n : Nat) (A : Nat → Nat → Int) : Int := if n % 2 = 1 then -chrP n A n 0 else chrP n A n 0
theorem chrP_zero {n : Nat} (h : 0 < n) (A : Nat → Nat → Int) : chrP n A n 0 = chrC n A (n - 1) := by
  unfold chrP
  rw [if_neg (by omega), if_pos (by omega)]
  rfl
end Go.Proofs.Ytlaoijfphkhchaa

namespace Go.Proofs.Ytlaoijfphkhchaa
open Go.RowKit Go.Shelf

set_option maxRecDepth 100000 in
set_option maxHeartbeats 4000000 in
theorem adj1_any (r c i k g : Nat) (p : Option Addr) (cp : Nat) (F : Nat → Nat → Int) (hi : i < r) (hk : k < c) (w : World) (ha : w.cell? ⟨g, 0, none⟩ = some (.slice p r cp)) (hF : MatF w p r c F) (hs : Small r c F) :
    Calls Try.prog 95 #[.int .i64 (i : Int), .int .i64 (k : Int), .pointer (some ⟨g, 0, none⟩)] w (RetZ (canon (-F i k)) w) := by
  obtain ⟨fb, fo, rfl, _, H, hH, hR⟩ := hF.cells hi
  have a2 := hH i hi
  obtain ⟨ab, ao, hpe, _, hac⟩ := (hR i hi).cells hk
  rw [hpe] at a2
  obtain ⟨a3, a4⟩ := hac k hk
  have HN := Lib.hid (negc_any (F i k) (hs i k hi hk))
  have i0 : (0 : Int) ≤ (i : Int) := by omega
  have i1 : (i : Int) < (r : Int) := by omega
  have k0 : (0 : Int) ≤ (k : Int) := by omega
  have k1 : (k : Int) < (c : Int) := by omega
  have l1 : g < w.heap.size := World.block_lt_of_cell? w _ ha
  have l2 : fb < w.heap.size := World.block_lt_of_cell? w _ a2
  have l3 : ab < w.heap.size := World.block_lt_of_cell? w _ a3
  generalize canon (F i k) = X at *
  obtain ⟨Z, hZ⟩ : ∃ Z, canon (-F i k) = Z := ⟨_, rfl⟩
  rw [hZ] at HN ⊢
  clear hZ hac hpe hH hR hF hs
  go_enter Try.func95, Try.ntmps95
  go_wp2_with fail
  have hA0 := BoxAt.new w (.bool false) (.string ⟨#[]⟩) 28
  have hb0 := (Below.refl w.heap.size w).alloc (Nat.le_refl _) (.cells #[.bool false, .string ⟨#[]⟩] 28)
  refine (HN.out _).mono ?_
  rintro e w2 ⟨rfl, hb2⟩
  dsimp only
  have hA2 := hA0.below hb2 hA0.2.2.2.2
  have hb3 := hb0.trans (hb2.mono (by simp))
  clear hb2 hb0 hA0
  obtain ⟨c0, c1, f0, f1, hl⟩ := hA2
  go_wp2
  refine bodyPost_ret (v := .agg #[.bool Z.neg, .string Z.mag]) (by simp [results, Try.results95, go_sem, c0, c1]) rfl ⟨rfl, ?_⟩
  exact (hb3.setCell (by simp) _).setCell (by simp) _

/-- The adjugate, from the last of the matrices. -/
def adjC (n : Nat) (A : Nat → Nat → Int) (i k : Nat) : Int := if n % 2 = 0 then -chrM n A (n - 1) i k else chrM n A (n - 1) i k
set_option maxRecDepth 100000 in
set_option maxHeartbeats 4000000 in
theorem adj_any (m : GM) (p : Option Addr) (cp : Nat) (hf : m.Fit) (hok : m.sq = 0 → ChrOk m.r m.F) (w : World) (hm : m.At w p) :
    Calls Try.prog 68 #[.slice p m.r cp] w (RetMatE m.sq m.r m.r (adjC m.r m.F) w) := by
  have HS := Lib.hid (square_any m p cp hf w hm)
  by_cases hs : m.sq = 0
  · obtain ⟨h1, h2, h3, h4⟩ := GM.sq_zero hs
    have hM := GM.mat hm h1
    rw [← h2] at hM
    have HC := Lib.hid (fun (W : World) (hW : Below w.heap.size w W) => chr_any m.r p cp m.F h3 (by omega) W (hM.below (Nat.le_refl _) hW) (hok hs))
    have hsm : Small m.r m.r (chrM m.r m.F (m.r - 1)) := (hok hs).m (m.r - 1) (by omega)
    rw [hs] at HS ⊢
    have HD : Hid (∀ i k, adjC m.r m.F i k = if m.r % 2 = 0 then -chrM m.r m.F (m.r - 1) i k else chrM m.r m.F (m.r - 1) i k) := Lib.hid (fun _ _ => rfl)
    clear hs h1 h2 hM hok hf hm
    generalize adjC m.r m.F = D at *
    obtain ⟨M, hMM⟩ : ∃ M, chrM m.r m.F (m.r - 1) = M := ⟨_, rfl⟩
    rw [hMM] at HD hsm
    have HM := Lib.hid hMM
    clear hMM
    have HT := Lib.hid (fun (W : World) (g q : Nat) (hg : W.cell? ⟨g, 0, none⟩ = some (.slice (some ⟨q, 0, none⟩) m.r m.r)) (hq : MatF W (some ⟨q, 0, none⟩) m.r m.r M) => table_any m.r m.r (by omega) (by omega) 95 #[.pointer (some ⟨g, 0, none⟩)] (fun i k => -M i k) W (enters_of Try.func95 (by kernel_rfl) rfl) (fun i k V hi hk hV =>
      adj1_any m.r m.r i k g (some ⟨q, 0, none⟩) m.r M hi hk V (cell_below hV hg) (hq.below (Nat.le_refl _) hV) hsm))
    clear hsm
    by_cases hp : m.r % 2 = 0
    · have ep : ((m.r : Int) % 2 == 0) = true := by rw [beq_iff_eq]; omega
      have HD : Hid (∀ i k, D i k = -M i k) := Lib.hid (fun i k => by rw [HD.out i k, if_pos hp])
      clear hp
      go_enter Try.func68, Try.ntmps68
      go_wp2_with fail
      refine HS.out.mono ?_
      rintro e w2 ⟨rfl, hb⟩
      dsimp only
      have Hb := Lib.hid hb
      clear hb HS
      go_wp2_with fail
      refine (HC.out w2 Hb.out).mono ?_
      rintro e w3 ⟨g, q, rfl, _, hown, hb3⟩
      dsimp only
      rw [HM.out] at hown
      have Hb3 := Lib.hid (Hb.out.trans (hb3.mono Hb.out.size))
      have Ho := Lib.hid hown
      clear hb3 HC hown
      go_wp2_with fail
      have hbx : Boxed (w3.alloc (.cells #[.slice (some ⟨q, 0, none⟩) m.r m.r] 63)) w3.heap.size 63 (.slice (some ⟨q, 0, none⟩) m.r m.r) := Boxed.new w3 63 _
      have hb4 : Below w3.heap.size w3 (w3.alloc (.cells #[.slice (some ⟨q, 0, none⟩) m.r m.r] 63)) := (Below.refl _ _).alloc (Nat.le_refl _) _
      refine (HT.out _ w3.heap.size q hbx.cell ((Ho.out.call hb4).mat)).mono ?_
      rintro e w4 ⟨g2, rfl, hown2, hb5⟩
      dsimp only
      have c0 := (hb5.cell (p := ⟨w3.heap.size, 0, none⟩) (by simp)).trans hbx.cell
      have f0 := (hb5.frozen (p := ⟨w3.heap.size, 0, none⟩) (by simp)).trans hbx.frozen
      have Hw4 := Lib.hid (Hb3.out.trans ((hb4.trans (hb5.mono (by simp))).mono Hb3.out.size))
      have hl : w.heap.size ≤ w3.heap.size := Hb3.out.size
      have Hown2 := Lib.hid (hown2.other ⟨w3.heap.size, 0, none⟩ (.slice (some ⟨g2, 0, none⟩) m.r m.r) (by simp))
      clear hbx hb4 hb5 hown2 HT
      go_wp2
      refine bodyPost_ret (v := .tuple #[.slice (some ⟨g2, 0, none⟩) m.r m.r, .int .i64 0]) (by simp [results, Try.results68, go_sem]) rfl ?_
      exact ⟨Hw4.out.setCell hl _, .inl ⟨rfl, _, _, rfl, Hown2.out.mat.congr fun i k _ _ => (HD.out i k).symm⟩⟩
    · have ep : ((m.r : Int) % 2 == 0) = false := by rw [beq_eq_false_iff_ne]; omega
      have HD : Hid (∀ i k, D i k = M i k) := Lib.hid (fun i k => by rw [HD.out i k, if_neg hp])
      clear hp HT
      go_enter Try.func68, Try.ntmps68
      go_wp2_with fail
      refine HS.out.mono ?_
      rintro e w2 ⟨rfl, hb⟩
      dsimp only
      have Hb := Lib.hid hb
      clear hb HS
      go_wp2_with fail
      refine (HC.out w2 Hb.out).mono ?_
      rintro e w3 ⟨g, q, rfl, _, hown, hb3⟩
      dsimp only
      rw [HM.out] at hown
      have Hb3 := Lib.hid (Hb.out.trans (hb3.mono Hb.out.size))
      have Ho := Lib.hid hown
      clear hb3 HC hown
      go_wp2
      refine bodyPost_ret (v := .tuple #[.slice (some ⟨q, 0, none⟩) m.r m.r, .int .i64 0]) (by simp [results, Try.results68, go_sem]) rfl ?_
      have hb4 : Below w3.heap.size w3 (w3.alloc (.cells #[.slice (some ⟨q, 0, none⟩) m.r m.r] 63)) := (Below.refl _ _).alloc (Nat.le_refl _) _
      exact ⟨Hb3.out.trans (hb4.mono Hb3.out.size), .inl ⟨rfl, _, _, rfl, (Ho.out.call hb4).mat.congr fun i k _ _ => (HD.out i k).symm⟩⟩
  · clear hok hf hm
    generalize m.sq = v at *
    generalize m.F = F at *
    generalize m.r = r at *
    have e1 : (v != 0) = true := by rw [bne_iff_ne]; exact hs
    have Hs := Lib.hid hs
    clear hs
    go_enter Try.func68, Try.ntmps68
    go_wp2_with fail
    refine HS.out.mono ?_
    rintro e w2 ⟨rfl, hb⟩
    dsimp only
    have Hb := Lib.hid hb
    clear hb HS
    go_wp2
    refine bodyPost_ret (v := .tuple #[.slice none 0 0, .int .i64 v]) (by simp [results, Try.results68, go_sem]) rfl ?_
    exact ⟨Hb.out, .inr ⟨Hs.out, rfl⟩⟩

set_option maxRecDepth 100000 in
set_option maxHeartbeats 4000000 in
theorem identity_any (n : Int) (w : World) :
    Calls Try.prog 81 #[.int .i64 n] w (RetMatE (if n < 1 ∨ 32 < n then 2 else 0) n.toNat n.toNat (fun i k => if i = k then 1 else 0) w) := by
  by_cases h1 : n < 1
  · rw [if_pos (.inl h1)]
    go_enter Try.func81, Try.ntmps81
    go_wp2
    refine bodyPost_ret (v := .tuple #[.slice none 0 0, .int .i64 2]) (by simp [results, Try.results81, go_sem]) rfl ?_
    exact ⟨Below.refl _ _, .inr ⟨by decide, rfl⟩⟩
  by_cases h2 : 32 < n
  · rw [if_pos (.inr h2)]
    have h2' : n > 32 := h2
    go_enter Try.func81, Try.ntmps81
    go_wp2
    refine bodyPost_ret (v := .tuple #[.slice none 0 0, .int .i64 2]) (by simp [results, Try.results81, go_sem]) rfl ?_
    exact ⟨Below.refl _ _, .inr ⟨by decide, rfl⟩⟩
  rw [if_neg (by omega)]
  obtain ⟨N, rfl⟩ : ∃ N : Nat, n = N := ⟨n.toNat, by omega⟩
  have h2' : ¬ (N : Int) > 32 := h2
  have HO := Lib.hid (fun W => of_any 1 (by omega) (by omega) W)
  have HS := Lib.hid (fun W => scalar_any 1 N (by omega) W)
  rw [Int.toNat_natCast]
  go_enter Try.func81, Try.ntmps81
  go_wp2_with fail
  refine (HO.out _).mono ?_
  rintro e w2 ⟨rfl, hb2⟩
  dsimp only
  have Hb := Lib.hid hb2
  clear hb2 HO
  go_wp2_with fail
  refine (HS.out _).mono ?_
  rintro e w3 ⟨g, rfl, hown, hb3⟩
  dsimp only
  have Hb3 := Lib.hid (Hb.out.trans (hb3.mono Hb.out.size))
  have Ho := Lib.hid hown.mat
  clear hb3 hown HS
  go_wp2
  refine bodyPost_ret (v := .tuple #[.slice (some ⟨g, 0, none⟩) N N, .int .i64 0]) (by simp [results, Try.results81, go_sem]) rfl ?_
  exact ⟨Hb3.out, .inl ⟨rfl, _, _, rfl, Ho.out⟩⟩
end Go.Proofs.Ytlaoijfphkhchaa

namespace Go.Proofs.Ytlaoijfphkhchaa
open Go.RowKit Go.Shelf

theorem bad2 (a b : GM) (p q : Option Addr) (cp cq : Nat) (hfa : a.Fit) (hfb : b.Fit) (w : World) (ha : a.At w p) (hb : b.At w q) (W : World) (g : Nat) (hW : Below w.heap.size w W) (h0 : W.cell? ⟨g, 0, none⟩ = some (.slice p a.r cp)) (h1 : W.cell? ⟨g, 1, none⟩ = some (.slice q b.r cq)) :
    Calls Try.prog 102 #[.slice (some ⟨g, 0, none⟩) 2 2] W (RetB (a.chk != 0 || b.chk != 0) W) := by
  have h := bad_any 2 (some ⟨g, 0, none⟩) 2 (fun k => if k = 0 then a else b) (fun k => if k = 0 then p else q) (fun k => if k = 0 then cp else cq) (by omega) (fun k hk => by split <;> assumption) W (.inr ⟨g, 0, rfl, World.block_lt_of_cell? W _ h0, fun i hi j hj => by
    have e2 : j = 0 := by omega
    subst e2
    have : i = 0 ∨ i = 1 := by omega
    rcases this with rfl | rfl
    · simpa using h0
    · simpa using h1⟩) (fun k hk => by
      split
      · exact ha.below (Nat.le_refl _) hW
      · exact hb.below (Nat.le_refl _) hW)
  simpa [anyN] using h
theorem below_drN {B : Nat} {w w' : World} (h : Below B w w') (k : Nat) : Below B w (w'.drewN k) := by
  exact below_dr h
def mulE (a b : GM) : Int := if (a.chk != 0 || b.chk != 0) = true then 1 else if a.L 0 ≠ b.r then 11 else 0
theorem mulE_zero {a b : GM} (h : mulE a b = 0) : a.chk = 0 ∧ b.chk = 0 ∧ a.L 0 = b.r := by
  unfold mulE at h
  split at h
  · cases h
  · rename_i h1
    split at h
    · cases h
    · rename_i h2
      simp at h1
      exact ⟨h1.1, h1.2, by omega⟩
set_option maxRecDepth 100000 in
set_option maxHeartbeats 4000000 in
theorem mul_m (a b : GM) (p q : Option Addr) (cp cq : Nat) (hfa : a.Fit) (hfb : b.Fit) (hok : mulE a b = 0 → Small a.r b.r a.F ∧ Small b.r (b.L 0) b.F ∧ SmallP a.r b.r (b.L 0) a.F b.F) (w : World) (ha : a.At w p) (hb : b.At w q) :
    Calls Try.prog 83 #[.slice p a.r cp, .slice q b.r cq] w (RetMatE (mulE a b) a.r (b.L 0) (mulF b.r a.F b.F) w) := by
  have HB := Lib.hid (bad2 a b p q cp cq hfa hfb w ha hb)
  by_cases hz : (a.chk != 0 || b.chk != 0) = true
  · have hv : mulE a b = 1 := if_pos hz
    rw [hv]
    rw [hz] at HB
    clear hz hv hok hfa hfb ha hb
    generalize b.L 0 = l at *
    generalize mulF b.r a.F b.F = D at *
    generalize a.r = r at *
    generalize b.r = n at *
    go_enter Try.func83, Try.ntmps83
    go_wp2_with fail
    refine (HB.out _ w.heap.size ((Below.refl _ w).alloc (Nat.le_refl _) _) (by simp) (by simp)).mono ?_
    rintro e w2 ⟨rfl, hb2⟩
    dsimp only
    have Hb := Lib.hid (((Below.refl _ w).alloc (Nat.le_refl _) _).trans (hb2.mono (by simp)))
    clear hb2 HB
    go_wp2
    refine bodyPost_ret (v := .tuple #[.slice none 0 0, .int .i64 1]) (by simp [results, Try.results83, go_sem]) rfl ?_
    exact ⟨Hb.out, .inr ⟨by decide, rfl⟩⟩
  · have hz2 : (a.chk != 0 || b.chk != 0) = false := by simpa using hz
    rw [hz2] at HB
    have hca : a.chk = 0 := by simp at hz2; exact hz2.1
    have hcb : b.chk = 0 := by simp at hz2; exact hz2.2
    have hMa := GM.mat ha hca
    have hMb := GM.mat hb hcb
    have hra := GM.chk_zero hca
    have hrb := GM.chk_zero hcb
    obtain ⟨bl, off, q1, c1, hpe, hbl, a0⟩ := GM.head ha hra.1
    have hv : mulE a b = if a.L 0 ≠ b.r then 11 else 0 := if_neg hz
    have r0 : (0 : Int) < (a.r : Int) := by omega
    by_cases hl : a.L 0 = b.r
    · have hv0 : mulE a b = 0 := by rw [hv, if_neg (by omega)]
      have e1 : ((a.L 0 : Int) != (b.r : Int)) = false := by rw [hl, bne_self_eq_false]
      obtain ⟨s1, s2, s3⟩ := hok hv0
      rw [hl] at hMa
      have HP := Lib.hid (fun (W : World) (hW : Below w.heap.size w W) => product_any a.r b.r (b.L 0) p q cp cq a.F b.F (by omega) (by omega) (by omega) (by omega) W (hMa.below (Nat.le_refl _) hW) (hMb.below (Nat.le_refl _) hW) s1 s2 s3)
      rw [hv0]
      clear hv0 hv hl s1 s2 s3 hra hrb hMa hMb hca hcb hz hz2 hok hfa hfb ha hb
      generalize b.L 0 = l at *
      generalize a.L 0 = la at *
      generalize mulF b.r a.F b.F = D at *
      generalize a.r = r at *
      generalize b.r = n at *
      subst hpe
      go_enter Try.func83, Try.ntmps83
      go_wp2_with fail
      refine (HB.out _ w.heap.size ((Below.refl _ w).alloc (Nat.le_refl _) _) (by simp) (by simp)).mono ?_
      rintro e w2 ⟨rfl, hb2⟩
      dsimp only
      have hb3 := ((Below.refl w.heap.size w).alloc (Nat.le_refl _) (.cells #[.slice (some ⟨bl, off, none⟩) r cp, .slice q n cq] 63)).trans (hb2.mono (by simp))
      have Hb := Lib.hid hb3
      have a2 := cell_below hb3 a0
      clear hb2 hb3 HB a0
      go_wp2_with fail
      refine (HP.out w2 Hb.out).mono ?_
      rintro e w3 ⟨g, rfl, hown, hb3⟩
      dsimp only
      have Hb3 := Lib.hid (Hb.out.trans (hb3.mono Hb.out.size))
      have Ho := Lib.hid hown.mat
      clear hb3 hown HP
      go_wp2
      refine bodyPost_ret (v := .tuple #[.slice (some ⟨g, 0, none⟩) r r, .int .i64 0]) (by simp [results, Try.results83, go_sem]) rfl ?_
      exact ⟨Hb3.out, .inl ⟨rfl, _, _, rfl, Ho.out⟩⟩
    · have hv0 : mulE a b = 11 := by rw [hv, if_pos hl]
      have e1 : ((a.L 0 : Int) != (b.r : Int)) = true := by rw [bne_iff_ne]; omega
      rw [hv0]
      clear hv0 hv hl hra hrb hMa hMb hca hcb hz hz2 hok hfa hfb ha hb
      generalize b.L 0 = l at *
      generalize a.L 0 = la at *
      generalize mulF b.r a.F b.F = D at *
      generalize a.r = r at *
      generalize b.r = n at *
      subst hpe
      go_enter Try.func83, Try.ntmps83
      go_wp2_with fail
      refine (HB.out _ w.heap.size ((Below.refl _ w).alloc (Nat.le_refl _) _) (by simp) (by simp)).mono ?_
      rintro e w2 ⟨rfl, hb2⟩
      dsimp only
      have hb3 := ((Below.refl w.heap.size w).alloc (Nat.le_refl _) (.cells #[.slice (some ⟨bl, off, none⟩) r cp, .slice q n cq] 63)).trans (hb2.mono (by simp))
      have Hb := Lib.hid hb3
      have a2 := cell_below hb3 a0
      clear hb2 hb3 HB a0
      go_wp2
      refine bodyPost_ret (v := .tuple #[.slice none 0 0, .int .i64 11]) (by simp [results, Try.results83, go_sem]) rfl ?_
      exact ⟨Hb.out, .inr ⟨by decide, rfl⟩⟩
def addE (a b : GM) : Int := if (a.chk != 0 || b.chk != 0) = true then 1 else if ¬(a.r = b.r ∧ a.L 0 = b.L 0) then 11 else 0
theorem addE_zero {a b : GM} (h : addE a b = 0) : a.chk = 0 ∧ b.chk = 0 ∧ a.r = b.r ∧ a.L 0 = b.L 0 := by
  unfold addE at h
  split at h
  · cases h
  · rename_i h1
    split at h
    · cases h
    · rename_i h2
      simp at h1
      exact ⟨h1.1, h1.2, by omega, by omega⟩
end Go.Proofs.Ytlaoijfphkhchaa

namespace Go.Proofs.Ytlaoijfphkhchaa
open Go.RowKit Go.Shelf

def trE (a : GM) : Int := if a.chk ≠ 0 then 1 else 0
theorem bad1m (a : GM) (p : Option Addr) (cp : Nat) (hfa : a.Fit) (w : World) (ha : a.At w p) (W : World) (g : Nat) (hW : Below w.heap.size w W) (h0 : W.cell? ⟨g, 0, none⟩ = some (.slice p a.r cp)) :
    Calls Try.prog 102 #[.slice (some ⟨g, 0, none⟩) 1 1] W (RetB (a.chk != 0) W) := by
  have h := bad_any 1 (some ⟨g, 0, none⟩) 1 (fun _ => a) (fun _ => p) (fun _ => cp) (by omega) (fun k hk => hfa) W (.inr ⟨g, 0, rfl, World.block_lt_of_cell? W _ h0, fun i hi j hj => by
    have e1 : i = 0 := by omega
    have e2 : j = 0 := by omega
    subst e1; subst e2
    simpa using h0⟩) (fun k hk => ha.below (Nat.le_refl _) hW)
  simpa [anyN] using h
end Go.Proofs.Ytlaoijfphkhchaa

namespace Go.Proofs.Ytlaoijfphkhchaa
open Go.RowKit Go.Shelf

def applyE (a : GM) (n : Nat) (Z : Nat → ZI) : Int := if (a.chk != 0 || anyN (fun k => !okZ (Z k)) n) = true then 1 else if n ≠ a.L 0 then 11 else 0
theorem applyE_zero {a : GM} {n : Nat} {Z : Nat → ZI} (h : applyE a n Z = 0) : a.chk = 0 ∧ n = a.L 0 ∧ ∀ k, k < n → Z k = canon (valZ (Z k)) := by
  unfold applyE at h
  split at h
  · cases h
  · rename_i h1
    split at h
    · cases h
    · rename_i h2
      rw [Bool.not_eq_true, Bool.or_eq_false_iff, anyN_false] at h1
      exact ⟨by simpa using h1.1, by omega, fun k hk => by simpa [okZ] using h1.2 k hk⟩
/-- Within Apply: i rows are done, and k numbers of the next one. -/
structure ApI (w wr : World) (g r n i k : Nat) (F : Nat → Nat → Int) (V : Nat → Int) : Prop where
  below : Below w.heap.size w wr
  cur : ZAt wr g r (fun m => if m < i then dotN (fun j => F m j * V j) n else if m = i then dotN (fun j => F i j * V j) k else 0)
  low : w.heap.size ≤ g
theorem ApI.start (w wr : World) (hb : Below w.heap.size w wr) (r n : Nat) (t : TypeId) (F : Nat → Nat → Int) (V : Nat → Int) : ApI w (wr.alloc (.cells (madeCells #[.bool false, .string ⟨#[]⟩] (r * 2)) t)) wr.heap.size r n 0 0 F V :=
  ⟨hb.alloc hb.size _, (made_zero wr r t).congr fun k _ => by
    rw [if_neg (by omega)]
    split <;> rfl, hb.size⟩
theorem ApI.call {w wr wr' : World} {g r n i k : Nat} {F : Nat → Nat → Int} {V : Nat → Int} (h : ApI w wr g r n i k F V) (hb : Below wr.heap.size wr wr') : ApI w wr' g r n i k F V :=
  ⟨h.below.trans (hb.mono h.below.size), h.cur.below hb h.cur.1, h.low⟩
theorem ApI.put {w wr : World} {g r n i k : Nat} {F : Nat → Nat → Int} {V : Nat → Int} (h : ApI w wr g r n i k F V) :
    ApI w ((wr.setCell ⟨g, i * 2, none⟩ (.bool (canon (dotN (fun j => F i j * V j) (k + 1))).neg)).setCell ⟨g, i * 2 + 1, none⟩ (.string (canon (dotN (fun j => F i j * V j) (k + 1))).mag)) g r n i (k + 1) F V :=
  ⟨(h.below.setCell (by simpa using h.low) _).setCell (by simpa using h.low) _, (h.cur.set _).congr fun m _ => by
    by_cases e : m = i
    · subst e; simp
    · simp [e], h.low⟩
theorem ApI.leave {w wr : World} {g r n i : Nat} {F : Nat → Nat → Int} {V : Nat → Int} (h : ApI w wr g r n i n F V) : ApI w wr g r n (i + 1) 0 F V :=
  ⟨h.below, h.cur.congr fun m _ => by
    by_cases e : m = i
    · subst e; simp
    · by_cases e2 : m < i
      · rw [if_pos e2, if_pos (by omega)]
      · rw [if_neg e2, if_neg e, if_neg (by omega)]
        split <;> rfl, h.low⟩
end Go.Proofs.Ytlaoijfphkhchaa
