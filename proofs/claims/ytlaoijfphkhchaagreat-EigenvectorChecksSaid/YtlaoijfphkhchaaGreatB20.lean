/- The walks of matrix.Characteristic and Det. The walks of matrix.Adjugate and Transpose. The walks of matrix.Mul and Add. The walk of matrix.Transpose. The walk of matrix.Apply. capacity.check, Adjacency; top23Fine. counting.count: the numbers of paths, step by step. counting.Paths, From: the numbers of paths. -/
import Derived.Test.YtlaoijfphkhchaaGreatB19
import Derived.Test.YtlaoijfphkhchaaGreatB18
namespace Go.Proofs.YtlaoijfphkhchaaGreat
open Go.RowKit Go.Shelf

/-- A matrix and an error, or nil and an error. -/
def RetMatE (v : Int) (r c : Nat) (F : Nat → Nat → Int) (w : World) (e : Ending) (w' : World) : Prop :=
  Below w.heap.size w w' ∧ ((v = 0 ∧ ∃ q k, e = .returned (.tuple #[.slice q r k, .int .i64 0]) ∧ MatF w' q r c F) ∨ (v ≠ 0 ∧ e = .returned (.tuple #[.slice none 0 0, .int .i64 v])))
def RetRowE (v : Int) (n : Nat) (f : Nat → Int) (w : World) (e : Ending) (w' : World) : Prop :=
  Below w.heap.size w w' ∧ ((v = 0 ∧ ∃ q k, e = .returned (.tuple #[.slice q n k, .int .i64 0]) ∧ RowF w' q n f) ∨ (v ≠ 0 ∧ e = .returned (.tuple #[.slice none 0 0, .int .i64 v])))
def RetNumE (v : Int) (n : Int) (w : World) (e : Ending) (w' : World) : Prop :=
  Below w.heap.size w w' ∧ ((v = 0 ∧ e = .returned (.tuple #[.agg #[.bool (canon n).neg, .string (canon n).mag], .int .i64 0])) ∨ (v ≠ 0 ∧ e = .returned (.tuple #[.agg #[.bool false, .string ⟨#[]⟩], .int .i64 v])))
theorem GM.sq_zero {m : GM} (h : m.sq = 0) : m.chk = 0 ∧ m.r = m.L 0 ∧ 0 < m.r ∧ m.r ≤ 32 := by
  unfold GM.sq at h
  split at h
  · cases h
  split at h
  · cases h
  · rename_i h1 h2
    have h1 : m.chk = 0 := by omega
    have := GM.chk_zero h1
    exact ⟨h1, by omega, this.1, this.2.2.1⟩

/-- The determinant, from the characteristic polynomial. -/
def detC (n : Nat) (A : Nat → Nat → Int) : Int := if n % 2 = 1 then -chrP n A n 0 else chrP n A n 0
theorem chrP_zero {n : Nat} (h : 0 < n) (A : Nat → Nat → Int) : chrP n A n 0 = chrC n A (n - 1) := by
  unfold chrP
  rw [if_neg (by omega), if_pos (by omega)]
  rfl
end Go.Proofs.YtlaoijfphkhchaaGreat

namespace Go.Proofs.YtlaoijfphkhchaaGreat
open Go.RowKit Go.Shelf

set_option maxRecDepth 100000 in
set_option maxHeartbeats 4000000 in
theorem adj1_any (r c i k g : Nat) (p : Option Addr) (cp : Nat) (F : Nat → Nat → Int) (hi : i < r) (hk : k < c) (w : World) (ha : w.cell? ⟨g, 0, none⟩ = some (.slice p r cp)) (hF : MatF w p r c F) (hs : Small r c F) :
    Calls Tryz.prog 70 #[.int .i64 (i : Int), .int .i64 (k : Int), .pointer (some ⟨g, 0, none⟩)] w (RetZ (canon (-F i k)) w) := by
  obtain ⟨fb, fo, rfl, _, H, hH, hR⟩ := hF.cells hi
  have a2 := hH i hi
  obtain ⟨ab, ao, hpe, _, hac⟩ := (hR i hi).cells hk
  rw [hpe] at a2
  obtain ⟨a3, a4⟩ := hac k hk
  have HN := Lib.hid (negc_any (F i k) (hs i k hi hk))
  have i0 : (0 : Int) ≤ (i : Int) := by omega
  have i1 : (i : Int) < (r : Int) := by omega
  have k0 : (0 : Int) ≤ (k : Int) := by omega
  have k1 : (k : Int) < (c : Int) := by omega
  have l1 : g < w.heap.size := World.block_lt_of_cell? w _ ha
  have l2 : fb < w.heap.size := World.block_lt_of_cell? w _ a2
  have l3 : ab < w.heap.size := World.block_lt_of_cell? w _ a3
  generalize canon (F i k) = X at *
  obtain ⟨Z, hZ⟩ : ∃ Z, canon (-F i k) = Z := ⟨_, rfl⟩
  rw [hZ] at HN ⊢
  clear hZ hac hpe hH hR hF hs
  go_enter Tryz.func70, Tryz.ntmps70
  go_wp2_with fail
  have hA0 := BoxAt.new w (.bool false) (.string ⟨#[]⟩) 40
  have hb0 := (Below.refl w.heap.size w).alloc (Nat.le_refl _) (.cells #[.bool false, .string ⟨#[]⟩] 40)
  refine (HN.out _).mono ?_
  rintro e w2 ⟨rfl, hb2⟩
  dsimp only
  have hA2 := hA0.below hb2 hA0.2.2.2.2
  have hb3 := hb0.trans (hb2.mono (by simp))
  clear hb2 hb0 hA0
  obtain ⟨c0, c1, f0, f1, hl⟩ := hA2
  go_wp2
  refine bodyPost_ret (v := .agg #[.bool Z.neg, .string Z.mag]) (by simp [results, Tryz.results70, go_sem, c0, c1]) rfl ⟨rfl, ?_⟩
  exact (hb3.setCell (by simp) _).setCell (by simp) _

/-- The adjugate, from the last of the matrices. -/
def adjC (n : Nat) (A : Nat → Nat → Int) (i k : Nat) : Int := if n % 2 = 0 then -chrM n A (n - 1) i k else chrM n A (n - 1) i k
set_option maxRecDepth 100000 in
set_option maxHeartbeats 4000000 in
theorem adj_any (m : GM) (p : Option Addr) (cp : Nat) (hf : m.Fit) (hok : m.sq = 0 → ChrOk m.r m.F) (w : World) (hm : m.At w p) :
    Calls Tryz.prog 45 #[.slice p m.r cp] w (RetMatE m.sq m.r m.r (adjC m.r m.F) w) := by
  have HS := Lib.hid (square_any m p cp hf w hm)
  by_cases hs : m.sq = 0
  · obtain ⟨h1, h2, h3, h4⟩ := GM.sq_zero hs
    have hM := GM.mat hm h1
    rw [← h2] at hM
    have HC := Lib.hid (fun (W : World) (hW : Below w.heap.size w W) => chr_any m.r p cp m.F h3 (by omega) W (hM.below (Nat.le_refl _) hW) (hok hs))
    have hsm : Small m.r m.r (chrM m.r m.F (m.r - 1)) := (hok hs).m (m.r - 1) (by omega)
    rw [hs] at HS ⊢
    have HD : Hid (∀ i k, adjC m.r m.F i k = if m.r % 2 = 0 then -chrM m.r m.F (m.r - 1) i k else chrM m.r m.F (m.r - 1) i k) := Lib.hid (fun _ _ => rfl)
    clear hs h1 h2 hM hok hf hm
    generalize adjC m.r m.F = D at *
    obtain ⟨M, hMM⟩ : ∃ M, chrM m.r m.F (m.r - 1) = M := ⟨_, rfl⟩
    rw [hMM] at HD hsm
    have HM := Lib.hid hMM
    clear hMM
    have HT := Lib.hid (fun (W : World) (g q : Nat) (hg : W.cell? ⟨g, 0, none⟩ = some (.slice (some ⟨q, 0, none⟩) m.r m.r)) (hq : MatF W (some ⟨q, 0, none⟩) m.r m.r M) => table_any m.r m.r (by omega) (by omega) 70 #[.pointer (some ⟨g, 0, none⟩)] (fun i k => -M i k) W (enters_of Tryz.func70 (by kernel_rfl) rfl) (fun i k V hi hk hV =>
      adj1_any m.r m.r i k g (some ⟨q, 0, none⟩) m.r M hi hk V (cell_below hV hg) (hq.below (Nat.le_refl _) hV) hsm))
    clear hsm
    by_cases hp : m.r % 2 = 0
    · have ep : ((m.r : Int) % 2 == 0) = true := by rw [beq_iff_eq]; omega
      have HD : Hid (∀ i k, D i k = -M i k) := Lib.hid (fun i k => by rw [HD.out i k, if_pos hp])
      clear hp
      go_enter Tryz.func45, Tryz.ntmps45
      go_wp2_with fail
      refine HS.out.mono ?_
      rintro e w2 ⟨rfl, hb⟩
      dsimp only
      have Hb := Lib.hid hb
      clear hb HS
      go_wp2_with fail
      refine (HC.out w2 Hb.out).mono ?_
      rintro e w3 ⟨g, q, rfl, _, hown, hb3⟩
      dsimp only
      rw [HM.out] at hown
      have Hb3 := Lib.hid (Hb.out.trans (hb3.mono Hb.out.size))
      have Ho := Lib.hid hown
      clear hb3 HC hown
      go_wp2_with fail
      have hbx : Boxed (w3.alloc (.cells #[.slice (some ⟨q, 0, none⟩) m.r m.r] 64)) w3.heap.size 64 (.slice (some ⟨q, 0, none⟩) m.r m.r) := Boxed.new w3 64 _
      have hb4 : Below w3.heap.size w3 (w3.alloc (.cells #[.slice (some ⟨q, 0, none⟩) m.r m.r] 64)) := (Below.refl _ _).alloc (Nat.le_refl _) _
      refine (HT.out _ w3.heap.size q hbx.cell ((Ho.out.call hb4).mat)).mono ?_
      rintro e w4 ⟨g2, rfl, hown2, hb5⟩
      dsimp only
      have c0 := (hb5.cell (p := ⟨w3.heap.size, 0, none⟩) (by simp)).trans hbx.cell
      have f0 := (hb5.frozen (p := ⟨w3.heap.size, 0, none⟩) (by simp)).trans hbx.frozen
      have Hw4 := Lib.hid (Hb3.out.trans ((hb4.trans (hb5.mono (by simp))).mono Hb3.out.size))
      have hl : w.heap.size ≤ w3.heap.size := Hb3.out.size
      have Hown2 := Lib.hid (hown2.other ⟨w3.heap.size, 0, none⟩ (.slice (some ⟨g2, 0, none⟩) m.r m.r) (by simp))
      clear hbx hb4 hb5 hown2 HT
      go_wp2
      refine bodyPost_ret (v := .tuple #[.slice (some ⟨g2, 0, none⟩) m.r m.r, .int .i64 0]) (by simp [results, Tryz.results45, go_sem]) rfl ?_
      exact ⟨Hw4.out.setCell hl _, .inl ⟨rfl, _, _, rfl, Hown2.out.mat.congr fun i k _ _ => (HD.out i k).symm⟩⟩
    · have ep : ((m.r : Int) % 2 == 0) = false := by rw [beq_eq_false_iff_ne]; omega
      have HD : Hid (∀ i k, D i k = M i k) := Lib.hid (fun i k => by rw [HD.out i k, if_neg hp])
      clear hp HT
      go_enter Tryz.func45, Tryz.ntmps45
      go_wp2_with fail
      refine HS.out.mono ?_
      rintro e w2 ⟨rfl, hb⟩
      dsimp only
      have Hb := Lib.hid hb
      clear hb HS
      go_wp2_with fail
      refine (HC.out w2 Hb.out).mono ?_
      rintro e w3 ⟨g, q, rfl, _, hown, hb3⟩
      dsimp only
      rw [HM.out] at hown
      have Hb3 := Lib.hid (Hb.out.trans (hb3.mono Hb.out.size))
      have Ho := Lib.hid hown
      clear hb3 HC hown
      go_wp2
      refine bodyPost_ret (v := .tuple #[.slice (some ⟨q, 0, none⟩) m.r m.r, .int .i64 0]) (by simp [results, Tryz.results45, go_sem]) rfl ?_
      have hb4 : Below w3.heap.size w3 (w3.alloc (.cells #[.slice (some ⟨q, 0, none⟩) m.r m.r] 64)) := (Below.refl _ _).alloc (Nat.le_refl _) _
      exact ⟨Hb3.out.trans (hb4.mono Hb3.out.size), .inl ⟨rfl, _, _, rfl, (Ho.out.call hb4).mat.congr fun i k _ _ => (HD.out i k).symm⟩⟩
  · clear hok hf hm
    generalize m.sq = v at *
    generalize m.F = F at *
    generalize m.r = r at *
    have e1 : (v != 0) = true := by rw [bne_iff_ne]; exact hs
    have Hs := Lib.hid hs
    clear hs
    go_enter Tryz.func45, Tryz.ntmps45
    go_wp2_with fail
    refine HS.out.mono ?_
    rintro e w2 ⟨rfl, hb⟩
    dsimp only
    have Hb := Lib.hid hb
    clear hb HS
    go_wp2
    refine bodyPost_ret (v := .tuple #[.slice none 0 0, .int .i64 v]) (by simp [results, Tryz.results45, go_sem]) rfl ?_
    exact ⟨Hb.out, .inr ⟨Hs.out, rfl⟩⟩

end Go.Proofs.YtlaoijfphkhchaaGreat

namespace Go.Proofs.YtlaoijfphkhchaaGreat
open Go.RowKit Go.Shelf

theorem bad2 (a b : GM) (p q : Option Addr) (cp cq : Nat) (hfa : a.Fit) (hfb : b.Fit) (w : World) (ha : a.At w p) (hb : b.At w q) (W : World) (g : Nat) (hW : Below w.heap.size w W) (h0 : W.cell? ⟨g, 0, none⟩ = some (.slice p a.r cp)) (h1 : W.cell? ⟨g, 1, none⟩ = some (.slice q b.r cq)) :
    Calls Tryz.prog 88 #[.slice (some ⟨g, 0, none⟩) 2 2] W (RetB (a.chk != 0 || b.chk != 0) W) := by
  have h := bad_any 2 (some ⟨g, 0, none⟩) 2 (fun k => if k = 0 then a else b) (fun k => if k = 0 then p else q) (fun k => if k = 0 then cp else cq) (by omega) (fun k hk => by split <;> assumption) W (.inr ⟨g, 0, rfl, World.block_lt_of_cell? W _ h0, fun i hi j hj => by
    have e2 : j = 0 := by omega
    subst e2
    have : i = 0 ∨ i = 1 := by omega
    rcases this with rfl | rfl
    · simpa using h0
    · simpa using h1⟩) (fun k hk => by
      split
      · exact ha.below (Nat.le_refl _) hW
      · exact hb.below (Nat.le_refl _) hW)
  simpa [anyN] using h
theorem below_drN {B : Nat} {w w' : World} (h : Below B w w') (k : Nat) : Below B w (w'.drewN k) := by
  exact below_dr h
def mulE (a b : GM) : Int := if (a.chk != 0 || b.chk != 0) = true then 1 else if a.L 0 ≠ b.r then 11 else 0
theorem mulE_zero {a b : GM} (h : mulE a b = 0) : a.chk = 0 ∧ b.chk = 0 ∧ a.L 0 = b.r := by
  unfold mulE at h
  split at h
  · cases h
  · rename_i h1
    split at h
    · cases h
    · rename_i h2
      simp at h1
      exact ⟨h1.1, h1.2, by omega⟩
def addE (a b : GM) : Int := if (a.chk != 0 || b.chk != 0) = true then 1 else if ¬(a.r = b.r ∧ a.L 0 = b.L 0) then 11 else 0
theorem addE_zero {a b : GM} (h : addE a b = 0) : a.chk = 0 ∧ b.chk = 0 ∧ a.r = b.r ∧ a.L 0 = b.L 0 := by
  unfold addE at h
  split at h
  · cases h
  · rename_i h1
    split at h
    · cases h
    · rename_i h2
      simp at h1
      exact ⟨h1.1, h1.2, by omega, by omega⟩
end Go.Proofs.YtlaoijfphkhchaaGreat

namespace Go.Proofs.YtlaoijfphkhchaaGreat
open Go.RowKit Go.Shelf

def trE (a : GM) : Int := if a.chk ≠ 0 then 1 else 0
theorem bad1m (a : GM) (p : Option Addr) (cp : Nat) (hfa : a.Fit) (w : World) (ha : a.At w p) (W : World) (g : Nat) (hW : Below w.heap.size w W) (h0 : W.cell? ⟨g, 0, none⟩ = some (.slice p a.r cp)) :
    Calls Tryz.prog 88 #[.slice (some ⟨g, 0, none⟩) 1 1] W (RetB (a.chk != 0) W) := by
  have h := bad_any 1 (some ⟨g, 0, none⟩) 1 (fun _ => a) (fun _ => p) (fun _ => cp) (by omega) (fun k hk => hfa) W (.inr ⟨g, 0, rfl, World.block_lt_of_cell? W _ h0, fun i hi j hj => by
    have e1 : i = 0 := by omega
    have e2 : j = 0 := by omega
    subst e1; subst e2
    simpa using h0⟩) (fun k hk => ha.below (Nat.le_refl _) hW)
  simpa [anyN] using h
end Go.Proofs.YtlaoijfphkhchaaGreat

namespace Go.Proofs.YtlaoijfphkhchaaGreat
open Go.RowKit Go.Shelf

def applyE (a : GM) (n : Nat) (Z : Nat → ZI) : Int := if (a.chk != 0 || anyN (fun k => !okZ (Z k)) n) = true then 1 else if n ≠ a.L 0 then 11 else 0
theorem applyE_zero {a : GM} {n : Nat} {Z : Nat → ZI} (h : applyE a n Z = 0) : a.chk = 0 ∧ n = a.L 0 ∧ ∀ k, k < n → Z k = canon (valZ (Z k)) := by
  unfold applyE at h
  split at h
  · cases h
  · rename_i h1
    split at h
    · cases h
    · rename_i h2
      rw [Bool.not_eq_true, Bool.or_eq_false_iff, anyN_false] at h1
      exact ⟨by simpa using h1.1, by omega, fun k hk => by simpa [okZ] using h1.2 k hk⟩
/-- Within Apply: i rows are done, and k numbers of the next one. -/
structure ApI (w wr : World) (g r n i k : Nat) (F : Nat → Nat → Int) (V : Nat → Int) : Prop where
  below : Below w.heap.size w wr
  cur : ZAt wr g r (fun m => if m < i then dotN (fun j => F m j * V j) n else if m = i then dotN (fun j => F i j * V j) k else 0)
  low : w.heap.size ≤ g
theorem ApI.start (w wr : World) (hb : Below w.heap.size w wr) (r n : Nat) (t : TypeId) (F : Nat → Nat → Int) (V : Nat → Int) : ApI w (wr.alloc (.cells (madeCells #[.bool false, .string ⟨#[]⟩] (r * 2)) t)) wr.heap.size r n 0 0 F V :=
  ⟨hb.alloc hb.size _, (made_zero wr r t).congr fun k _ => by
    rw [if_neg (by omega)]
    split <;> rfl, hb.size⟩
theorem ApI.call {w wr wr' : World} {g r n i k : Nat} {F : Nat → Nat → Int} {V : Nat → Int} (h : ApI w wr g r n i k F V) (hb : Below wr.heap.size wr wr') : ApI w wr' g r n i k F V :=
  ⟨h.below.trans (hb.mono h.below.size), h.cur.below hb h.cur.1, h.low⟩
theorem ApI.put {w wr : World} {g r n i k : Nat} {F : Nat → Nat → Int} {V : Nat → Int} (h : ApI w wr g r n i k F V) :
    ApI w ((wr.setCell ⟨g, i * 2, none⟩ (.bool (canon (dotN (fun j => F i j * V j) (k + 1))).neg)).setCell ⟨g, i * 2 + 1, none⟩ (.string (canon (dotN (fun j => F i j * V j) (k + 1))).mag)) g r n i (k + 1) F V :=
  ⟨(h.below.setCell (by simpa using h.low) _).setCell (by simpa using h.low) _, (h.cur.set _).congr fun m _ => by
    by_cases e : m = i
    · subst e; simp
    · simp [e], h.low⟩
theorem ApI.leave {w wr : World} {g r n i : Nat} {F : Nat → Nat → Int} {V : Nat → Int} (h : ApI w wr g r n i n F V) : ApI w wr g r n (i + 1) 0 F V :=
  ⟨h.below, h.cur.congr fun m _ => by
    by_cases e : m = i
    · subst e; simp
    · by_cases e2 : m < i
      · rw [if_pos e2, if_pos (by omega)]
      · rw [if_neg e2, if_neg e, if_neg (by omega)]
        split <;> rfl, h.low⟩
end Go.Proofs.YtlaoijfphkhchaaGreat
namespace Go.Proofs.YtlaoijfphkhchaaGreat
open Go.RowKit Go.Shelf
/-- What capacity.check answers. -/
def capChk (L S : Int) (n : Nat) (E : Nat → Nat → Int) (det : Bool) : Int :=
  if gChk L S n E ≠ 0 then 1 else if det = true ∧ gDet n E ≠ 1 then 8 else if S = 0 then 5 else if 32 < S then 4 else 0
theorem firstFrom_zero' {body : Nat → Option Int} {d : Int} : ∀ (m k : Nat), firstFrom body d m k = d → (∀ i, body i ≠ some d) → ∀ i, k ≤ i → i < k + m → body i = none
  | 0, k, _, _, i, h1, h2 => by omega
  | m + 1, k, h, hd, i, h1, h2 => by
    unfold firstFrom at h
    cases hb : body k with
    | none =>
      rw [hb] at h
      by_cases e : i = k
      · rw [e]; exact hb
      · exact firstFrom_zero' m (k + 1) h hd i (by omega) (by omega)
    | some r =>
      rw [hb] at h
      exact absurd (by rw [hb, show r = d from h]) (hd k)
/-- What a graph says that Check takes. -/
theorem gChk_zero {L S : Int} {n : Nat} {E : Nat → Nat → Int} (h : gChk L S n E = 0) : 1 ≤ L ∧ L ≤ 256 ∧ 0 ≤ S ∧ S ≤ 64 ∧ n ≤ 1024 ∧ ∀ i, i < n → ¬ edBad L S E i ∧ (0 < i → cmp3 (E (i - 1)) (E i) < 0) := by
  unfold gChk at h
  split at h
  · cases h
  split at h
  · cases h
  split at h
  · cases h
  rename_i h1 h2 h3
  refine ⟨by omega, by omega, by omega, by omega, by omega, fun i hi => ?_⟩
  have h4 := firstFrom_zero' n 0 h (fun i => by
    unfold gStep
    split
    · intro h; cases h
    · split
      · intro h; cases h
      · intro h; cases h) i (by omega) (by omega)
  unfold gStep at h4
  split at h4
  · cases h4
  · rename_i h5
    split at h4
    · cases h4
    · rename_i h6
      exact ⟨h5, fun h0 => by
        by_cases e : cmp3 (E (i - 1)) (E i) < 0
        · exact e
        · exact absurd ⟨h0, by omega⟩ h6⟩
theorem gChk_ok {L S : Int} {n : Nat} {E : Nat → Nat → Int} (h : gChk L S n E = 0) : EdOk S.toNat n E := by
  obtain ⟨_, _, _, _, _, h6⟩ := gChk_zero h
  intro i hi
  have h7 := (h6 i hi).1
  unfold edBad at h7
  exact ⟨(E i 0).toNat, (E i 2).toNat, by omega, by omega, by omega, by omega⟩
/-- A valid graph with states, of the statements' sizes. -/
def fineG (L S : Int) (n : Nat) (E : Nat → Nat → Int) : Bool := !gGreatB S n && decide (gChk L S n E = 0) && decide (0 < S)
end Go.Proofs.YtlaoijfphkhchaaGreat
namespace Go.Proofs.YtlaoijfphkhchaaGreat
open Go.RowKit Go.Shelf
/-- What m edges add up, from the places P to the places Q. -/
def stpE (P Q : Nat → Nat) (f : Nat → Int) : Nat → Nat → Int
  | 0, _ => 0
  | i + 1, j => stpE P Q f i j + if Q i = j then f (P i) else 0
/-- .. k times. -/
def cntI (P Q : Nat → Nat) (n : Nat) (f : Nat → Int) : Nat → Nat → Int
  | 0 => f
  | k + 1 => stpE P Q (cntI P Q n f k) n
/-- All numbers are of moderate size. -/
structure CntOk (P Q : Nat → Nat) (n N K : Nat) (f : Nat → Int) : Prop where
  a : ∀ k j, k < K → j < N → (canon (cntI P Q n f k j)).mag.size ≤ 100000000
  b : ∀ k i j, k < K → i < n → j < N → (canon (stpE P Q (cntI P Q n f k) i j)).mag.size ≤ 100000000
/-- A row that lies behind block B. -/
def RetRowB (B : Nat) (c : Nat) (f : Nat → Int) (w : World) (e : Ending) (w' : World) : Prop := ∃ p cap, e = .returned (.slice p c cap) ∧ RowF w' p c f ∧ Below w.heap.size w w' ∧ ∀ b, p = some b → B ≤ b.block
end Go.Proofs.YtlaoijfphkhchaaGreat
namespace Go.Proofs.YtlaoijfphkhchaaGreat
open Go.RowKit Go.Shelf
def frE (E : Nat → Nat → Int) (i : Nat) : Nat := (E i 0).toNat
def toE (E : Nat → Nat → Int) (i : Nat) : Nat := (E i 2).toNat
def cntChk (L S : Int) (n : Nat) (E : Nat → Nat → Int) (least k : Int) : Int := if gChk L S n E ≠ 0 then 1 else if k < least ∨ 4096 < k then 2 else 0
theorem edOk_nat {N n : Nat} {E : Nat → Nat → Int} (h : EdOk N n E) (i : Nat) (hi : i < n) : E i 0 = (frE E i : Int) ∧ E i 2 = (toE E i : Int) ∧ frE E i < N ∧ toE E i < N := by
  obtain ⟨s, t, h1, h2, h3, h4⟩ := h i hi
  unfold frE toE
  omega
/-- .. with no error. -/
def RetRowN (c : Nat) (f : Nat → Int) (w : World) (e : Ending) (w' : World) : Prop := ∃ p cap, e = .returned (.tuple #[.slice p c cap, .int .i64 0]) ∧ RowF w' p c f ∧ Below w.heap.size w w' ∧ ∀ b, p = some b → w.heap.size ≤ b.block
def dltF (s j : Nat) : Int := if j = s then 1 else 0
end Go.Proofs.YtlaoijfphkhchaaGreat
