/- The walk of grooveref25.Great: it ends. groovetop.top31Fine. What every law's frame needs. -/
import Derived.Test.YtcafeffgaokiaaaK3
import Derived.Test.YtcafeffgaokiaaaK43
import Derived.Test.YtcafeffgaokiaaaRows
import Derived.Test.YtcafeffgaokiaaaK0
import Derived.ProofKit
import Derived.OpenShut
import Derived.SizedLaws
import Derived.Deep.Slices
import Derived.Deep.Fields
import Derived.Carry
namespace Go.Proofs.Ytcafeffgaokiaaa
open Go.RowKit
def SayPost (w : World) (e : Ending) (w' : World) : Prop := ∃ g : Bool, e = .returned (.bool g) ∧ Below w.heap.size w w'
set_option maxRecDepth 100000 in
set_option maxHeartbeats 8000000 in
theorem encGreat_any (l b i : Int) (m : EM) (p : Option Addr) (c : Nat) (w : World) (hE : m.At w p) (hf : m.Fit) :
    Calls Try.prog 15 #[.agg #[.int .i64 l, .int .i64 b, .int .i64 i, .slice p m.r c]] w (SayPost w) := by
  have HE := Lib.hid hE
  have HF := Lib.hid hf
  have hr0 := hf.1
  clear hE hf
  by_cases h1 : 65 < m.r
  · have h1a : (6 : Int) < (m.r : Int) := by omega
    have h1b : ¬ (m.r : Int) ≤ 64 := by omega
    have h1c : (65 : Int) < (m.r : Int) := by omega
    go_enter Try.func15, Try.ntmps15
    go_wp2
    go_ret
    exact ⟨true, rfl, (Below.refl _ _).alloc (Nat.le_refl _) _⟩
  have h1c : ¬ (65 : Int) < (m.r : Int) := by omega
  by_cases h2 : 6 < m.r ∧ m.r ≤ 64
  · obtain ⟨h2a, h2b⟩ := h2
    have h2c : (6 : Int) < (m.r : Int) := by omega
    have h2d : (m.r : Int) ≤ 64 := by omega
    go_enter Try.func15, Try.ntmps15
    go_wp2
    go_ret
    exact ⟨true, rfl, (Below.refl _ _).alloc (Nat.le_refl _) _⟩
  have hm : ((decide ((6 : Int) < (m.r : Int))) && (decide ((m.r : Int) ≤ 64))) = false := by
    rw [Bool.and_eq_false_iff]
    by_cases h3 : 6 < m.r
    · right; exact decide_eq_false (fun h => h2 ⟨h3, by omega⟩)
    · left; exact decide_eq_false (by omega)
  have hcase : m.r = 65 ∨ m.r ≤ 6 := by omega
  clear hm h2
  have key : ∀ (hq : (¬ (6 : Int) < (m.r : Int)) ∨ ((6 : Int) < (m.r : Int) ∧ ¬ (m.r : Int) ≤ 64)), Calls Try.prog 15 #[.agg #[.int .i64 l, .int .i64 b, .int .i64 i, .slice p m.r c]] w (SayPost w) := by
    intro hq
    go_enter Try.func15, Try.ntmps15
    rcases hq with q1 | ⟨q1, q2⟩
    all_goals
      go_wp2
      go_loopw [3] (fun s wr => ∃ k : Nat, k ≤ m.r ∧ s = .int .i64 (k : Nat) ∧ Below (w.heap.size + 1) (w.alloc (.cells #[.int .i64 l, .int .i64 b, .int .i64 i, .slice p m.r c] 24)) wr) (fun s _ => m.r - (intOf s).toNat)
      case atStart => exact ⟨0, by omega, rfl, Below.refl _ _⟩
      case round =>
        obtain ⟨k, hk, rfl, hb⟩ := hrel
        obtain ⟨⟨c0, c1, c2, c3⟩, hsz, hbw⟩ := box4 hb
        by_cases hlt : k < m.r
        · obtain ⟨eb, eo, q, cq, rfl, heb, hrow, hcells⟩ := (HE.out.below (Nat.le_refl _) hbw).row hlt
          have hLk := (HF.out.2 k hlt).1
          have hsz1 : w.heap.size + 1 ≤ wr.heap.size := by have := hb.size; simp at this; omega
          have Hb := Lib.hid hb
          have Hbw := Lib.hid hbw
          have Hcs := Lib.hid hcells
          have hk0 : (0 : Int) ≤ (k : Int) := by omega
          have hk1 : (k : Int) < (m.r : Int) := by omega
          clear hb hbw hcells
          by_cases e1 : 6 < m.L k
          · have e1' : (6 : Int) < (m.L k : Int) := by omega
            go_wp2
            go_ret
            exact ⟨true, rfl, Hbw.out⟩
          have e1' : ¬ (6 : Int) < (m.L k : Int) := by omega
          go_wp2
          go_loopw [4] (fun s wr2 => ∃ j : Nat, j ≤ m.L k ∧ s = .int .i64 (j : Nat) ∧ Below wr.heap.size wr wr2) (fun s _ => m.L k - (intOf s).toNat)
          case atStart => exact ⟨0, by omega, rfl, Below.refl _ _⟩
          case round =>
            obtain ⟨j, hj, rfl, hb2⟩ := hrel
            have hbb := Hb.out.trans (hb2.mono hsz1)
            obtain ⟨⟨c0, c1, c2, c3⟩, hsz2, hbw2⟩ := box4 hbb
            have hrow2 := (hb2.cell (p := ⟨eb, eo + k, none⟩) heb).trans hrow
            have Hb2 := Lib.hid hb2
            have Hbb := Lib.hid hbb
            have Hbw2 := Lib.hid hbw2
            by_cases hltj : j < m.L k
            · obtain ⟨fb, fo, rfl, hfb, d0, d1⟩ := EM.cells (Hcs.out.mono (Nat.le_refl _) hb2) hltj
              have hdz := (HF.out.2 k hlt).2 j hltj
              have hj0 : (0 : Int) ≤ (j : Int) := by omega
              have hj1 : (j : Int) < (m.L k : Int) := by omega
              clear hb2 hbb hbw2
              obtain ⟨x, hx⟩ : ∃ t, m.D k j = t := ⟨_, rfl⟩
              rw [hx] at d1 hdz
              clear hx
              by_cases f1 : 20 < x.size
              · have f1' : (20 : Int) < (x.size : Int) := by omega
                go_wp2
                go_ret
                exact ⟨true, rfl, Hbw2.out⟩
              · have f1' : ¬ (20 : Int) < (x.size : Int) := by omega
                go_wp2
                go_roundw
                case rel => exact ⟨j + 1, by omega, by go_num, Hb2.out⟩
                case measure => simp [intOf]; omega
            · have hj2 : ¬ (j : Int) < (m.L k : Int) := by omega
              clear hb2 hbb hbw2
              go_wp2
              go_roundw
              case rel => exact ⟨k + 1, by omega, by go_num, Hbb.out⟩
              case measure => simp [intOf]; omega
        · have hk2 : ¬ (k : Int) < (m.r : Int) := by omega
          have Hbw := Lib.hid hbw
          clear hb hbw
          go_wp2
          go_ret
          exact ⟨false, rfl, Hbw.out⟩
  rcases hcase with h | h
  · exact key (.inr ⟨by omega, by omega⟩)
  · exact key (.inl (by omega))
end Go.Proofs.Ytcafeffgaokiaaa
namespace Go.Proofs.Ytcafeffgaokiaaa
open Go.RowKit Go.Maps Go.Lib Go.Sort
def FineP (l b i : Int) (m : EM) : Prop := encCheck l b i m = 0 ∧ m.r ≤ 6 ∧ i ≤ 4 ∧ b ≤ 4
def Fine3Post (l b i : Int) (m : EM) (w : World) (e : Ending) (w' : World) : Prop := ∃ ok : Bool, e = .returned (.bool ok) ∧ (ok = true → FineP l b i m) ∧ Below w.heap.size w w'
set_option maxRecDepth 100000 in
set_option maxHeartbeats 4000000 in
theorem fine3_any (l b i : Int) (m : EM) (p : Option Addr) (c : Nat) (w : World) (hA : m.At w p) (hf : m.Fit) :
    Calls Try.prog 7 #[.agg #[.int .i64 l, .int .i64 b, .int .i64 i, .slice p m.r c]] w (Fine3Post l b i m w) := by
  obtain ⟨V, hV⟩ : ∃ V, w.alloc (encO l b i p m.r c) = V := ⟨_, rfl⟩
  have hbV : Below w.heap.size w V := by rw [← hV]; exact (Below.refl w.heap.size w).alloc (Nat.le_refl _) _
  obtain ⟨g, hg⟩ : ∃ g, w.heap.size = g := ⟨_, rfl⟩
  have o0 : V.heap[g]? = some (encO l b i p m.r c) := by rw [← hV, ← hg]; exact World.alloc_heap_new w _
  have hsV : V.heap.size = g + 1 := by rw [← hV]; simp [hg]
  have HO := Lib.hid (fun (W : World) (h : Below V.heap.size V W) => show W.heap[g]? = some (encO l b i p m.r c) from (h.block _ (by omega)).trans o0)
  obtain ⟨x0, x1, x2, x3⟩ := cells_encO o0
  clear o0
  unfold encO at hV
  have HG := Lib.hid (fun (W : World) (h : Below w.heap.size w W) => encGreat_any l b i m p c W (hA.below (Nat.le_refl _) h) hf)
  have HC := Lib.hid (fun (W : World) (h : Below w.heap.size w W) => encCheck_any l b i m p c W (hA.below (Nat.le_refl _) h) hf)
  have HbV := Lib.hid hbV
  clear hbV hA hf
  go_enter Try.func7, Try.ntmps7
  go_upto_region 1 with (fail)
  clear hV
  go_wp2_with fail
  refine (HG.out _ HbV.out).mono ?_
  rintro e W1 ⟨g1, rfl, hb⟩
  dsimp only
  have HB1 := Lib.hid hb
  have HW1 := Lib.hid (HbV.out.trans (hb.mono HbV.out.size))
  obtain ⟨y0, y1, y2, y3⟩ := cells_encO (HO.out _ hb)
  clear x0 x1 x2 x3 hb HG
  cases g1
  case true =>
    go_wp2
    go_ret
    exact ⟨_, rfl, (by simp), HW1.out⟩
  case false =>
    go_wp2_with fail
    refine (HC.out _ HW1.out).mono ?_
    rintro e W2 ⟨rfl, hb⟩
    have HW2 := Lib.hid (HW1.out.trans (hb.mono HW1.out.size))
    obtain ⟨x0, x1, x2, x3⟩ := cells_encO (HO.out _ (HB1.out.trans (hb.mono HB1.out.size)))
    dsimp only
    clear y0 y1 y2 y3 hb HC
    by_cases hc : encCheck l b i m = 0
    case neg =>
      have hcb : (encCheck l b i m == 0) = false := by simpa using hc
      go_wp2
      go_ret
      exact ⟨_, rfl, (by simp), HW2.out⟩
    have HCk := Lib.hid hc
    have hcb : (encCheck l b i m == 0) = true := by simpa using hc
    clear hc
    by_cases h1 : (0 : Int) < (m.r : Int)
    case neg =>
      go_wp2
      go_ret
      exact ⟨_, rfl, (by simp), HW2.out⟩
    by_cases h2 : (m.r : Int) ≤ 6
    case neg =>
      go_wp2
      go_ret
      exact ⟨_, rfl, (by simp), HW2.out⟩
    by_cases h3 : i ≤ 4
    case neg =>
      go_wp2
      go_ret
      exact ⟨_, rfl, (by simp), HW2.out⟩
    by_cases h4 : b ≤ 4
    case neg =>
      go_wp2
      go_ret
      exact ⟨_, rfl, (by simp), HW2.out⟩
    have HF := Lib.hid (show FineP l b i m from ⟨HCk.out, by omega, h3, h4⟩)
    go_wp2
    go_ret
    exact ⟨_, rfl, (fun _ => HF.out), HW2.out⟩
end Go.Proofs.Ytcafeffgaokiaaa
namespace Go.Proofs.Ytcafeffgaokiaaa
open Go.RowKit Go.ChangeShapes Go.WideShapes Go.ChangeAt Go.Deep

theorem own : ownKnob Try.prog.godebug = none := by kernel_rfl
theorem laidOut : laidOutB Try.prog = true := by kernel_rfl

section
variable {H : Type} {enc : TypeId × Value → H} {P : Program} {w : World} {base : Nat} {spare : Nat → Bool} {held : Bool}

/-- A struct whose fields are of one cell each, opened field by field. -/
theorem struct_fields {t : TypeId} {fs : Array Field} {fuel : Nat} {cs : List Value} {x : DataW H × List MemPlace} (ht : P.underlying t = some (.struct fs)) (hone : oneCellFields P fs = true) (hC : P.cellsOf t = fs.size)
    (h : DataW.trod enc P w base spare held fuel t cs = some x) :
    ∃ (ys : List (DataW H × List MemPlace)) (n : Nat), x = (.agg (ys.map (·.1)), ys.flatMap (·.2)) ∧ cs.length = fs.size ∧ ys.length = fs.size ∧
      ∀ (j : Nat) (f : Field), fs[j]? = some f → ∃ v y, cs[j]? = some v ∧ ys[j]? = some y ∧ DataW.trod enc P w base spare held n f.type [v] = some y := by
  obtain ⟨ys, n, _, hx, hlen, hyl, hf⟩ := DataW.trod_struct ht h
  rw [hC] at hlen
  refine ⟨ys, n, hx, hlen, hyl, fun j f hj => ?_⟩
  obtain ⟨ho, hk⟩ := hone_of hone j f hj
  have hjl : j < fs.size := (Array.getElem?_eq_some_iff.1 hj).1
  have h1 := hf j f hj
  rw [ho, hk, List.drop_eq_getElem_cons (by omega), List.take_succ_cons, List.take_zero] at h1
  have hys : ys[j]? = some (ys[j]'(by omega)) := List.getElem?_eq_getElem (by omega)
  exact ⟨cs[j]'(by omega), ys[j]'(by omega), List.getElem?_eq_getElem (by omega), hys, h1.trans hys⟩

/-- Every argument reads as it did where nothing below the old heap's end has turned. -/
theorem trodAll_below (hl : laidOutB P = true) {W W' : World} (hb : Below W.heap.size W W') : ∀ (ts : List TypeId) (vs : List Value) (ds : List (DataW H)) (ps : List MemPlace),
    (ts.all fun t => P.readableRec t && decide (t < P.types.size)) = true → DataW.TrodAll enc P W 0 (fun _ => true) true ts vs ds ps →
    DataW.TrodAll enc P W' 0 (fun b => decide (b < W.heap.size)) true ts vs ds ps
  | [], vs, ds, ps, _, h => by
    obtain ⟨rfl, rfl, rfl⟩ := trodAll_nil h
    exact trodAll_mk0
  | t :: ts, vs, ds, ps, hr, h => by
    obtain ⟨v, vs', d, ds', p, q, rfl, rfl, rfl, h0, r0⟩ := trodAll_cons h
    simp only [List.all_cons, Bool.and_eq_true, decide_eq_true_eq] at hr
    have lt : ∀ x ∈ p, x.block < W.heap.size := by obtain ⟨m, hm⟩ := h0; exact DataW.trod_lt m _ _ _ hm
    exact trodAll_cons_mk (Below.trod hl hr.1.1 hr.1.2 h0 hb lt) (trodAll_below hl hb ts vs' ds' q hr.2 r0)
end
end Go.Proofs.Ytcafeffgaokiaaa
