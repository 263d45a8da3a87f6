/- The walk of grooveref25.Great: it ends. The walks of grooveref26.Great, of the example and of awake. The walk of grooveref26.Great: where it says no, the decoder is small. Arguments opened: structs of one-cell fields, slices of them; what every law's frame needs. An encoder that came in. -/
import Derived.Test.YtcafeffgaokiaaaZ2
import Derived.Test.YtcafeffgaokiaaaZ12
import Derived.Test.YtcafeffgaokiaaaZ1
import Derived.ProofKit
import Derived.OpenShut
import Derived.SizedLaws
import Derived.Deep.Slices
import Derived.Deep.Fields
import Derived.Carry
import Derived.Deep.SlicePairs
namespace Go.Proofs.Ytcafeffgaokiaaa
open Go.RowKit
def SayPost (w : World) (e : Ending) (w' : World) : Prop := ∃ g : Bool, e = .returned (.bool g) ∧ Below w.heap.size w w'
set_option maxRecDepth 100000 in
set_option maxHeartbeats 8000000 in
theorem encGreat_any (l b i : Int) (m : EM) (p : Option Addr) (c : Nat) (w : World) (hE : m.At w p) (hf : m.Fit) :
    Calls Try.prog 15 #[.agg #[.int .i64 l, .int .i64 b, .int .i64 i, .slice p m.r c]] w (SayPost w) := by
  have HE := Lib.hid hE
  have HF := Lib.hid hf
  have hr0 := hf.1
  clear hE hf
  by_cases h1 : 65 < m.r
  · have h1a : (6 : Int) < (m.r : Int) := by omega
    have h1b : ¬ (m.r : Int) ≤ 64 := by omega
    have h1c : (65 : Int) < (m.r : Int) := by omega
    go_enter Try.func15, Try.ntmps15
    go_wp2
    go_ret
    exact ⟨true, rfl, (Below.refl _ _).alloc (Nat.le_refl _) _⟩
  have h1c : ¬ (65 : Int) < (m.r : Int) := by omega
  by_cases h2 : 6 < m.r ∧ m.r ≤ 64
  · obtain ⟨h2a, h2b⟩ := h2
    have h2c : (6 : Int) < (m.r : Int) := by omega
    have h2d : (m.r : Int) ≤ 64 := by omega
    go_enter Try.func15, Try.ntmps15
    go_wp2
    go_ret
    exact ⟨true, rfl, (Below.refl _ _).alloc (Nat.le_refl _) _⟩
  have hm : ((decide ((6 : Int) < (m.r : Int))) && (decide ((m.r : Int) ≤ 64))) = false := by
    rw [Bool.and_eq_false_iff]
    by_cases h3 : 6 < m.r
    · right; exact decide_eq_false (fun h => h2 ⟨h3, by omega⟩)
    · left; exact decide_eq_false (by omega)
  have hcase : m.r = 65 ∨ m.r ≤ 6 := by omega
  clear hm h2
  have key : ∀ (hq : (¬ (6 : Int) < (m.r : Int)) ∨ ((6 : Int) < (m.r : Int) ∧ ¬ (m.r : Int) ≤ 64)), Calls Try.prog 15 #[.agg #[.int .i64 l, .int .i64 b, .int .i64 i, .slice p m.r c]] w (SayPost w) := by
    intro hq
    go_enter Try.func15, Try.ntmps15
    rcases hq with q1 | ⟨q1, q2⟩
    all_goals
      go_wp2
      go_loopw [3] (fun s wr => ∃ k : Nat, k ≤ m.r ∧ s = .int .i64 (k : Nat) ∧ Below (w.heap.size + 1) (w.alloc (.cells #[.int .i64 l, .int .i64 b, .int .i64 i, .slice p m.r c] 24)) wr) (fun s _ => m.r - (intOf s).toNat)
      case atStart => exact ⟨0, by omega, rfl, Below.refl _ _⟩
      case round =>
        obtain ⟨k, hk, rfl, hb⟩ := hrel
        obtain ⟨⟨c0, c1, c2, c3⟩, hsz, hbw⟩ := box4 hb
        by_cases hlt : k < m.r
        · obtain ⟨eb, eo, q, cq, rfl, heb, hrow, hcells⟩ := (HE.out.below (Nat.le_refl _) hbw).row hlt
          have hLk := (HF.out.2 k hlt).1
          have hsz1 : w.heap.size + 1 ≤ wr.heap.size := by have := hb.size; simp at this; omega
          have Hb := Lib.hid hb
          have Hbw := Lib.hid hbw
          have Hcs := Lib.hid hcells
          have hk0 : (0 : Int) ≤ (k : Int) := by omega
          have hk1 : (k : Int) < (m.r : Int) := by omega
          clear hb hbw hcells
          by_cases e1 : 6 < m.L k
          · have e1' : (6 : Int) < (m.L k : Int) := by omega
            go_wp2
            go_ret
            exact ⟨true, rfl, Hbw.out⟩
          have e1' : ¬ (6 : Int) < (m.L k : Int) := by omega
          go_wp2
          go_loopw [4] (fun s wr2 => ∃ j : Nat, j ≤ m.L k ∧ s = .int .i64 (j : Nat) ∧ Below wr.heap.size wr wr2) (fun s _ => m.L k - (intOf s).toNat)
          case atStart => exact ⟨0, by omega, rfl, Below.refl _ _⟩
          case round =>
            obtain ⟨j, hj, rfl, hb2⟩ := hrel
            have hbb := Hb.out.trans (hb2.mono hsz1)
            obtain ⟨⟨c0, c1, c2, c3⟩, hsz2, hbw2⟩ := box4 hbb
            have hrow2 := (hb2.cell (p := ⟨eb, eo + k, none⟩) heb).trans hrow
            have Hb2 := Lib.hid hb2
            have Hbb := Lib.hid hbb
            have Hbw2 := Lib.hid hbw2
            by_cases hltj : j < m.L k
            · obtain ⟨fb, fo, rfl, hfb, d0, d1⟩ := EM.cells (Hcs.out.mono (Nat.le_refl _) hb2) hltj
              have hdz := (HF.out.2 k hlt).2 j hltj
              have hj0 : (0 : Int) ≤ (j : Int) := by omega
              have hj1 : (j : Int) < (m.L k : Int) := by omega
              clear hb2 hbb hbw2
              obtain ⟨x, hx⟩ : ∃ t, m.D k j = t := ⟨_, rfl⟩
              rw [hx] at d1 hdz
              clear hx
              by_cases f1 : 20 < x.size
              · have f1' : (20 : Int) < (x.size : Int) := by omega
                go_wp2
                go_ret
                exact ⟨true, rfl, Hbw2.out⟩
              · have f1' : ¬ (20 : Int) < (x.size : Int) := by omega
                go_wp2
                go_roundw
                case rel => exact ⟨j + 1, by omega, by go_num, Hb2.out⟩
                case measure => simp [intOf]; omega
            · have hj2 : ¬ (j : Int) < (m.L k : Int) := by omega
              clear hb2 hbb hbw2
              go_wp2
              go_roundw
              case rel => exact ⟨k + 1, by omega, by go_num, Hbb.out⟩
              case measure => simp [intOf]; omega
        · have hk2 : ¬ (k : Int) < (m.r : Int) := by omega
          have Hbw := Lib.hid hbw
          clear hb hbw
          go_wp2
          go_ret
          exact ⟨false, rfl, Hbw.out⟩
  rcases hcase with h | h
  · exact key (.inr ⟨by omega, by omega⟩)
  · exact key (.inl (by omega))
end Go.Proofs.Ytcafeffgaokiaaa
namespace Go.Proofs.Ytcafeffgaokiaaa
open Go.RowKit

/-- The entries of the example. -/
def exEnts : List Ent := [⟨⟨#[48, 48]⟩, 0⟩, ⟨⟨#[48, 49]⟩, 1⟩, ⟨⟨#[49, 48]⟩, 1⟩, ⟨⟨#[49, 49]⟩, 0⟩]
theorem exFit : WinsFit exEnts := by
  intro x hx
  simp [exEnts] at hx
  rcases hx with rfl | rfl | rfl | rfl <;> decide

set_option maxHeartbeats 1000000 in
theorem example_any (w : World) :
    Calls Try.prog 42 #[] w fun e w' => ∃ q, e = .returned (.agg #[.int .i64 2, .int .i64 1, .int .i64 2, .int .i64 0, .int .i64 1, .slice q exEnts.length 4]) ∧ EntsAt w' q exEnts ∧ Below w.heap.size w w' := by
  go_enter Try.func42, Try.ntmps42
  go_wp2
  refine bodyPost_ret (v := .agg #[.int .i64 2, .int .i64 1, .int .i64 2, .int .i64 0, .int .i64 1, .slice (some ⟨w.heap.size + 1, 0, none⟩) 4 4]) (by simp [results, Try.results42, go_sem]) rfl ⟨some ⟨w.heap.size + 1, 0, none⟩, rfl, ?_, ?_⟩
  · refine .inr ⟨w.heap.size + 1, 0, rfl, by simp, fun i hi j hj => ?_⟩
    have hi' : i < 4 := hi
    rw [World.cell?_alloc_at _ _ _ _ (by simp)]
    match i, j, hi', hj with
    | 0, 0, _, _ => rfl
    | 0, 1, _, _ => rfl
    | 1, 0, _, _ => rfl
    | 1, 1, _, _ => rfl
    | 2, 0, _, _ => rfl
    | 2, 1, _, _ => rfl
    | 3, 0, _, _ => rfl
    | 3, 1, _, _ => rfl
  · exact ((Below.refl _ _).alloc (Nat.le_refl _) _).alloc (by simp) _

theorem max4 {P : Program} (ts : Array TypeId) (t : TypeId) (w : World) : (Builtin.max_ ts t #[.int .i64 0, .int .i64 0, .int .i64 0, .int .i64 0]).run P w = .ok (.int .i64 0) w := by
  rfl
theorem ex1 : chErr 2 1 2 0 1 exEnts ⟨#[48, 48, 49, 48]⟩ 1 1 = 0 := by decide +kernel
theorem ex2 : chOut 2 1 2 0 1 exEnts ⟨#[48, 48, 49, 48]⟩ 1 1 = [0, 1] := by decide +kernel
theorem ex3 : chErr 2 1 2 0 1 exEnts ⟨#[48, 48, 49, 48]⟩ 3 1 = 0 := by decide +kernel
theorem ex4 : chOut 2 1 2 0 1 exEnts ⟨#[48, 48, 49, 48]⟩ 3 1 = [2] := by decide +kernel
theorem ex5 : boundErr 2 1 2 0 1 exEnts = 0 := by decide +kernel
theorem ex6 : boundVal 2 1 2 0 1 exEnts = 2 := by decide +kernel
theorem ex7 : burstErr 2 1 2 0 1 exEnts 3 = 0 := by decide +kernel
theorem ex8 : burstVal 2 1 2 0 1 exEnts 3 = 4 := by decide +kernel

set_option maxRecDepth 100000 in
set_option maxHeartbeats 4000000 in
theorem awake_any (w : World) : Calls Try.prog 18 #[] w fun e w' => e = .returned (.bool true) ∧ Below w.heap.size w w' := by
  have hmax := @max4 Try.prog
  go_enter Try.func18, Try.ntmps18
  go_wp2_with fail
  refine (example_any _).mono ?_; rintro e w1 ⟨q1, rfl, hE1, hb1⟩
  have HE1 := Lib.hid hE1
  have Hb1 := Lib.hid hb1
  clear hE1 hb1
  go_wp2_with fail
  refine (changed_any 2 1 2 0 1 exEnts q1 4 _ 1 1 _ HE1.out exFit (by decide)).mono ?_; rintro e w2 ⟨v1, rfl, hown, hb⟩
  rw [ex1]
  rw [ex2] at hown
  obtain ⟨p1, d1, rfl, _, hI1, _⟩ := OwnInts.form hown
  have Hb2 := Lib.hid hb
  have HI1 := Lib.hid hI1
  clear hown hb hI1
  go_wp2_with fail
  refine (example_any _).mono ?_; rintro e w3 ⟨q2, rfl, hE2, hb3⟩
  have HE2 := Lib.hid hE2
  have Hb3 := Lib.hid hb3
  clear hE2 hb3
  go_wp2_with fail
  refine (changed_any 2 1 2 0 1 exEnts q2 4 _ 3 1 _ HE2.out exFit (by decide)).mono ?_; rintro e w4 ⟨v2, rfl, hown, hb⟩
  rw [ex3]
  rw [ex4] at hown
  obtain ⟨p2, d2, rfl, _, hI2, _⟩ := OwnInts.form hown
  have Hb4 := Lib.hid hb
  have HI2 := Lib.hid hI2
  clear hown hb hI2
  go_wp2_with fail
  refine (example_any _).mono ?_; rintro e w5 ⟨q3, rfl, hE3, hb5⟩
  have HE3 := Lib.hid hE3
  have Hb5 := Lib.hid hb5
  clear hE3 hb5
  go_wp2_with fail
  refine (bound_any 2 1 2 0 1 exEnts q3 4 _ HE3.out exFit).mono ?_; rintro e w6 ⟨rfl, hb⟩
  rw [ex5, ex6]
  have Hb6 := Lib.hid hb
  clear hb
  go_wp2_with fail
  refine (example_any _).mono ?_; rintro e w7 ⟨q4, rfl, hE4, hb7⟩
  have HE4 := Lib.hid hE4
  have Hb7 := Lib.hid hb7
  clear hE4 hb7
  go_wp2_with fail
  refine (burst_any 2 1 2 0 1 exEnts q4 4 3 _ HE4.out exFit).mono ?_; rintro e w8 ⟨rfl, hb⟩
  rw [ex7, ex8]
  have Hb8 := Lib.hid hb
  clear hb
  have b2 : Below w2.heap.size w2 w8 := (((((Hb3.out.trans (Hb4.out.mono Hb3.out.size)).trans (Hb5.out.mono (Nat.le_trans Hb3.out.size Hb4.out.size))).trans (Hb6.out.mono (Nat.le_trans Hb3.out.size (Nat.le_trans Hb4.out.size Hb5.out.size)))).trans (Hb7.out.mono (Nat.le_trans Hb3.out.size (Nat.le_trans Hb4.out.size (Nat.le_trans Hb5.out.size Hb6.out.size))))).trans (Hb8.out.mono (Nat.le_trans Hb3.out.size (Nat.le_trans Hb4.out.size (Nat.le_trans Hb5.out.size (Nat.le_trans Hb6.out.size Hb7.out.size))))))
  have b4 : Below w4.heap.size w4 w8 := (((Hb5.out.trans (Hb6.out.mono Hb5.out.size)).trans (Hb7.out.mono (Nat.le_trans Hb5.out.size Hb6.out.size))).trans (Hb8.out.mono (Nat.le_trans Hb5.out.size (Nat.le_trans Hb6.out.size Hb7.out.size))))
  have b0 : Below w.heap.size w w8 := (Hb1.out.trans (Hb2.out.mono Hb1.out.size)).trans (b2.mono (Nat.le_trans Hb1.out.size Hb2.out.size))
  have hJ1 : IntsAt w8 p1 [0, 1] := HI1.out.below (Nat.le_refl _) b2
  have hJ2 : IntsAt w8 p2 [2] := HI2.out.below (Nat.le_refl _) b4
  have HJ1 := Lib.hid hJ1
  have HJ2 := Lib.hid hJ2
  have B0 := Lib.hid b0
  clear hJ1 hJ2 b0 b2 b4 HE1 HE2 HE3 HE4
  go_wp2_with fail
  refine (equal_any [0, 1] [0, 1] p1 (some ⟨w8.heap.size, 0, none⟩) d1 2 _ (HJ1.out.below (Nat.le_refl _) ((Below.refl _ _).alloc (Nat.le_refl _) _)) (.inr ⟨_, 0, rfl, by simp, fun i hi j hj => ?_⟩) (by decide)).mono ?_
  · match i, j, (show i < 2 from hi), hj with
    | 0, 0, _, _ => simp
    | 1, 0, _, _ => simp
  rintro e w9 ⟨rfl, hd⟩
  have hone : (([0, 1] : List Int) == [0, 1]) = true := by decide
  rw [hone]
  have Hd9 := Lib.hid hd
  clear hone hd
  go_wp2_with fail
  refine (equal_any [2] [2] p2 (some ⟨w9.heap.size, 0, none⟩) d2 1 _ ((HJ2.out.below (Nat.le_refl _) (((Below.refl _ _).alloc (Nat.le_refl _) _).trans (Hd9.out.below _))).below (Nat.le_refl _) ((Below.refl _ _).alloc (Nat.le_refl _) _)) (.inr ⟨_, 0, rfl, by simp, fun i hi j hj => ?_⟩) (by decide)).mono ?_
  · match i, j, (show i < 1 from hi), hj with
    | 0, 0, _, _ => simp
  rintro e w10 ⟨rfl, hd⟩
  have hone : (([2] : List Int) == [2]) = true := by decide
  rw [hone]
  have Hd10 := Lib.hid hd
  clear hone hd
  go_wp2
  go_ret
  have z9 : w8.heap.size ≤ w9.heap.size := by have := (Hd9.out.below 0).size; simp at this; omega
  exact ⟨rfl, (((B0.out.alloc B0.out.size _).trans (Hd9.out.below _)).alloc (Nat.le_trans B0.out.size z9) _).trans (Hd10.out.below _)⟩
end Go.Proofs.Ytcafeffgaokiaaa
namespace Go.Proofs.Ytcafeffgaokiaaa
open Go.RowKit

/-- What the walk of a loop over the entries knows of those before k. -/
def SmallTo (es : List Ent) (k : Nat) : Prop := ∀ j, j < k → (es.getD j default).win.size ≤ 40

def GreatPost (es : List Ent) (w : World) (e : Ending) (w' : World) : Prop :=
  ∃ g : Bool, e = .returned (.bool g) ∧ (g = false → SmallTo es es.length ∧ es.length ≤ 65539) ∧ Below w.heap.size w w'

set_option maxRecDepth 100000 in
set_option maxHeartbeats 4000000 in
theorem great_any (l b i p f : Int) (es : List Ent) (a : Option Addr) (c : Nat) (w : World) (hE : EntsAt w a es) (hwins : WinsFit es) (hn : es.length ≤ 100000000000000) :
    Calls Try.prog 16 #[.agg #[.int .i64 l, .int .i64 b, .int .i64 i, .int .i64 p, .int .i64 f, .slice a es.length c]] w (GreatPost es w) := by
  have HE := Lib.hid hE
  have HW := Lib.hid hwins
  clear hE hwins
  go_enter Try.func16, Try.ntmps16
  go_wp2
  go_loopw [3, 4] (fun t s wr => ∃ k T : Nat, k ≤ es.length ∧ s = .int .i64 k ∧ t = .int .i64 T ∧ T ≤ 40 * k ∧ Below (w.heap.size + 1) (w.alloc (.cells #[.int .i64 l, .int .i64 b, .int .i64 i, .int .i64 p, .int .i64 f, .slice a es.length c] 30)) wr ∧ Hid (SmallTo es k)) (fun _ s _ => es.length - (intOf s).toNat)
  case atStart => exact ⟨0, 0, by omega, rfl, rfl, by omega, Below.refl _ _, Lib.hid (fun j hj => by omega)⟩
  case round =>
    obtain ⟨k, T, hk, rfl, rfl, hT, hb, hr⟩ := hrel
    obtain ⟨⟨c0, c1, c2, c3, c4, c5⟩, hsz, hbw⟩ := box6 hb
    by_cases hlt : k < es.length
    · obtain ⟨eb, eo, rfl, heb, hcell⟩ := EntsAt.cells HE.out hlt
      obtain ⟨x, hx⟩ : ∃ x, es.getD k default = x := ⟨_, rfl⟩
      obtain ⟨d0, d1⟩ := EntsAt.fact hcell hbw heb hlt hx
      have hkw : x.win.size ≤ 9223372036854775807 := HW.out _ (by rw [← hx]; exact getD_mem _ _ _ hlt)
      have Hx := Lib.hid hx
      have Hb := Lib.hid hb
      have Hbw := Lib.hid hbw
      clear hx hb hcell hbw
      by_cases h40 : x.win.size ≤ 40
      · have hs : SmallTo es (k + 1) := fun j hj => by
          rcases Nat.lt_or_ge j k with h | h
          · exact hr.out j h
          · have : j = k := by omega
            subst this; rw [Hx.out]; exact h40
        have Hs := Lib.hid hs
        clear hs
        go_wp2
        go_roundw
        case rel => exact ⟨k + 1, T + x.win.size, by omega, by go_num, by go_num, by omega, Hb.out, Hs⟩
        case measure => simp [intOf]; omega
      · go_wp2
        go_ret
        exact ⟨true, rfl, (fun h => by cases h), Hbw.out⟩
    · have hk' : k = es.length := by omega
      have Hk := Lib.hid hk'
      have Hbw := Lib.hid hbw
      clear hk' hb hbw
      by_cases hbig : 65539 < es.length
      · go_wp2
        all_goals
          go_ret
          refine ⟨_, rfl, fun h => ?_, Hbw.out⟩
          simp at h <;> omega
      · go_wp2
        all_goals
          go_ret
          exact ⟨_, rfl, fun h => ⟨by rw [← Hk.out]; exact hr.out, by omega⟩, Hbw.out⟩
end Go.Proofs.Ytcafeffgaokiaaa
namespace Go.Proofs.Ytcafeffgaokiaaa
open Go.RowKit Go.ChangeShapes Go.WideShapes Go.ChangeAt Go.Deep

theorem own : ownKnob Try.prog.godebug = none := by kernel_rfl
theorem laidOut : laidOutB Try.prog = true := by kernel_rfl

section
variable {H : Type} {enc : TypeId × Value → H} {P : Program} {w : World} {base : Nat} {spare : Nat → Bool} {held : Bool}

/-- A struct whose fields are of one cell each, opened field by field. -/
theorem struct_fields {t : TypeId} {fs : Array Field} {fuel : Nat} {cs : List Value} {x : DataW H × List MemPlace} (ht : P.underlying t = some (.struct fs)) (hone : oneCellFields P fs = true) (hC : P.cellsOf t = fs.size)
    (h : DataW.trod enc P w base spare held fuel t cs = some x) :
    ∃ (ys : List (DataW H × List MemPlace)) (n : Nat), x = (.agg (ys.map (·.1)), ys.flatMap (·.2)) ∧ cs.length = fs.size ∧ ys.length = fs.size ∧
      ∀ (j : Nat) (f : Field), fs[j]? = some f → ∃ v y, cs[j]? = some v ∧ ys[j]? = some y ∧ DataW.trod enc P w base spare held n f.type [v] = some y := by
  obtain ⟨ys, n, _, hx, hlen, hyl, hf⟩ := DataW.trod_struct ht h
  rw [hC] at hlen
  refine ⟨ys, n, hx, hlen, hyl, fun j f hj => ?_⟩
  obtain ⟨ho, hk⟩ := hone_of hone j f hj
  have hjl : j < fs.size := (Array.getElem?_eq_some_iff.1 hj).1
  have h1 := hf j f hj
  rw [ho, hk, List.drop_eq_getElem_cons (by omega), List.take_succ_cons, List.take_zero] at h1
  have hys : ys[j]? = some (ys[j]'(by omega)) := List.getElem?_eq_getElem (by omega)
  exact ⟨cs[j]'(by omega), ys[j]'(by omega), List.getElem?_eq_getElem (by omega), hys, h1.trans hys⟩

/-- Every argument reads as it did where nothing below the old heap's end has turned. -/
theorem trodAll_below (hl : laidOutB P = true) {W W' : World} (hb : Below W.heap.size W W') : ∀ (ts : List TypeId) (vs : List Value) (ds : List (DataW H)) (ps : List MemPlace),
    (ts.all fun t => P.readableRec t && decide (t < P.types.size)) = true → DataW.TrodAll enc P W 0 (fun _ => true) true ts vs ds ps →
    DataW.TrodAll enc P W' 0 (fun b => decide (b < W.heap.size)) true ts vs ds ps
  | [], vs, ds, ps, _, h => by
    obtain ⟨rfl, rfl, rfl⟩ := trodAll_nil h
    exact trodAll_mk0
  | t :: ts, vs, ds, ps, hr, h => by
    obtain ⟨v, vs', d, ds', p, q, rfl, rfl, rfl, h0, r0⟩ := trodAll_cons h
    simp only [List.all_cons, Bool.and_eq_true, decide_eq_true_eq] at hr
    have lt : ∀ x ∈ p, x.block < W.heap.size := by obtain ⟨m, hm⟩ := h0; exact DataW.trod_lt m _ _ _ hm
    exact trodAll_cons_mk (Below.trod hl hr.1.1 hr.1.2 h0 hb lt) (trodAll_below hl hb ts vs' ds' q hr.2 r0)
end

section
variable {H : Type} {enc : TypeId × Value → H} {w : World}

set_option maxRecDepth 100000 in
/-- A slice of entries that came in. -/
theorem open_ents {fuel : Nat} {cs : List Value} {x : DataW H × List MemPlace} (h : DataW.trod enc Try.prog w 0 (fun _ => true) true fuel 28 cs = some x) :
    ∃ a c es, cs = [.slice a es.length c] ∧ EntsAt w a es ∧ WinsFit es ∧ es.length * 24 ∈ 0 :: (x.1.weights Try.prog 28).map (fun k => min k (es.length * 24)) := by
  rcases open_slice Try.underlying28 h with ⟨hcs, hx⟩ | ⟨a, len, cap, m, n, D, Pl, hcs, _, hl, hm, hmm, hx, hi⟩
  · exact ⟨none, 0, [], hcs, .inl rfl, (fun x hx => by cases hx), by simp⟩
  · have hC : Try.prog.cellsOf 86 = 2 := by kernel_rfl
    have hB : Try.prog.bytesOf 86 = 24 := by kernel_rfl
    simp only [if_true] at hmm
    rw [hmm] at hi
    have he : ∀ i, i < cap → ∃ e : Ent, w.cell? (a.add (i * 2)) = some (.string e.win) ∧ w.cell? (a.add (i * 2 + 1)) = some (.int .i64 e.inp) ∧ e.win.size ≤ 9223372036854775807 := by
      intro i hil
      obtain ⟨cs', hc, ht'⟩ := hi i hil
      rw [hC] at hc
      obtain ⟨ys, n', _, hlen, _, hf⟩ := struct_fields (fs := _) Try.underlying86 (by kernel_rfl) (by rw [hC]; rfl) ht'
      obtain ⟨_, _, hat⟩ := World.cells?_some hc
      obtain ⟨v0, y0, hv0, _, t0⟩ := hf 0 _ rfl
      obtain ⟨v1, y1, hv1, _, t1⟩ := hf 1 _ rfl
      obtain ⟨s, e0, _, hs⟩ := DataW.trod_string Try.underlying9 t0
      obtain ⟨k, e1, _, _⟩ := DataW.trod_int Try.underlying3 t1
      simp at e0 e1
      subst e0 e1
      have a0 := hat 0 (by omega)
      have a1 := hat 1 (by omega)
      rw [add_add, hv0] at a0
      rw [add_add, hv1] at a1
      exact ⟨⟨s, k⟩, a0, a1, by unfold maxLen at hs; omega⟩
    obtain ⟨E, hE⟩ := choose_lt he
    have hlen : ((List.range len).map E).length = len := by simp
    have hget : ∀ i, i < len → ((List.range len).map E).getD i default = E i := fun i hi => by
      rw [List.getD_eq_getElem?_getD, List.getElem?_map, List.getElem?_range hi]; rfl
    refine ⟨some a, cap, (List.range len).map E, by rw [hlen]; exact hcs, ?_, ?_, ?_⟩
    · unfold EntsAt
      rw [hlen]
      rcases Nat.eq_zero_or_pos len with h0 | h0
      · exact .inl h0
      · obtain ⟨b, off, spot⟩ := a
        have h00 := (hE 0 (by omega)).1
        have hspot : spot = none := by simpa [Addr.add] using World.cell?_spot h00
        subst hspot
        refine .inr ⟨b, off, rfl, ?_, fun i hi j hj => ?_⟩
        · exact World.block_lt_of_cell? w _ (by simpa [Addr.add] using h00)
        · have hc := hE i (by omega)
          rw [Addr.add_lit, Addr.add_lit] at hc
          unfold entC
          rw [hget i hi]
          have : j = 0 ∨ j = 1 := by omega
          rcases this with rfl | rfl
          · simpa using hc.1
          · simpa [Nat.add_assoc] using hc.2.1
    · intro x hx
      obtain ⟨i, hi, rfl⟩ := List.mem_map.1 hx
      exact (hE i (by have := List.mem_range.1 hi; omega)).2.2
    · rw [hlen, hx, hmm]
      simp only [DataW.weights, Try.underlying28, hB, List.map_cons, List.length_map, List.length_range]
      refine List.mem_cons_of_mem _ (List.mem_cons.2 (.inl ?_))
      omega

set_option maxRecDepth 100000 in
/-- A decoder that came in. -/
theorem open_dec {v : Value} {d : DataW H} {p : List MemPlace} {bb : Nat} (hv : Value.okWide Try.prog w .any bb 30 v) (h : DataW.Trod enc Try.prog w 0 (fun _ => true) true 30 v d p)
    (hw : ∀ n ∈ d.weights Try.prog 30, n ≤ reachBytes) :
    ∃ (l b i q f : Int) (a : Option Addr) (c : Nat) (es : List Ent), v = .agg #[.int .i64 l, .int .i64 b, .int .i64 i, .int .i64 q, .int .i64 f, .slice a es.length c] ∧ EntsAt w a es ∧ WinsFit es ∧ es.length ≤ 100000000000000 := by
  have hC : Try.prog.cellsOf 30 = 6 := by kernel_rfl
  obtain ⟨cs, rfl, hsz⟩ := okWide_struct Try.underlying30 hv
  obtain ⟨fuel, hf⟩ := h
  obtain ⟨ys, n, hx, hlen, hyl, hg⟩ := struct_fields (fs := _) Try.underlying30 (by kernel_rfl) (by rw [hC]; rfl) hf
  obtain ⟨v0, y0, hv0, _, t0⟩ := hg 0 _ rfl
  obtain ⟨v1, y1, hv1, _, t1⟩ := hg 1 _ rfl
  obtain ⟨v2, y2, hv2, _, t2⟩ := hg 2 _ rfl
  obtain ⟨v3, y3, hv3, _, t3⟩ := hg 3 _ rfl
  obtain ⟨v4, y4, hv4, _, t4⟩ := hg 4 _ rfl
  obtain ⟨v5, y5, hv5, hy5, t5⟩ := hg 5 _ rfl
  obtain ⟨l, e0, _, _⟩ := DataW.trod_int Try.underlying3 t0
  obtain ⟨b, e1, _, _⟩ := DataW.trod_int Try.underlying3 t1
  obtain ⟨i, e2, _, _⟩ := DataW.trod_int Try.underlying3 t2
  obtain ⟨q, e3, _, _⟩ := DataW.trod_int Try.underlying3 t3
  obtain ⟨f, e4, _, _⟩ := DataW.trod_int Try.underlying3 t4
  obtain ⟨a, c, es, e5, hE, hW, hwt⟩ := open_ents t5
  simp only [List.cons.injEq, and_true] at e0 e1 e2 e3 e4 e5
  subst e0 e1 e2 e3 e4 e5
  simp only [Value.cells] at hv0 hv1 hv2 hv3 hv4 hv5 hlen
  refine ⟨l, b, i, q, f, a, c, es, ?_, hE, hW, ?_⟩
  · obtain ⟨cl⟩ := cs
    simp only [List.getElem?_toArray, List.size_toArray] at *
    match cl, hsz.trans hC with
    | [c0, c1, c2, c3, c4, c5], _ =>
      simp at hv0 hv1 hv2 hv3 hv4 hv5
      subst hv0 hv1 hv2 hv3 hv4 hv5
      rfl
  · simp only [Prod.mk.injEq] at hx
    rw [hx.1] at hw
    rcases List.mem_cons.1 hwt with h0 | h0
    · omega
    · obtain ⟨k, hk, hke⟩ := List.mem_map.1 h0
      have : k ≤ reachBytes := hw k (by
        simp only [DataW.weights, Try.underlying30]
        exact DataW.weights_mem_each (j := 5) (t := 28) (d := y5.1) rfl (by rw [List.getElem?_map, hy5]; rfl) k hk)
      unfold reachBytes at this
      omega
end
end Go.Proofs.Ytcafeffgaokiaaa
namespace Go.Proofs.Ytcafeffgaokiaaa
open Go Go.RowKit Go.ChangeShapes Go.WideShapes Go.ChangeAt Go.Deep
section
variable {H : Type} {enc : TypeId × Value → H} {w : World}
set_option maxRecDepth 100000 in
theorem open_crow {fuel : Nat} {cs : List Value} {x : DataW H × List MemPlace} (h : DataW.trod enc Try.prog w 0 (fun _ => true) true fuel 82 cs = some x) :
    ∃ (q : Option Addr) (n c : Nat) (T : Nat → Int) (D : Nat → ByteArray), cs = [.slice q n c] ∧ SlAt 2 w q n (fun k j => if j = 0 then .int .i64 (T k) else .string (D k)) ∧ n ≤ c ∧ c ≤ maxLen ∧ ∀ k, k < n → (D k).size ≤ maxLen := by
  rcases open_slice_pairs Try.underlying82 Try.underlying84 (by kernel_rfl) (by rfl) (by rfl) (by kernel_rfl) (by kernel_rfl) h with ⟨hcs, _⟩ | ⟨a, len, cap, m, n, V0, V1, D0, D1, P0, P1, hcs, _, hl, hm, hmm, _, hi⟩
  · exact ⟨none, 0, 0, fun _ => 0, fun _ => ⟨#[]⟩, hcs, .inl rfl, Nat.le_refl _, by decide, fun k hk => by omega⟩
  · simp only [if_true] at hmm
    rw [hmm] at hi
    have he : ∀ i, i < cap → ∃ z : Int × ByteArray, w.cell? (a.add (i * 2)) = some (.int .i64 z.1) ∧ w.cell? (a.add (i * 2 + 1)) = some (.string z.2) ∧ z.2.size ≤ maxLen := by
      intro i hil
      obtain ⟨c0, c1, t0, t1⟩ := hi i hil
      obtain ⟨b, e0, _, _⟩ := DataW.trod_int Try.underlying3 t0
      obtain ⟨s, e1, _, hs⟩ := DataW.trod_string Try.underlying9 t1
      simp only [List.cons.injEq, and_true] at e0 e1
      rw [e0] at c0
      rw [e1] at c1
      exact ⟨(b, s), c0, c1, hs⟩
    haveI : Inhabited (Int × ByteArray) := ⟨(0, ⟨#[]⟩)⟩
    obtain ⟨E, hE⟩ := choose_lt he
    refine ⟨some a, len, cap, fun i => (E i).1, fun i => (E i).2, hcs, ?_, hl, hm, fun k hk => (hE k (by omega)).2.2⟩
    rcases Nat.eq_zero_or_pos len with h0 | h0
    · exact .inl h0
    · obtain ⟨b, off, spot⟩ := a
      have h00 := (hE 0 (by omega)).1
      have hspot : spot = none := by simpa [Addr.add] using World.cell?_spot h00
      subst hspot
      refine .inr ⟨b, off, rfl, World.block_lt_of_cell? w _ (by simpa [Addr.add] using h00), fun i hi' j hj => ?_⟩
      have hc := hE i (by omega)
      rw [Addr.add_lit, Addr.add_lit] at hc
      have : j = 0 ∨ j = 1 := by omega
      rcases this with rfl | rfl
      · simpa using hc.1
      · simpa [Nat.add_assoc] using hc.2.1
set_option maxRecDepth 100000 in
theorem open_crows {fuel : Nat} {cs : List Value} {x : DataW H × List MemPlace} (hf : DataW.trod enc Try.prog w 0 (fun _ => true) true fuel 22 cs = some x) :
    ∃ (q : Option Addr) (c : Nat) (m : EM), cs = [.slice q m.r c] ∧ m.At w q ∧ m.r ≤ maxLen ∧ ∀ i, i < m.r → m.L i ≤ maxLen ∧ ∀ k, k < m.L i → (m.D i k).size ≤ maxLen := by
  rcases open_slice1 Try.underlying22 (by kernel_rfl) hf with ⟨hcs, hx⟩ | ⟨a, len, cap, m, n, V, D, Pl, hcs, _, hl, hm, hmm, hx, hi⟩
  · refine ⟨none, 0, ⟨0, fun _ => 0, fun _ _ => 0, fun _ _ => ⟨#[]⟩⟩, hcs, ⟨fun _ => (none, 0), .inl rfl, fun i hi => ?_⟩, by decide, fun i hi => ?_⟩
    · exact absurd hi (Nat.not_lt_zero _)
    · exact absurd hi (Nat.not_lt_zero _)
  · simp only [if_true] at hmm
    rw [hmm] at hi
    have he : ∀ i, i < cap → ∃ z : (Option Addr × Nat × Nat) × ((Nat → Int) × (Nat → ByteArray)), w.cell? (a.add i) = some (.slice z.1.1 z.1.2.1 z.1.2.2) ∧ SlAt 2 w z.1.1 z.1.2.1 (fun k j => if j = 0 then .int .i64 (z.2.1 k) else .string (z.2.2 k)) ∧ z.1.2.1 ≤ maxLen ∧ ∀ k, k < z.1.2.1 → (z.2.2 k).size ≤ maxLen := by
      intro i hil
      obtain ⟨c0, t0⟩ := hi i hil
      obtain ⟨q, n, c, T, D, e0, hr, h1, h2, h3⟩ := open_crow t0
      simp only [List.cons.injEq, and_true] at e0
      rw [e0] at c0
      exact ⟨((q, n, c), (T, D)), c0, hr, Nat.le_trans h1 h2, h3⟩
    haveI : Inhabited ((Option Addr × Nat × Nat) × ((Nat → Int) × (Nat → ByteArray))) := ⟨((none, 0, 0), (fun _ => 0, fun _ => ⟨#[]⟩))⟩
    obtain ⟨E, hE⟩ := choose_lt he
    refine ⟨some a, cap, ⟨len, fun i => (E i).1.2.1, fun i => (E i).2.1, fun i => (E i).2.2⟩, hcs, ⟨fun i => ((E i).1.1, (E i).1.2.2), ?_, fun i hi' => (hE i (Nat.lt_of_lt_of_le hi' hl)).2.1⟩, Nat.le_trans hl hm, fun i hi' => (hE i (Nat.lt_of_lt_of_le hi' hl)).2.2⟩
    rcases Nat.eq_zero_or_pos len with h0 | h0
    · exact .inl h0
    · obtain ⟨b, off, spot⟩ := a
      have h00 := (hE 0 (by omega)).1
      have hspot : spot = none := by simpa [Addr.add] using World.cell?_spot h00
      subst hspot
      refine .inr ⟨b, off, rfl, World.block_lt_of_cell? w _ (by simpa [Addr.add] using h00), fun i hi' j hj => ?_⟩
      have hc := (hE i (Nat.lt_of_lt_of_le hi' hl)).1
      rw [Addr.add_lit] at hc
      have : j = 0 := by omega
      subst this
      simpa using hc
set_option maxRecDepth 100000 in
/-- An encoder that came in. -/
theorem open_enc {v : Value} {d : DataW H} {p : List MemPlace} {bb : Nat} (hv : Value.okWide Try.prog w .any bb 24 v) (h : DataW.Trod enc Try.prog w 0 (fun _ => true) true 24 v d p) :
    ∃ (l b i : Int) (a : Option Addr) (c : Nat) (m : EM), v = .agg #[.int .i64 l, .int .i64 b, .int .i64 i, .slice a m.r c] ∧ m.At w a ∧ m.Fit := by
  have hC : Try.prog.cellsOf 24 = 4 := by kernel_rfl
  obtain ⟨cs, rfl, hsz⟩ := okWide_struct Try.underlying24 hv
  obtain ⟨fuel, hf⟩ := h
  obtain ⟨ys, n, hx, hlen, hyl, hg⟩ := struct_fields (fs := _) Try.underlying24 (by kernel_rfl) (by rw [hC]; rfl) hf
  obtain ⟨v0, y0, hv0, _, t0⟩ := hg 0 _ rfl
  obtain ⟨v1, y1, hv1, _, t1⟩ := hg 1 _ rfl
  obtain ⟨v2, y2, hv2, _, t2⟩ := hg 2 _ rfl
  obtain ⟨v3, y3, hv3, _, t3⟩ := hg 3 _ rfl
  obtain ⟨l, e0, _, _⟩ := DataW.trod_int Try.underlying3 t0
  obtain ⟨b, e1, _, _⟩ := DataW.trod_int Try.underlying3 t1
  obtain ⟨i, e2, _, _⟩ := DataW.trod_int Try.underlying3 t2
  obtain ⟨a, c, m, e3, hA, h1, h2⟩ := open_crows t3
  simp only [List.cons.injEq, and_true] at e0 e1 e2 e3
  subst e0 e1 e2 e3
  simp only [Value.cells] at hv0 hv1 hv2 hv3 hlen
  refine ⟨l, b, i, a, c, m, ?_, hA, by unfold maxLen at h1; omega, fun i hi => ⟨by have := (h2 i hi).1; unfold maxLen at this; omega, fun k hk => by have := (h2 i hi).2 k hk; unfold maxLen at this; omega⟩⟩
  obtain ⟨cl⟩ := cs
  simp only [List.getElem?_toArray, List.size_toArray] at *
  match cl, hsz.trans hC with
  | [c0, c1, c2, c3], _ =>
    simp at hv0 hv1 hv2 hv3
    subst hv0 hv1 hv2 hv3
    rfl
end
end Go.Proofs.Ytcafeffgaokiaaa
