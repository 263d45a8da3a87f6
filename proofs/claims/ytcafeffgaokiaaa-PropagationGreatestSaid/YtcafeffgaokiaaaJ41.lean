/- The walks of grooveref28.changed and Changed. The walks of grooveref26.Great, of the example and of awake. The walk of grooveref26.Great: where it says no, the decoder is small. rational: canonical, Add, Mul, Of at any size: the walks. -/
import Derived.Test.YtcafeffgaokiaaaJ40
import Derived.Test.YtcafeffgaokiaaaJ1
import Derived.Test.YtcafeffgaokiaaaJ34
namespace Go.Proofs.Ytcafeffgaokiaaa
open Go.RowKit

end Go.Proofs.Ytcafeffgaokiaaa
namespace Go.Proofs.Ytcafeffgaokiaaa
open Go.RowKit

/-- The entries of the example. -/
def exEnts : List Ent := [⟨⟨#[48, 48]⟩, 0⟩, ⟨⟨#[48, 49]⟩, 1⟩, ⟨⟨#[49, 48]⟩, 1⟩, ⟨⟨#[49, 49]⟩, 0⟩]
theorem exFit : WinsFit exEnts := by
  intro x hx
  simp [exEnts] at hx
  rcases hx with rfl | rfl | rfl | rfl <;> decide

set_option maxHeartbeats 1000000 in
theorem example_any (w : World) :
    Calls Try.prog 42 #[] w fun e w' => ∃ q, e = .returned (.agg #[.int .i64 2, .int .i64 1, .int .i64 2, .int .i64 0, .int .i64 1, .slice q exEnts.length 4]) ∧ EntsAt w' q exEnts ∧ Below w.heap.size w w' := by
  go_enter Try.func42, Try.ntmps42
  go_wp2
  refine bodyPost_ret (v := .agg #[.int .i64 2, .int .i64 1, .int .i64 2, .int .i64 0, .int .i64 1, .slice (some ⟨w.heap.size + 1, 0, none⟩) 4 4]) (by simp [results, Try.results42, go_sem]) rfl ⟨some ⟨w.heap.size + 1, 0, none⟩, rfl, ?_, ?_⟩
  · refine .inr ⟨w.heap.size + 1, 0, rfl, by simp, fun i hi j hj => ?_⟩
    have hi' : i < 4 := hi
    rw [World.cell?_alloc_at _ _ _ _ (by simp)]
    match i, j, hi', hj with
    | 0, 0, _, _ => rfl
    | 0, 1, _, _ => rfl
    | 1, 0, _, _ => rfl
    | 1, 1, _, _ => rfl
    | 2, 0, _, _ => rfl
    | 2, 1, _, _ => rfl
    | 3, 0, _, _ => rfl
    | 3, 1, _, _ => rfl
  · exact ((Below.refl _ _).alloc (Nat.le_refl _) _).alloc (by simp) _

theorem max4 {P : Program} (ts : Array TypeId) (t : TypeId) (w : World) : (Builtin.max_ ts t #[.int .i64 0, .int .i64 0, .int .i64 0, .int .i64 0]).run P w = .ok (.int .i64 0) w := by
  rfl
theorem ex1 : chErr 2 1 2 0 1 exEnts ⟨#[48, 48, 49, 48]⟩ 1 1 = 0 := by decide +kernel
theorem ex2 : chOut 2 1 2 0 1 exEnts ⟨#[48, 48, 49, 48]⟩ 1 1 = [0, 1] := by decide +kernel
theorem ex3 : chErr 2 1 2 0 1 exEnts ⟨#[48, 48, 49, 48]⟩ 3 1 = 0 := by decide +kernel
theorem ex4 : chOut 2 1 2 0 1 exEnts ⟨#[48, 48, 49, 48]⟩ 3 1 = [2] := by decide +kernel
theorem ex5 : boundErr 2 1 2 0 1 exEnts = 0 := by decide +kernel
theorem ex6 : boundVal 2 1 2 0 1 exEnts = 2 := by decide +kernel
theorem ex7 : burstErr 2 1 2 0 1 exEnts 3 = 0 := by decide +kernel
theorem ex8 : burstVal 2 1 2 0 1 exEnts 3 = 4 := by decide +kernel

set_option maxRecDepth 100000 in
set_option maxHeartbeats 4000000 in
theorem awake_any (w : World) : Calls Try.prog 18 #[] w fun e w' => e = .returned (.bool true) ∧ Below w.heap.size w w' := by
  have hmax := @max4 Try.prog
  go_enter Try.func18, Try.ntmps18
  go_wp2_with fail
  refine (example_any _).mono ?_; rintro e w1 ⟨q1, rfl, hE1, hb1⟩
  have HE1 := Lib.hid hE1
  have Hb1 := Lib.hid hb1
  clear hE1 hb1
  go_wp2_with fail
  refine (changed_any 2 1 2 0 1 exEnts q1 4 _ 1 1 _ HE1.out exFit (by decide)).mono ?_; rintro e w2 ⟨v1, rfl, hown, hb⟩
  rw [ex1]
  rw [ex2] at hown
  obtain ⟨p1, d1, rfl, _, hI1, _⟩ := OwnInts.form hown
  have Hb2 := Lib.hid hb
  have HI1 := Lib.hid hI1
  clear hown hb hI1
  go_wp2_with fail
  refine (example_any _).mono ?_; rintro e w3 ⟨q2, rfl, hE2, hb3⟩
  have HE2 := Lib.hid hE2
  have Hb3 := Lib.hid hb3
  clear hE2 hb3
  go_wp2_with fail
  refine (changed_any 2 1 2 0 1 exEnts q2 4 _ 3 1 _ HE2.out exFit (by decide)).mono ?_; rintro e w4 ⟨v2, rfl, hown, hb⟩
  rw [ex3]
  rw [ex4] at hown
  obtain ⟨p2, d2, rfl, _, hI2, _⟩ := OwnInts.form hown
  have Hb4 := Lib.hid hb
  have HI2 := Lib.hid hI2
  clear hown hb hI2
  go_wp2_with fail
  refine (example_any _).mono ?_; rintro e w5 ⟨q3, rfl, hE3, hb5⟩
  have HE3 := Lib.hid hE3
  have Hb5 := Lib.hid hb5
  clear hE3 hb5
  go_wp2_with fail
  refine (bound_any 2 1 2 0 1 exEnts q3 4 _ HE3.out exFit).mono ?_; rintro e w6 ⟨rfl, hb⟩
  rw [ex5, ex6]
  have Hb6 := Lib.hid hb
  clear hb
  go_wp2_with fail
  refine (example_any _).mono ?_; rintro e w7 ⟨q4, rfl, hE4, hb7⟩
  have HE4 := Lib.hid hE4
  have Hb7 := Lib.hid hb7
  clear hE4 hb7
  go_wp2_with fail
  refine (burst_any 2 1 2 0 1 exEnts q4 4 3 _ HE4.out exFit).mono ?_; rintro e w8 ⟨rfl, hb⟩
  rw [ex7, ex8]
  have Hb8 := Lib.hid hb
  clear hb
  have b2 : Below w2.heap.size w2 w8 := (((((Hb3.out.trans (Hb4.out.mono Hb3.out.size)).trans (Hb5.out.mono (Nat.le_trans Hb3.out.size Hb4.out.size))).trans (Hb6.out.mono (Nat.le_trans Hb3.out.size (Nat.le_trans Hb4.out.size Hb5.out.size)))).trans (Hb7.out.mono (Nat.le_trans Hb3.out.size (Nat.le_trans Hb4.out.size (Nat.le_trans Hb5.out.size Hb6.out.size))))).trans (Hb8.out.mono (Nat.le_trans Hb3.out.size (Nat.le_trans Hb4.out.size (Nat.le_trans Hb5.out.size (Nat.le_trans Hb6.out.size Hb7.out.size))))))
  have b4 : Below w4.heap.size w4 w8 := (((Hb5.out.trans (Hb6.out.mono Hb5.out.size)).trans (Hb7.out.mono (Nat.le_trans Hb5.out.size Hb6.out.size))).trans (Hb8.out.mono (Nat.le_trans Hb5.out.size (Nat.le_trans Hb6.out.size Hb7.out.size))))
  have b0 : Below w.heap.size w w8 := (Hb1.out.trans (Hb2.out.mono Hb1.out.size)).trans (b2.mono (Nat.le_trans Hb1.out.size Hb2.out.size))
  have hJ1 : IntsAt w8 p1 [0, 1] := HI1.out.below (Nat.le_refl _) b2
  have hJ2 : IntsAt w8 p2 [2] := HI2.out.below (Nat.le_refl _) b4
  have HJ1 := Lib.hid hJ1
  have HJ2 := Lib.hid hJ2
  have B0 := Lib.hid b0
  clear hJ1 hJ2 b0 b2 b4 HE1 HE2 HE3 HE4
  go_wp2_with fail
  refine (equal_any [0, 1] [0, 1] p1 (some ⟨w8.heap.size, 0, none⟩) d1 2 _ (HJ1.out.below (Nat.le_refl _) ((Below.refl _ _).alloc (Nat.le_refl _) _)) (.inr ⟨_, 0, rfl, by simp, fun i hi j hj => ?_⟩) (by decide)).mono ?_
  · match i, j, (show i < 2 from hi), hj with
    | 0, 0, _, _ => simp
    | 1, 0, _, _ => simp
  rintro e w9 ⟨rfl, hd⟩
  have hone : (([0, 1] : List Int) == [0, 1]) = true := by decide
  rw [hone]
  have Hd9 := Lib.hid hd
  clear hone hd
  go_wp2_with fail
  refine (equal_any [2] [2] p2 (some ⟨w9.heap.size, 0, none⟩) d2 1 _ ((HJ2.out.below (Nat.le_refl _) (((Below.refl _ _).alloc (Nat.le_refl _) _).trans (Hd9.out.below _))).below (Nat.le_refl _) ((Below.refl _ _).alloc (Nat.le_refl _) _)) (.inr ⟨_, 0, rfl, by simp, fun i hi j hj => ?_⟩) (by decide)).mono ?_
  · match i, j, (show i < 1 from hi), hj with
    | 0, 0, _, _ => simp
  rintro e w10 ⟨rfl, hd⟩
  have hone : (([2] : List Int) == [2]) = true := by decide
  rw [hone]
  have Hd10 := Lib.hid hd
  clear hone hd
  go_wp2
  go_ret
  have z9 : w8.heap.size ≤ w9.heap.size := by have := (Hd9.out.below 0).size; simp at this; omega
  exact ⟨rfl, (((B0.out.alloc B0.out.size _).trans (Hd9.out.below _)).alloc (Nat.le_trans B0.out.size z9) _).trans (Hd10.out.below _)⟩
end Go.Proofs.Ytcafeffgaokiaaa
namespace Go.Proofs.Ytcafeffgaokiaaa
open Go.RowKit

/-- What the walk of a loop over the entries knows of those before k. -/
def SmallTo (es : List Ent) (k : Nat) : Prop := ∀ j, j < k → (es.getD j default).win.size ≤ 40

def GreatPost (es : List Ent) (w : World) (e : Ending) (w' : World) : Prop :=
  ∃ g : Bool, e = .returned (.bool g) ∧ (g = false → SmallTo es es.length ∧ es.length ≤ 65539) ∧ Below w.heap.size w w'

set_option maxRecDepth 100000 in
set_option maxHeartbeats 4000000 in
theorem great_any (l b i p f : Int) (es : List Ent) (a : Option Addr) (c : Nat) (w : World) (hE : EntsAt w a es) (hwins : WinsFit es) (hn : es.length ≤ 100000000000000) :
    Calls Try.prog 16 #[.agg #[.int .i64 l, .int .i64 b, .int .i64 i, .int .i64 p, .int .i64 f, .slice a es.length c]] w (GreatPost es w) := by
  have HE := Lib.hid hE
  have HW := Lib.hid hwins
  clear hE hwins
  go_enter Try.func16, Try.ntmps16
  go_wp2
  go_loopw [3, 4] (fun t s wr => ∃ k T : Nat, k ≤ es.length ∧ s = .int .i64 k ∧ t = .int .i64 T ∧ T ≤ 40 * k ∧ Below (w.heap.size + 1) (w.alloc (.cells #[.int .i64 l, .int .i64 b, .int .i64 i, .int .i64 p, .int .i64 f, .slice a es.length c] 30)) wr ∧ Hid (SmallTo es k)) (fun _ s _ => es.length - (intOf s).toNat)
  case atStart => exact ⟨0, 0, by omega, rfl, rfl, by omega, Below.refl _ _, Lib.hid (fun j hj => by omega)⟩
  case round =>
    obtain ⟨k, T, hk, rfl, rfl, hT, hb, hr⟩ := hrel
    obtain ⟨⟨c0, c1, c2, c3, c4, c5⟩, hsz, hbw⟩ := box6 hb
    by_cases hlt : k < es.length
    · obtain ⟨eb, eo, rfl, heb, hcell⟩ := EntsAt.cells HE.out hlt
      obtain ⟨x, hx⟩ : ∃ x, es.getD k default = x := ⟨_, rfl⟩
      obtain ⟨d0, d1⟩ := EntsAt.fact hcell hbw heb hlt hx
      have hkw : x.win.size ≤ 9223372036854775807 := HW.out _ (by rw [← hx]; exact getD_mem _ _ _ hlt)
      have Hx := Lib.hid hx
      have Hb := Lib.hid hb
      have Hbw := Lib.hid hbw
      clear hx hb hcell hbw
      by_cases h40 : x.win.size ≤ 40
      · have hs : SmallTo es (k + 1) := fun j hj => by
          rcases Nat.lt_or_ge j k with h | h
          · exact hr.out j h
          · have : j = k := by omega
            subst this; rw [Hx.out]; exact h40
        have Hs := Lib.hid hs
        clear hs
        go_wp2
        go_roundw
        case rel => exact ⟨k + 1, T + x.win.size, by omega, by go_num, by go_num, by omega, Hb.out, Hs⟩
        case measure => simp [intOf]; omega
      · go_wp2
        go_ret
        exact ⟨true, rfl, (fun h => by cases h), Hbw.out⟩
    · have hk' : k = es.length := by omega
      have Hk := Lib.hid hk'
      have Hbw := Lib.hid hbw
      clear hk' hb hbw
      by_cases hbig : 65539 < es.length
      · go_wp2
        all_goals
          go_ret
          refine ⟨_, rfl, fun h => ?_, Hbw.out⟩
          simp at h <;> omega
      · go_wp2
        all_goals
          go_ret
          exact ⟨_, rfl, fun h => ⟨by rw [← Hk.out]; exact hr.out, by omega⟩, Hbw.out⟩
end Go.Proofs.Ytcafeffgaokiaaa
namespace Go.Proofs.Ytcafeffgaokiaaa
open Go.RowKit Go.Shelf
theorem Box4.set4 {w : World} {g : Nat} {a b c d : Value} (h : Box4 w g a b c d) (x y z u : Value) : Box4 ((((w.setCell ⟨g, 0, none⟩ x).setCell ⟨g, 1, none⟩ y).setCell ⟨g, 2, none⟩ z).setCell ⟨g, 3, none⟩ u) g x y z u := by
  obtain ⟨h1, h2, h3, h4, h5, h6⟩ := h
  have ne : ∀ i j : Nat, i ≠ j → ∀ (W : World) (v : Value), (W.setCell ⟨g, i, none⟩ v).cell? ⟨g, j, none⟩ = W.cell? ⟨g, j, none⟩ := fun i j hij W v => World.cell?_setCell_other _ _ _ _ (by intro h; injection h with _ h; omega)
  refine ⟨?_, ?_, ?_, ?_, fun j => ?_, by simpa using h6⟩
  · rw [ne 3 0 (by decide), ne 2 0 (by decide), ne 1 0 (by decide)]; exact World.cell?_setCell_same _ _ _ h1
  · rw [ne 3 1 (by decide), ne 2 1 (by decide)]; exact World.cell?_setCell_same (u := b) _ _ _ (by rw [ne 0 1 (by decide)]; exact h2)
  · rw [ne 3 2 (by decide)]; exact World.cell?_setCell_same (u := c) _ _ _ (by rw [ne 1 2 (by decide), ne 0 2 (by decide)]; exact h3)
  · exact World.cell?_setCell_same (u := d) _ _ _ (by rw [ne 2 3 (by decide), ne 1 3 (by decide), ne 0 3 (by decide)]; exact h4)
  · rw [World.frozen?_setCell, World.frozen?_setCell, World.frozen?_setCell, World.frozen?_setCell]; exact h5 j
theorem two_box4 (w : World) (a b c d : Value) (t u : TypeId) : ∃ V, ((w.alloc (.cells #[a, b, c, d] t)).alloc (.cells #[.bool false, .string ⟨#[]⟩, .bool false, .string ⟨#[]⟩] u)) = V ∧ Box4 V w.heap.size a b c d ∧ Box4 V (w.heap.size + 1) (.bool false) (.string ⟨#[]⟩) (.bool false) (.string ⟨#[]⟩) ∧ Below w.heap.size w V := by
  have hA := Box4.new w a b c d t
  have hB := Box4.new (w.alloc (.cells #[a, b, c, d] t)) (.bool false) (.string ⟨#[]⟩) (.bool false) (.string ⟨#[]⟩) u
  rw [World.size_alloc] at hB
  have hb := (Below.refl w.heap.size w).alloc (Nat.le_refl _) (.cells #[a, b, c, d] t)
  exact ⟨_, rfl, hA.below ((Below.refl _ _).alloc (Nat.le_refl _) _) hA.2.2.2.2.2, hB, hb.alloc hb.size _⟩
theorem RetR.out {n d : Int} {w : World} {e : Ending} {w' : World} (h : RetR n d w e w') : e = .returned (.agg #[.bool (canon n).neg, .string (canon n).mag, .bool (canon d).neg, .string (canon d).mag]) ∧ Below w.heap.size w w' := h
set_option maxRecDepth 100000 in
set_option maxHeartbeats 8000000 in
theorem canonR (a b : ZI) (ha : a.mag.size ≤ 100000000) (hb : b.mag.size ≤ 100000000) (w : World) :
    Calls Try.prog 51 #[.agg #[.bool a.neg, .string a.mag, .bool b.neg, .string b.mag]] w (RetR (rloN (valZ a) (valZ b)) (rloD (valZ a) (valZ b)) w) := by
  have HL := Lib.hid (fun W => lowZ_any a b ha hb W)
  unfold RetR ratV at HL ⊢
  generalize canon (rloN (valZ a) (valZ b)) = P at *
  generalize canon (rloD (valZ a) (valZ b)) = Q at *
  clear ha hb
  go_enter Try.func51, Try.ntmps51
  go_wp2_with fail
  obtain ⟨V, hV, hA, hC, hb⟩ := two_box4 w (.bool a.neg) (.string a.mag) (.bool b.neg) (.string b.mag) 50 50
  rw [hV]
  obtain ⟨gc, hgc⟩ : ∃ k, w.heap.size + 1 = k := ⟨_, rfl⟩
  have le3 : w.heap.size ≤ gc := by omega
  rw [hgc] at hC ⊢
  clear hV hgc hA
  refine (HL.out _).mono ?_
  rintro e W ⟨rfl, hbc⟩
  dsimp only
  have HC := Lib.hid (hC.below hbc hC.2.2.2.2.2)
  have Hb := Lib.hid (hb.trans (hbc.mono hb.size))
  clear hC hb hbc
  obtain ⟨c0, c1, c2, c3, c4, _⟩ := HC.out
  have f0 := c4 0
  have f1 := c4 1
  have f2 := c4 2
  have f3 := c4 3
  clear c4
  go_wp2_with fail
  refine bodyPost_ret (v := .agg #[.bool P.neg, .string P.mag, .bool Q.neg, .string Q.mag]) ?_ rfl ⟨rfl, ?_⟩
  · simp [results, Try.results51, go_sem, c0, c1, c2, c3]
  · exact (((Hb.out.setCell le3 _).setCell le3 _).setCell le3 _).setCell le3 _
end Go.Proofs.Ytcafeffgaokiaaa
