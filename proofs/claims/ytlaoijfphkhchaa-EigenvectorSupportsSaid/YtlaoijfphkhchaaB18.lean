/- slices.Compare of two lists of integers of the same length. Graphs: the edges of a graph, and their order. -/
import Derived.Test.YtlaoijfphkhchaaB16
import Derived.Deep.QuietTactic
import Derived.Test.YtlaoijfphkhchaaB7
import Derived.Deep.RegionWith
namespace Go.Proofs.Ytlaoijfphkhchaa
open Go.RowKit

/-- What a place of two lists tells. -/
def cpAt (a b : List Int) (k : Nat) : Option Int := if a.getD k 0 < b.getD k 0 then some (-1) else if b.getD k 0 < a.getD k 0 then some 1 else none
def cpL (a b : List Int) : Int := firstFrom (cpAt a b) 0 a.length 0
set_option maxRecDepth 100000 in
theorem cmpOrd_any (x y : Int) (w : World) : Calls Try.prog 117 #[.int .i64 x, .int .i64 y] w fun e w' => e = .returned (.int .i64 (if x < y then -1 else if y < x then 1 else 0)) ∧ w' = w := by
  go_enter Try.func117, Try.ntmps117
  by_cases h1 : x < y
  · have n1 : (x != x) = false := by simp
    rw [if_pos h1]
    go_wp2
    go_ret
    exact ⟨rfl, rfl⟩
  · rw [if_neg h1]
    by_cases h2 : y < x
    · rw [if_pos h2]
      have h3 : x > y := h2
      go_wp2
      go_ret
      exact ⟨rfl, rfl⟩
    · rw [if_neg h2]
      have h3 : ¬ x > y := h2
      go_wp2
      go_ret
      exact ⟨rfl, rfl⟩
set_option maxRecDepth 100000 in
set_option maxHeartbeats 2000000 in
theorem slCmp_any (a b : List Int) (pa pb : Option Addr) (ca cb : Nat) (w : World) (hA : IntsAt w pa a) (hB : IntsAt w pb b) (hl : b.length = a.length) (hla : a.length < 1000000000000) :
    Calls Try.prog 100 #[.slice pa a.length ca, .slice pb a.length cb] w fun e w' => e = .returned (.int .i64 (cpL a b)) ∧ w' = w := by
  have HA := Lib.hid hA
  have HB := Lib.hid hB
  have HL := Lib.hid hl
  clear hA hB hl
  go_enter Try.func100, Try.ntmps100
  go_wp2
  go_loop [11] (fun i => ∃ k : Nat, k ≤ a.length ∧ i = .int .i64 k ∧ Hid (cpL a b = firstFrom (cpAt a b) 0 (a.length - k) k)) (fun i => a.length - (intOf i).toNat)
  case atStart => exact ⟨0, by omega, rfl, Lib.hid rfl⟩
  case round =>
    obtain ⟨k, hk, rfl, HC⟩ := hrel
    by_cases hlt : k < a.length
    · obtain ⟨ab, ao, rfl, hab, hca⟩ := IntsAt.cells HA.out hlt
      obtain ⟨bb, bo, rfl, hbb, hcb⟩ := IntsAt.cells HB.out (show k < b.length by rw [HL.out]; exact hlt)
      have hxa := hca k hlt
      have hxb := hcb k (by rw [HL.out]; exact hlt)
      obtain ⟨x, hx⟩ : ∃ x, a.getD k 0 = x := ⟨_, rfl⟩
      obtain ⟨y, hy⟩ : ∃ y, b.getD k 0 = y := ⟨_, rfl⟩
      rw [hx] at hxa
      rw [hy] at hxb
      have HX := Lib.hid hx
      have HY := Lib.hid hy
      have i0 : (0 : Int) ≤ (k : Int) := by omega
      have i1 : (k : Int) < (a.length : Int) := by omega
      have i2 : ¬ (k : Int) ≥ (a.length : Int) := by omega
      clear hca hcb hx hy
      by_cases h1 : x < y
      · have hR : cpL a b = -1 := by
          rw [HC.out]
          refine firstFrom_some hlt ?_
          unfold cpAt
          rw [HX.out, HY.out, if_pos h1]
        have HR := Lib.hid hR
        clear hR HC
        have HCm : Hid (∀ W : World, Calls Try.prog 117 #[.int .i64 x, .int .i64 y] W fun e w' => e = .returned (.int .i64 (-1)) ∧ w' = W) := Lib.hid (fun W => by have := cmpOrd_any x y W; rwa [if_pos h1] at this)
        clear h1
        go_wp2_with (go_at_call 117; refine (HCm.out _).mono ?_; rintro e w' ⟨rfl, rfl⟩)
        go_ret
        exact ⟨by rw [HR.out]; rfl, rfl⟩
      · by_cases h2 : y < x
        · have hR : cpL a b = 1 := by
            rw [HC.out]
            refine firstFrom_some hlt ?_
            unfold cpAt
            rw [HX.out, HY.out, if_neg h1, if_pos h2]
          have HR := Lib.hid hR
          clear hR HC
          have HCm : Hid (∀ W : World, Calls Try.prog 117 #[.int .i64 x, .int .i64 y] W fun e w' => e = .returned (.int .i64 1) ∧ w' = W) := Lib.hid (fun W => by have := cmpOrd_any x y W; rwa [if_neg h1, if_pos h2] at this)
          clear h1 h2
          go_wp2_with (go_at_call 117; refine (HCm.out _).mono ?_; rintro e w' ⟨rfl, rfl⟩)
          go_ret
          exact ⟨by rw [HR.out]; rfl, rfl⟩
        · have hR : cpL a b = firstFrom (cpAt a b) 0 (a.length - (k + 1)) (k + 1) := by
            rw [HC.out]
            refine firstFrom_none hlt ?_
            unfold cpAt
            rw [HX.out, HY.out, if_neg h1, if_neg h2]
          have HR := Lib.hid hR
          clear hR HC
          have HCm : Hid (∀ W : World, Calls Try.prog 117 #[.int .i64 x, .int .i64 y] W fun e w' => e = .returned (.int .i64 0) ∧ w' = W) := Lib.hid (fun W => by have := cmpOrd_any x y W; rwa [if_neg h1, if_neg h2] at this)
          clear h1 h2
          go_wp2_with (go_at_call 117; refine (HCm.out _).mono ?_; rintro e w' ⟨rfl, rfl⟩)
          go_round
          case rel => exact ⟨k + 1, by omega, by go_num, HR⟩
          case measure => simp [intOf]; omega
    · have hR : cpL a b = 0 := by rw [HC.out]; exact firstFrom_end (by omega)
      have HR := Lib.hid hR
      clear hR HC
      have i1 : ¬ (k : Int) < (a.length : Int) := by omega
      go_wp2
      go_ret
      exact ⟨by rw [HR.out]; rfl, rfl⟩
end Go.Proofs.Ytlaoijfphkhchaa
namespace Go.Proofs.Ytlaoijfphkhchaa
open Go.RowKit Go.Shelf

/-- The numbers of an edge: From, Label, To. -/
def edC (E : Nat → Nat → Int) (i j : Nat) : Value := .int .i64 (E i j)
def EdgAt (w : World) (p : Option Addr) (n : Nat) (E : Nat → Nat → Int) : Prop := SlAt 3 w p n (edC E)
def edL (a b c : Int) : List Int := [a, b, c]
/-- The order of edges. -/
def cmp3 (a b : Nat → Int) : Int := cpL (edL (a 0) (a 1) (a 2)) (edL (b 0) (b 1) (b 2))
theorem box3 {w wr : World} {v0 v1 v2 : Value} {t : TypeId} (hb : Below (w.heap.size + 1) (w.alloc (.cells #[v0, v1, v2] t (0, 0))) wr) :
    (wr.cell? ⟨w.heap.size, 0, none⟩ = some v0 ∧ wr.cell? ⟨w.heap.size, 1, none⟩ = some v1 ∧ wr.cell? ⟨w.heap.size, 2, none⟩ = some v2) ∧
      w.heap.size < wr.heap.size ∧ Below w.heap.size w wr :=
  ⟨⟨box_cell hb (by omega) 0 _ rfl, box_cell hb (by omega) 1 _ rfl, box_cell hb (by omega) 2 _ rfl⟩,
    by have := hb.size; simp at this; omega, ((Below.refl _ _).alloc (Nat.le_refl _) _).trans (hb.mono (by omega))⟩
def mi3 (a b c : Int) : Int := if c < (if b < a then b else a) then c else if b < a then b else a
def mx2 (a b : Int) : Int := if b > a then b else a
theorem mi3_lt {a b c d : Int} : mi3 a b c < d ↔ a < d ∨ b < d ∨ c < d := by unfold mi3; repeat' split
                                                                             all_goals omega
theorem mx2_ge {a b d : Int} : mx2 a b ≥ d ↔ d ≤ a ∨ d ≤ b := by unfold mx2; split <;> omega
theorem min3 {P : Program} (ts : Array TypeId) (t : TypeId) (w : World) (a b c : Int) : (Builtin.min_ ts t #[.int .i64 a, .int .i64 b, .int .i64 c]).run P w = .ok (.int .i64 (mi3 a b c)) w := rfl
theorem max2 {P : Program} (ts : Array TypeId) (t : TypeId) (w : World) (a b : Int) : (Builtin.max_ ts t #[.int .i64 a, .int .i64 b]).run P w = .ok (.int .i64 (mx2 a b)) w := rfl
/-- A box of three cells. -/
def BoxAt3 (w : World) (g : Nat) (v0 v1 v2 : Value) : Prop := g < w.heap.size ∧ w.cell? ⟨g, 0, none⟩ = some v0 ∧ w.cell? ⟨g, 1, none⟩ = some v1 ∧ w.cell? ⟨g, 2, none⟩ = some v2
theorem BoxAt3.new (w : World) (v0 v1 v2 : Value) (t : TypeId) : BoxAt3 (w.alloc (.cells #[v0, v1, v2] t)) w.heap.size v0 v1 v2 := ⟨by simp, by simp [World.cell?_alloc_new], by simp [World.cell?_alloc_new], by simp [World.cell?_alloc_new]⟩
theorem BoxAt3.below {w w' : World} {g : Nat} {v0 v1 v2 : Value} (h : BoxAt3 w g v0 v1 v2) (hb : Below w.heap.size w w') : BoxAt3 w' g v0 v1 v2 :=
  ⟨Nat.lt_of_lt_of_le h.1 hb.size, cell_below hb h.2.1, cell_below hb h.2.2.1, cell_below hb h.2.2.2⟩
set_option maxRecDepth 100000 in
set_option maxHeartbeats 2000000 in
theorem list_any (a b c : Int) (w : World) : Calls Try.prog 76 #[.agg #[.int .i64 a, .int .i64 b, .int .i64 c]] w fun e w' => ∃ g, e = .returned (.slice (some ⟨g, 0, none⟩) 3 3) ∧ IntsAt w' (some ⟨g, 0, none⟩) (edL a b c) ∧ Below w.heap.size w w' := by
  go_enter Try.func76, Try.ntmps76
  go_wp2
  go_ret
  refine ⟨_, rfl, ?_, ?_⟩
  · refine .inr ⟨w.heap.size + 1, 0, rfl, by simp, fun i hi j hj => ?_⟩
    have h3 : i = 0 ∨ i = 1 ∨ i = 2 := by simp [edL] at hi; omega
    have h4 : j = 0 := by omega
    subst h4
    rcases h3 with rfl | rfl | rfl <;> (rw [show w.heap.size + 1 = (w.alloc (.cells #[.int .i64 a, .int .i64 b, .int .i64 c] 97)).heap.size from by simp, World.cell?_alloc_new]; simp [edL])
  · exact ((Below.refl _ _).alloc (Nat.le_refl _) _).alloc (by simp) _
set_option maxRecDepth 100000 in
set_option maxHeartbeats 2000000 in
theorem by_any (a0 a1 a2 b0 b1 b2 : Int) (g : Nat) (w : World) (hg : w.cell? ⟨g, 0, none⟩ = some (.func (.func 76) #[] #[])) (hgl : g < w.heap.size) :
    Calls Try.prog 99 #[.agg #[.int .i64 a0, .int .i64 a1, .int .i64 a2], .agg #[.int .i64 b0, .int .i64 b1, .int .i64 b2], .pointer (some ⟨g, 0, none⟩)] w fun e w' => e = .returned (.int .i64 (cpL (edL a0 a1 a2) (edL b0 b1 b2))) ∧ Below w.heap.size w w' := by
  have Hg := Lib.hid hg
  clear hg
  go_enter Try.func99, Try.ntmps99
  go_upto_region 1 with (fail)
  obtain ⟨W0, hW0⟩ : ∃ W, (w.alloc (.cells #[.int .i64 a0, .int .i64 a1, .int .i64 a2] 97)).alloc (.cells #[.int .i64 b0, .int .i64 b1, .int .i64 b2] 97) = W := ⟨_, rfl⟩
  have h1 : Below w.heap.size w W0 := by rw [← hW0]; exact ((Below.refl _ _).alloc (Nat.le_refl _) _).alloc (by simp) _
  have c0 : W0.cell? ⟨g, 0, none⟩ = some (.func (.func 76) #[] #[]) := by rw [h1.cell (p := ⟨g, 0, none⟩) hgl]; exact Hg.out
  have c1 := (box3 (w := w) (wr := W0) (v0 := .int .i64 a0) (v1 := .int .i64 a1) (v2 := .int .i64 a2) (t := 97) (by rw [← hW0]; exact (Below.refl _ _).alloc (by simp) _)).1
  have c2 : W0.cell? ⟨w.heap.size + 1, 0, none⟩ = some (.int .i64 b0) ∧ W0.cell? ⟨w.heap.size + 1, 1, none⟩ = some (.int .i64 b1) ∧ W0.cell? ⟨w.heap.size + 1, 2, none⟩ = some (.int .i64 b2) := by
    rw [← hW0]
    rw [show w.heap.size + 1 = (w.alloc (.cells #[.int .i64 a0, .int .i64 a1, .int .i64 a2] 97)).heap.size from by simp]
    refine ⟨?_, ?_, ?_⟩ <;> rw [World.cell?_alloc_new] <;> simp
  have hs0 : w.heap.size + 1 < W0.heap.size := by rw [← hW0]; simp
  obtain ⟨c10, c11, c12⟩ := c1
  obtain ⟨c20, c21, c22⟩ := c2
  rw [hW0]
  clear hW0 hgl
  have Hb := Lib.hid h1
  have Hz := Lib.hid h1.size
  obtain ⟨B0, hB0⟩ : ∃ B0, w.heap.size = B0 := ⟨_, rfl⟩
  rw [hB0] at Hb Hz c10 c11 c12 c20 c21 c22 ⊢
  obtain ⟨SS, hSe⟩ : ∃ SS : World → Prop, SS = fun W => W.cell? ⟨g, 0, none⟩ = some (.func (.func 76) #[] #[]) ∧ W.cell? ⟨B0, 0, none⟩ = some (.int .i64 a0) ∧ W.cell? ⟨B0, 1, none⟩ = some (.int .i64 a1) ∧ W.cell? ⟨B0, 2, none⟩ = some (.int .i64 a2) ∧ W.cell? ⟨B0 + 1, 0, none⟩ = some (.int .i64 b0) ∧ W.cell? ⟨B0 + 1, 1, none⟩ = some (.int .i64 b1) ∧ W.cell? ⟨B0 + 1, 2, none⟩ = some (.int .i64 b2) := ⟨_, rfl⟩
  have HS : Hid (∀ W, Below W0.heap.size W0 W → SS W) := Lib.hid (fun W hW => by rw [hSe]; exact ⟨cell_below hW c0, cell_below hW c10, cell_below hW c11, cell_below hW c12, cell_below hW c20, cell_below hW c21, cell_below hW c22⟩)
  clear c0 c10 c11 c12 c20 c21 c22 h1 Hg hs0
  have hd : Below W0.heap.size W0 W0.drew := (Below.refl W0.heap.size W0).drew
  refine wp_region_held_drew (S := SS) (by kernel_rfl) (HS.out _ hd) (fun hSS => ?_)
  refine wpAnyH_take (i := 0) (v := ?_) rfl (by kernel_rfl) (by kernel_rfl) (by kernel_rfl) (fun _ _ _ h => h) (Or.inl ⟨by rfl, ?_⟩) hSS ?_
  rotate_left 1
  next => intro w hSw; rw [hSe] at hSw; obtain ⟨s1, s2, s3, s4, s5, s6, s7⟩ := hSw; go_simp; try with_reducible rfl
  refine wpAnyH_take (i := 1) (v := ?_) rfl (by kernel_rfl) (by kernel_rfl) (by kernel_rfl) (fun _ _ _ h => h) (Or.inl ⟨by rfl, ?_⟩) hSS ?_
  rotate_left 1
  next => intro w hSw; rw [hSe] at hSw; obtain ⟨s1, s2, s3, s4, s5, s6, s7⟩ := hSw; go_simp; try with_reducible rfl
  refine wpAnyH_take (i := 3) (v := ?_) rfl (by kernel_rfl) (by kernel_rfl) (by kernel_rfl) (fun _ _ _ h => h) (Or.inl ⟨by rfl, ?_⟩) hSS ?_
  rotate_left 1
  next => intro w hSw; rw [hSe] at hSw; obtain ⟨s1, s2, s3, s4, s5, s6, s7⟩ := hSw; go_simp; try with_reducible rfl
  refine wpAnyH_take (i := 4) (v := ?_) rfl (by kernel_rfl) (by kernel_rfl) (by kernel_rfl) (fun _ _ _ h => h) (Or.inl ⟨by rfl, ?_⟩) hSS ?_
  rotate_left 1
  next => intro w hSw; rw [hSe] at hSw; obtain ⟨s1, s2, s3, s4, s5, s6, s7⟩ := hSw; go_simp; try with_reducible rfl
  try simp only [Act.put, List.getElem_toArray, List.getElem_cons_zero, List.getElem_cons_succ, List.setIfInBounds_toArray, List.set_cons_zero, List.set_cons_succ]
  refine wpAnyH_ready (rs := [2]) (by kernel_rfl) (by simp) ?_
  refine AllReadyH.cons rfl (fun K hK => ?_) AllReadyH.nil
  go_simp
  refine (list_any a0 a1 a2 _).mono ?_
  rintro e W1 ⟨g1, rfl, hI1, hbc⟩
  have hW1 : Below W0.heap.size W0 W1 := hd.trans (hbc.mono hd.size)
  dsimp only
  refine hK.out _ _ (HS.out _ hW1) (fun _ => ?_)
  clear hK K hbc
  try simp only [Act.put, List.getElem_toArray, List.getElem_cons_zero, List.getElem_cons_succ, List.setIfInBounds_toArray, List.set_cons_zero, List.set_cons_succ]
  refine wpAnyH_ready (rs := [5]) (by kernel_rfl) (by simp) ?_
  refine AllReadyH.cons rfl (fun K hK => ?_) AllReadyH.nil
  go_simp
  refine (list_any b0 b1 b2 _).mono ?_
  rintro e W2 ⟨g2, rfl, hI2, hbc⟩
  have hI1 := hI1.below (Nat.le_refl _) hbc
  have hW2 : Below W0.heap.size W0 W2 := hW1.trans (hbc.mono hW1.size)
  dsimp only
  refine hK.out _ _ (HS.out _ hW2) (fun _ => ?_)
  clear hK K hbc
  try simp only [Act.put, List.getElem_toArray, List.getElem_cons_zero, List.getElem_cons_succ, List.setIfInBounds_toArray, List.set_cons_zero, List.set_cons_succ]
  refine wpAnyH_ready (rs := [6]) (by kernel_rfl) (by simp) ?_
  refine AllReadyH.cons rfl (fun K hK => ?_) AllReadyH.nil
  go_simp
  refine (slCmp_any (edL a0 a1 a2) (edL b0 b1 b2) _ _ 3 3 _ hI1 hI2 rfl (by simp [edL])).mono ?_
  rintro e W3 ⟨rfl, rfl⟩
  dsimp only
  refine hK.out _ _ (HS.out _ hW2) (fun _ => ?_)
  clear hK K
  refine wpAnyH_take (i := 7) (v := ?_) rfl (by kernel_rfl) (by kernel_rfl) (by kernel_rfl) (fun _ _ _ h => h) (Or.inl ⟨by rfl, ?_⟩) (HS.out _ hW2) ?_
  rotate_left 1
  next => intro w hSw; rw [hSe] at hSw; obtain ⟨s1, s2, s3, s4, s5, s6, s7⟩ := hSw; go_simp; try with_reducible rfl
  refine wpAnyH_done (by kernel_rfl) ?_ _
  go_wp2
  go_ret
  exact ⟨rfl, by rw [hB0]; exact Hb.out.trans (hW2.mono Hz.out)⟩
end Go.Proofs.Ytlaoijfphkhchaa
