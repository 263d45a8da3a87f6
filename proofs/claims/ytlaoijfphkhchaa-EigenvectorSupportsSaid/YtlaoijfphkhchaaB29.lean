/- eigenvector: check, zero, greatest, Greatest, Check. -/
import Derived.Test.YtlaoijfphkhchaaB28
import Derived.Test.YtlaoijfphkhchaaShelfA
namespace Go.Proofs.Ytlaoijfphkhchaa
open Go.RowKit Go.Shelf
/-- A vector of the call's own. -/
def VOwn (w : World) (B : Nat) (p : Option Addr) (n : Nat) (f : Nat → Int) : Prop := n = 0 ∨ ∃ g, p = some ⟨g, 0, none⟩ ∧ B ≤ g ∧ VAt w g n f
theorem VOwn.row {w : World} {B : Nat} {p : Option Addr} {n : Nat} {f : Nat → Int} (h : VOwn w B p n f) : VRow w p n f := by
  rcases h with h | ⟨g, rfl, _, h⟩
  · exact .inl h
  · exact h.row
theorem VOwn.below {w w' : World} {B : Nat} {p : Option Addr} {n : Nat} {f : Nat → Int} (h : VOwn w B p n f) {C : Nat} (hC : w.heap.size ≤ C) (hb : Below C w w') : VOwn w' B p n f := by
  rcases h with h | ⟨g, rfl, hg, h⟩
  · exact .inl h
  · exact .inr ⟨g, rfl, hg, h.below hb (Nat.lt_of_lt_of_le h.1 hC)⟩
theorem VOwn.base {w : World} {B B' : Nat} {p : Option Addr} {n : Nat} {f : Nat → Int} (h : VOwn w B p n f) (hB : B' ≤ B) : VOwn w B' p n f := by
  rcases h with h | ⟨g, rfl, hg, h⟩
  · exact .inl h
  · exact .inr ⟨g, rfl, Nat.le_trans hB hg, h⟩
theorem VOwn.congr {w : World} {B : Nat} {p : Option Addr} {n : Nat} {f g : Nat → Int} (h : VOwn w B p n f) (e : ∀ k, k < n → f k = g k) : VOwn w B p n g := by
  rcases h with h | ⟨b, rfl, hg, h⟩
  · exact .inl h
  · exact .inr ⟨b, rfl, hg, h.congr e⟩
def RetVecO (n : Nat) (f : Nat → Int) (w : World) (e : Ending) (w' : World) : Prop := ∃ p cap, e = .returned (.slice p n cap) ∧ VOwn w' w.heap.size p n f ∧ Below w.heap.size w w'
theorem clone_any (n : Nat) (p : Option Addr) (c : Nat) (f : Nat → Int) (hn : n ≤ 1000000) (w : World) (hV : VRow w p n f) :
    Calls Try.prog 29 #[.slice p n c] w (RetVecO n f w) := by
  by_cases h0 : n = 0
  · subst h0
    cases p with
    | none =>
      refine (Try.slices_Clone_int_nil 0 c w).mono ?_
      rintro e w' ⟨rfl, rfl⟩
      exact ⟨none, 0, rfl, .inl rfl, Below.refl _ _⟩
    | some a =>
      refine (Try.slices_Clone_int_zero a c w).mono ?_
      rintro e w' ⟨v', rfl, ho, _, hb⟩
      rcases ho.2 with ⟨rfl, _⟩ | ⟨g, cap, cur, rfl, _⟩
      · exact ⟨none, 0, rfl, .inl rfl, hb⟩
      · exact ⟨_, cap, rfl, .inl rfl, hb⟩
  · obtain ⟨b, off, rfl, hlt, hc⟩ := VRow.cells hV (k := 0) (by omega)
    refine (Try.slices_Clone_int b off n c (vecL f n) w (by rw [vecL_len]; exact Nat.le_refl _) (by omega) (fun j hj => by rw [vecL_len] at hj; rw [vecL_get f n hj]; exact hc j hj)).mono ?_
    rintro e w' ⟨v', rfl, ho, _, hb⟩
    have hl : ((vecL f n).take n).map (Value.int .i64) = (vecL f n).map (Value.int .i64) := by rw [List.take_of_length_le (by rw [vecL_len]; exact Nat.le_refl _)]
    rw [hl] at ho
    rcases ho.2 with ⟨rfl, h⟩ | ⟨g, cap, cur, rfl, hg, hh, hnc, r⟩
    · omega
    · refine ⟨_, cap, rfl, .inr ⟨g, rfl, hg, ⟨(Array.getElem?_eq_some_iff.1 hh).1, fun k hk => ⟨?_, ?_⟩⟩⟩, hb⟩
      · have := ho.cells (g := g) rfl k (.int .i64 (f k)) (by simp [vecL, hk])
        rw [← this, Addr.add_lit]; simp
      · unfold World.frozen?; simp only [hh]; simp
/-- What check says of a graph, a vector and a number. -/
def vChk (L S : Int) (n : Nat) (E : Nat → Nat → Int) (m : Int) (nv : Nat) (v : Nat → Int) : Int :=
  if gChk L S n E ≠ 0 then 1 else if m < 1 ∨ 256 < m then 2 else if (nv : Int) ≠ S then 11 else if anyN (fun k => decide (v k < 0 ∨ 4096 < v k)) nv = true then 2 else 0
set_option maxRecDepth 100000 in
theorem evBad_any (x : Int) (w : World) : Calls Try.prog 89 #[.int .i64 x] w (RetB (decide (x < 0 ∨ 4096 < x)) w) := by
  by_cases h1 : x < 0
  · rw [show decide (x < 0 ∨ 4096 < x) = true from decide_eq_true (.inl h1)]
    go_enter Try.func89, Try.ntmps89
    go_wp2
    go_ret
    exact ⟨rfl, Below.refl _ _⟩
  · by_cases h2 : 4096 < x
    · rw [show decide (x < 0 ∨ 4096 < x) = true from decide_eq_true (.inr h2)]
      go_enter Try.func89, Try.ntmps89
      go_wp2
      go_ret
      exact ⟨rfl, Below.refl _ _⟩
    · rw [show decide (x < 0 ∨ 4096 < x) = false from decide_eq_false (by omega)]
      go_enter Try.func89, Try.ntmps89
      go_wp2
      go_ret
      exact ⟨rfl, Below.refl _ _⟩
set_option maxRecDepth 100000 in
theorem evNz_any (x : Int) (w : World) : Calls Try.prog 91 #[.int .i64 x] w (RetB (x != 0) w) := by
  go_enter Try.func91, Try.ntmps91
  go_wp2
  go_ret
  exact ⟨rfl, Below.refl _ _⟩
set_option maxRecDepth 100000 in
theorem evZero_any (n : Nat) (p : Option Addr) (c : Nat) (f : Nat → Int) (hn : n ≤ 1000000) (w : World) (hV : VRow w p n f) :
    Calls Try.prog 62 #[.slice p n c] w (RetB (!anyN (fun k => f k != 0) n) w) := by
  have HC := Lib.hid (containsFn_i n p c f 91 #[] (fun k => f k != 0) w (enters_of Try.func91 (by kernel_rfl) rfl) (by omega) hV (fun k W _ _ => evNz_any (f k) W))
  obtain ⟨b, hb⟩ : ∃ b, anyN (fun k => f k != 0) n = b := ⟨_, rfl⟩
  rw [hb] at HC ⊢
  clear hb hV
  go_enter Try.func62, Try.ntmps62
  go_wp2_with fail
  refine HC.out.mono ?_
  rintro e w2 ⟨rfl, hb⟩
  dsimp only
  have Hb := Lib.hid hb
  clear hb
  go_wp2
  go_ret
  exact ⟨rfl, Hb.out⟩
set_option maxRecDepth 100000 in
set_option maxHeartbeats 4000000 in
theorem evChk_any (L S : Int) (n : Nat) (E : Nat → Nat → Int) (p : Option Addr) (c : Nat) (m : Int) (nv : Nat) (v : Nat → Int) (pv : Option Addr) (cv : Nat) (hnv : nv ≤ 1000000000000) (w : World) (hE : EdgAt w p n E) (hV : VRow w pv nv v) :
    Calls Try.prog 57 #[.agg #[.int .i64 L, .int .i64 S, .slice p n c], .slice pv nv cv, .int .i64 m] w (RetInt (vChk L S n E m nv v) w) := by
  obtain ⟨W0, hW0⟩ : ∃ W, w.alloc (.cells #[.int .i64 L, .int .i64 S, .slice p n c] 24) = W := ⟨_, rfl⟩
  have hb0 : Below w.heap.size w W0 := by rw [← hW0]; exact (Below.refl _ _).alloc (Nat.le_refl _) _
  have hbx : BoxAt3 W0 w.heap.size (.int .i64 L) (.int .i64 S) (.slice p n c) := by rw [← hW0]; exact BoxAt3.new w _ _ _ _
  have HG := Lib.hid (gcheck_any L S n E p c W0 (hE.mono (Nat.le_refl _) hb0))
  have HB : Hid (∀ W, Below W0.heap.size W0 W → BoxAt3 W w.heap.size (.int .i64 L) (.int .i64 S) (.slice p n c) ∧ Below w.heap.size w W) := Lib.hid (fun W hW => ⟨hbx.below hW, hb0.trans (hW.mono hb0.size)⟩)
  have HC := Lib.hid (fun W (hW : Below W0.heap.size W0 W) => containsFn_i nv pv cv v 89 #[] (fun k => decide (v k < 0 ∨ 4096 < v k)) W (enters_of Try.func89 (by kernel_rfl) rfl) hnv ((hV.below (Nat.le_refl _) hb0).below (Nat.le_refl _) hW) (fun k W _ _ => evBad_any (v k) W))
  obtain ⟨_, c0, c1, c2⟩ := hbx
  obtain ⟨r, hr⟩ : ∃ r, vChk L S n E m nv v = r := ⟨_, rfl⟩
  rw [hr]
  have HR := Lib.hid hr
  unfold vChk at HR
  obtain ⟨b, hb⟩ : ∃ b, anyN (fun k => decide (v k < 0 ∨ 4096 < v k)) nv = b := ⟨_, rfl⟩
  rw [hb] at HC HR
  obtain ⟨gc, hgc⟩ : ∃ b, gChk L S n E = b := ⟨_, rfl⟩
  rw [hgc] at HG HR
  clear hb hgc hr hE hV hb0
  by_cases h1 : gc = 0
  rotate_left 1
  · have e1 : (gc != 0) = true := by rw [bne_iff_ne]; exact h1
    have hr : (1 : Int) = r := by rw [← HR.out, if_pos h1]
    clear HR h1
    have HR := Lib.hid hr
    clear hr
    go_enter Try.func57, Try.ntmps57
    go_wp2_with fail
    try rw [hW0]
    refine HG.out.mono ?_
    rintro e W1 ⟨rfl, hb⟩
    dsimp only
    obtain ⟨⟨_, z0, z1, z2⟩, hb1⟩ := HB.out _ hb
    have Hb1 := Lib.hid hb1
    clear hb1 HG HB c0 c1 c2 hW0
    clear hb
    go_wp2_with fail
    go_ret
    exact ⟨by rw [← HR.out]; rfl, Hb1.out⟩
  have e1 : (gc != 0) = false := by rw [h1]; rfl
  by_cases h2 : m < 1 ∨ 256 < m
  · have hr : (2 : Int) = r := by rw [← HR.out, if_neg (show ¬ (gc ≠ 0) from fun h => h h1), if_pos h2]
    clear HR h1
    have HR := Lib.hid hr
    clear hr
    rcases h2 with h2 | h2
    · (
      go_enter Try.func57, Try.ntmps57
      go_wp2_with fail
      try rw [hW0]
      refine HG.out.mono ?_
      rintro e W1 ⟨rfl, hb⟩
      dsimp only
      obtain ⟨⟨_, z0, z1, z2⟩, hb1⟩ := HB.out _ hb
      have Hb1 := Lib.hid hb1
      clear hb1 HG HB c0 c1 c2 hW0
      clear hb
      go_wp2_with fail
      all_goals (go_ret; exact ⟨by rw [← HR.out]; rfl, Hb1.out⟩))
    · have h3 : ¬ m < 1 := by omega
      go_enter Try.func57, Try.ntmps57
      go_wp2_with fail
      try rw [hW0]
      refine HG.out.mono ?_
      rintro e W1 ⟨rfl, hb⟩
      dsimp only
      obtain ⟨⟨_, z0, z1, z2⟩, hb1⟩ := HB.out _ hb
      have Hb1 := Lib.hid hb1
      clear hb1 HG HB c0 c1 c2 hW0
      clear hb
      go_wp2_with fail
      all_goals (go_ret; exact ⟨by rw [← HR.out]; rfl, Hb1.out⟩)
  have h3 : ¬ m < 1 := by omega
  have h4 : ¬ 256 < m := by omega
  by_cases h5 : (nv : Int) = S
  rotate_left 1
  · have e2 : ((nv : Int) != S) = true := by rw [bne_iff_ne]; exact h5
    have hr : (11 : Int) = r := by rw [← HR.out, if_neg (show ¬ (gc ≠ 0) from fun h => h h1), if_neg h2, if_pos h5]
    clear HR h1 h2 h5
    have HR := Lib.hid hr
    clear hr
    go_enter Try.func57, Try.ntmps57
    go_wp2_with fail
    try rw [hW0]
    refine HG.out.mono ?_
    rintro e W1 ⟨rfl, hb⟩
    dsimp only
    obtain ⟨⟨_, z0, z1, z2⟩, hb1⟩ := HB.out _ hb
    have Hb1 := Lib.hid hb1
    clear hb1 HG HB c0 c1 c2 hW0
    clear hb
    go_wp2_with fail
    go_ret
    exact ⟨by rw [← HR.out]; rfl, Hb1.out⟩
  have e2 : ((nv : Int) != S) = false := by rw [bne_eq_false_iff_eq]; exact h5
  have hr : (if b = true then (2 : Int) else 0) = r := by rw [← HR.out, if_neg (show ¬ (gc ≠ 0) from fun h => h h1), if_neg h2, if_neg (show ¬ ((nv : Int) ≠ S) from fun h => h h5)]
  clear HR h1 h2 h5
  have HR := Lib.hid hr
  clear hr
  go_enter Try.func57, Try.ntmps57
  go_wp2_with fail
  try rw [hW0]
  refine HG.out.mono ?_
  rintro e W1 ⟨rfl, hb⟩
  dsimp only
  obtain ⟨⟨_, z0, z1, z2⟩, hb1⟩ := HB.out _ hb
  have Hb1 := Lib.hid hb1
  clear hb1 HG HB c0 c1 c2 hW0
  go_wp2_with fail
  refine (HC.out _ hb).mono ?_
  rintro e W2 ⟨rfl, hb2⟩
  dsimp only
  have Hb2 := Lib.hid (Hb1.out.trans (hb2.mono Hb1.out.size))
  clear hb hb2 Hb1 HC z0 z1 z2
  cases b
  · go_wp2
    go_ret
    exact ⟨by rw [← HR.out]; rfl, Hb2.out⟩
  · go_wp2
    go_ret
    exact ⟨by rw [← HR.out]; rfl, Hb2.out⟩
end Go.Proofs.Ytlaoijfphkhchaa
