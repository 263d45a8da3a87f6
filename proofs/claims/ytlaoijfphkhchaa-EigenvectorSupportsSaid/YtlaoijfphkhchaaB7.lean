/- The walks of matrix.sum and of its closure. -/
import Derived.Test.YtlaoijfphkhchaaB6
namespace Go.Proofs.Ytlaoijfphkhchaa
open Go.RowKit Go.Shelf

theorem addc_any (a b : Int) (ha : (canon a).mag.size ≤ 100000000) (hb : (canon b).mag.size ≤ 100000000) (w : World) :
    Calls Try.prog 15 #[.agg #[.bool (canon a).neg, .string (canon a).mag], .agg #[.bool (canon b).neg, .string (canon b).mag]] w (RetZ (canon (a + b)) w) := by
  have h := add_z (canon a) (canon b) ha hb w
  rwa [addZ_val, valZ_canon, valZ_canon] at h
theorem mulc_any (a b : Int) (ha : (canon a).mag.size ≤ 100000000) (hb : (canon b).mag.size ≤ 100000000) (w : World) :
    Calls Try.prog 16 #[.agg #[.bool (canon a).neg, .string (canon a).mag], .agg #[.bool (canon b).neg, .string (canon b).mag]] w (RetZ (canon (a * b)) w) := by
  have h := mul_any (canon a) (canon b) ha hb w
  rwa [mulZ_val, valZ_canon, valZ_canon] at h
/-- All entries are of moderate size. -/
def Small (r c : Nat) (F : Nat → Nat → Int) : Prop := ∀ i k, i < r → k < c → (canon (F i k)).mag.size ≤ 100000000

theorem cell_below {w W : World} {a : Addr} {v : Value} (hW : Below w.heap.size w W) (h : w.cell? a = some v) : W.cell? a = some v := (hW.cell (World.block_lt_of_cell? w a h)).trans h

set_option maxRecDepth 100000 in
set_option maxHeartbeats 4000000 in
theorem sum1_any (r c i k ga gb : Nat) (p q : Option Addr) (n cp cq : Nat) (F G : Nat → Nat → Int) (hi : i < r) (hk : k < c) (w : World) (ha : w.cell? ⟨ga, 0, none⟩ = some (.slice p r cp)) (hb : w.cell? ⟨gb, 0, none⟩ = some (.slice q n cq)) (hn : r ≤ n)
    (hF : MatF w p r c F) (hG : MatF w q n c G) (hsF : Small r c F) (hsG : Small n c G) :
    Calls Try.prog 124 #[.int .i64 (i : Int), .int .i64 (k : Int), .pointer (some ⟨ga, 0, none⟩), .pointer (some ⟨gb, 0, none⟩)] w (RetZ (canon (F i k + G i k)) w) := by
  obtain ⟨fb, fo, rfl, _, H, hH, hR⟩ := hF.cells hi
  obtain ⟨qb, qo, rfl, _, K, hK, hQ⟩ := hG.cells (show i < n by omega)
  have a2 := hH i hi
  have b2 := hK i (by omega)
  obtain ⟨ab, ao, hpe, _, hac⟩ := (hR i hi).cells hk
  obtain ⟨bb, bo, hqe, _, hbc⟩ := (hQ i (by omega)).cells hk
  rw [hpe] at a2
  rw [hqe] at b2
  obtain ⟨a3, a4⟩ := hac k hk
  obtain ⟨b3, b4⟩ := hbc k hk
  have HA := Lib.hid (addc_any (F i k) (G i k) (hsF i k hi hk) (hsG i k (by omega) hk))
  have i0 : (0 : Int) ≤ (i : Int) := by omega
  have i1 : (i : Int) < (r : Int) := by omega
  have i2 : (i : Int) < (n : Int) := by omega
  have k0 : (0 : Int) ≤ (k : Int) := by omega
  have k1 : (k : Int) < (c : Int) := by omega
  obtain ⟨X, hX⟩ : ∃ X, canon (F i k) = X := ⟨_, rfl⟩
  obtain ⟨Y, hY⟩ : ∃ Y, canon (G i k) = Y := ⟨_, rfl⟩
  obtain ⟨Z, hZ⟩ : ∃ Z, canon (F i k + G i k) = Z := ⟨_, rfl⟩
  rw [hX] at a3 a4 HA
  rw [hY] at b3 b4 HA
  rw [hZ] at HA ⊢
  have S0 : w.cell? ⟨ga, 0, none⟩ = some (.slice (some ⟨fb, fo, none⟩) r cp) ∧ w.cell? ⟨gb, 0, none⟩ = some (.slice (some ⟨qb, qo, none⟩) n cq) ∧ w.cell? ⟨fb, fo + i, none⟩ = some (.slice (some ⟨ab, ao, none⟩) c (H i).2) ∧ w.cell? ⟨qb, qo + i, none⟩ = some (.slice (some ⟨bb, bo, none⟩) c (K i).2) ∧ w.cell? ⟨ab, ao + k * 2, none⟩ = some (.bool X.neg) ∧ w.cell? ⟨ab, ao + k * 2 + 1, none⟩ = some (.string X.mag) ∧ w.cell? ⟨bb, bo + k * 2, none⟩ = some (.bool Y.neg) ∧ w.cell? ⟨bb, bo + k * 2 + 1, none⟩ = some (.string Y.mag) := ⟨ha, hb, a2, b2, a3, a4, b3, b4⟩
  have hS : ∀ W, Below w.heap.size w W → W.cell? ⟨ga, 0, none⟩ = some (.slice (some ⟨fb, fo, none⟩) r cp) ∧ W.cell? ⟨gb, 0, none⟩ = some (.slice (some ⟨qb, qo, none⟩) n cq) ∧ W.cell? ⟨fb, fo + i, none⟩ = some (.slice (some ⟨ab, ao, none⟩) c (H i).2) ∧ W.cell? ⟨qb, qo + i, none⟩ = some (.slice (some ⟨bb, bo, none⟩) c (K i).2) ∧ W.cell? ⟨ab, ao + k * 2, none⟩ = some (.bool X.neg) ∧ W.cell? ⟨ab, ao + k * 2 + 1, none⟩ = some (.string X.mag) ∧ W.cell? ⟨bb, bo + k * 2, none⟩ = some (.bool Y.neg) ∧ W.cell? ⟨bb, bo + k * 2 + 1, none⟩ = some (.string Y.mag) := fun W hW => by
    obtain ⟨s1, s2, s3, s4, s5, s6, s7, s8⟩ := S0
    exact ⟨cell_below hW s1, cell_below hW s2, cell_below hW s3, cell_below hW s4, cell_below hW s5, cell_below hW s6, cell_below hW s7, cell_below hW s8⟩
  have HS := Lib.hid hS
  clear hX hY hZ hS S0 ha hb a2 b2 a3 a4 b3 b4 hac hbc hpe hqe hH hK hR hQ hF hG hsF hsG
  go_enter Try.func124, Try.ntmps124
  go_wp2
  have hA0 := BoxAt.new w (.bool false) (.string ⟨#[]⟩) 28
  have hb0 := (Below.refl w.heap.size w).alloc (Nat.le_refl _) (.cells #[.bool false, .string ⟨#[]⟩] 28)
  generalize w.alloc (.cells #[.bool false, .string ⟨#[]⟩] 28) = w1 at *
  obtain ⟨g, hg⟩ : ∃ g, w.heap.size = g := ⟨_, rfl⟩
  rw [hg] at hA0 ⊢
  have hgl : g < w1.heap.size := hA0.2.2.2.2
  refine wp_region_held_drew (S := fun W => W.cell? ⟨ga, 0, none⟩ = some (.slice (some ⟨fb, fo, none⟩) r cp) ∧ W.cell? ⟨gb, 0, none⟩ = some (.slice (some ⟨qb, qo, none⟩) n cq) ∧ W.cell? ⟨fb, fo + i, none⟩ = some (.slice (some ⟨ab, ao, none⟩) c (H i).2) ∧ W.cell? ⟨qb, qo + i, none⟩ = some (.slice (some ⟨bb, bo, none⟩) c (K i).2) ∧ W.cell? ⟨ab, ao + k * 2, none⟩ = some (.bool X.neg) ∧ W.cell? ⟨ab, ao + k * 2 + 1, none⟩ = some (.string X.mag) ∧ W.cell? ⟨bb, bo + k * 2, none⟩ = some (.bool Y.neg) ∧ W.cell? ⟨bb, bo + k * 2 + 1, none⟩ = some (.string Y.mag)) (by kernel_rfl) (HS.out _ hb0.drew) (fun hSS => ?_)
  refine wpAnyH_take (i := 0) (v := ?_) rfl (by kernel_rfl) (by kernel_rfl) (by kernel_rfl) (fun _ _ _ h => h) (Or.inl ⟨by rfl, ?_⟩) hSS ?_
  rotate_left 1
  next => intro w hSw; obtain ⟨s1, s2, s3, s4, s5, s6, s7, s8⟩ := hSw; go_simp; try with_reducible rfl
  refine wpAnyH_take (i := 1) (v := ?_) rfl (by kernel_rfl) (by kernel_rfl) (by kernel_rfl) (fun _ _ _ h => h) (Or.inl ⟨by rfl, ?_⟩) hSS ?_
  rotate_left 1
  next => intro w hSw; obtain ⟨s1, s2, s3, s4, s5, s6, s7, s8⟩ := hSw; go_simp; try with_reducible rfl
  refine wpAnyH_take (i := 2) (v := ?_) rfl (by kernel_rfl) (by kernel_rfl) (by kernel_rfl) (fun _ _ _ h => h) (Or.inl ⟨by rfl, ?_⟩) hSS ?_
  rotate_left 1
  next => intro w hSw; obtain ⟨s1, s2, s3, s4, s5, s6, s7, s8⟩ := hSw; go_simp; try with_reducible rfl
  refine wpAnyH_take (i := 3) (v := ?_) rfl (by kernel_rfl) (by kernel_rfl) (by kernel_rfl) (fun _ _ _ h => h) (Or.inl ⟨by rfl, ?_⟩) hSS ?_
  rotate_left 1
  next => intro w hSw; obtain ⟨s1, s2, s3, s4, s5, s6, s7, s8⟩ := hSw; go_simp; try with_reducible rfl
  refine wpAnyH_take (i := 4) (v := ?_) rfl (by kernel_rfl) (by kernel_rfl) (by kernel_rfl) (fun _ _ _ h => h) (Or.inl ⟨by rfl, ?_⟩) hSS ?_
  rotate_left 1
  next => intro w hSw; obtain ⟨s1, s2, s3, s4, s5, s6, s7, s8⟩ := hSw; go_simp; try with_reducible rfl
  refine wpAnyH_take (i := 5) (v := ?_) rfl (by kernel_rfl) (by kernel_rfl) (by kernel_rfl) (fun _ _ _ h => h) (Or.inl ⟨by rfl, ?_⟩) hSS ?_
  rotate_left 1
  next => intro w hSw; obtain ⟨s1, s2, s3, s4, s5, s6, s7, s8⟩ := hSw; go_simp; try with_reducible rfl
  refine wpAnyH_take (i := 6) (v := ?_) rfl (by kernel_rfl) (by kernel_rfl) (by kernel_rfl) (fun _ _ _ h => h) (Or.inl ⟨by rfl, ?_⟩) hSS ?_
  rotate_left 1
  next => intro w hSw; obtain ⟨s1, s2, s3, s4, s5, s6, s7, s8⟩ := hSw; go_simp; try with_reducible rfl
  refine wpAnyH_take (i := 7) (v := ?_) rfl (by kernel_rfl) (by kernel_rfl) (by kernel_rfl) (fun _ _ _ h => h) (Or.inl ⟨by rfl, ?_⟩) hSS ?_
  rotate_left 1
  next => intro w hSw; obtain ⟨s1, s2, s3, s4, s5, s6, s7, s8⟩ := hSw; go_simp; try with_reducible rfl
  refine wpAnyH_take (i := 8) (v := ?_) rfl (by kernel_rfl) (by kernel_rfl) (by kernel_rfl) (fun _ _ _ h => h) (Or.inl ⟨by rfl, ?_⟩) hSS ?_
  rotate_left 1
  next => intro w hSw; obtain ⟨s1, s2, s3, s4, s5, s6, s7, s8⟩ := hSw; go_simp; try with_reducible rfl
  refine wpAnyH_take (i := 9) (v := ?_) rfl (by kernel_rfl) (by kernel_rfl) (by kernel_rfl) (fun _ _ _ h => h) (Or.inl ⟨by rfl, ?_⟩) hSS ?_
  rotate_left 1
  next => intro w hSw; obtain ⟨s1, s2, s3, s4, s5, s6, s7, s8⟩ := hSw; go_simp; try with_reducible rfl
  refine wpAnyH_take (i := 10) (v := ?_) rfl (by kernel_rfl) (by kernel_rfl) (by kernel_rfl) (fun _ _ _ h => h) (Or.inl ⟨by rfl, ?_⟩) hSS ?_
  rotate_left 1
  next => intro w hSw; obtain ⟨s1, s2, s3, s4, s5, s6, s7, s8⟩ := hSw; go_simp; try with_reducible rfl
  refine wpAnyH_take (i := 11) (v := ?_) rfl (by kernel_rfl) (by kernel_rfl) (by kernel_rfl) (fun _ _ _ h => h) (Or.inl ⟨by rfl, ?_⟩) hSS ?_
  rotate_left 1
  next => intro w hSw; obtain ⟨s1, s2, s3, s4, s5, s6, s7, s8⟩ := hSw; go_simp; try with_reducible rfl
  refine wpAnyH_take (i := 12) (v := ?_) rfl (by kernel_rfl) (by kernel_rfl) (by kernel_rfl) (fun _ _ _ h => h) (Or.inl ⟨by rfl, ?_⟩) hSS ?_
  rotate_left 1
  next => intro w hSw; obtain ⟨s1, s2, s3, s4, s5, s6, s7, s8⟩ := hSw; go_simp; try with_reducible rfl
  refine wpAnyH_take (i := 13) (v := ?_) rfl (by kernel_rfl) (by kernel_rfl) (by kernel_rfl) (fun _ _ _ h => h) (Or.inl ⟨by rfl, ?_⟩) hSS ?_
  rotate_left 1
  next => intro w hSw; obtain ⟨s1, s2, s3, s4, s5, s6, s7, s8⟩ := hSw; go_simp; try with_reducible rfl
  refine wpAnyH_ready (rs := [14]) (by kernel_rfl) (by simp) ?_
  refine AllReadyH.cons rfl (fun K hK => ?_) AllReadyH.nil
  go_simp
  refine (HA.out _).mono ?_
  rintro e5 w5 ⟨rfl, hb⟩
  have hb5 := (hb0.drew).trans (hb.mono (by have := hb0.size; exact this))
  have hA5 : BoxAt w5 g (.bool false) (.string ⟨#[]⟩) := BoxAt.below (w := w1.drew) hA0 hb hgl
  obtain ⟨z1, z2, z3, z4, z5⟩ := hA5
  have hS5 := HS.out _ hb5
  dsimp only
  refine hK.out _ _ hS5 (fun _ => ?_)
  clear hK K
  refine wpAnyH_ready (rs := [15]) (by kernel_rfl) (by simp) ?_
  refine AllReadyH.cons rfl (fun K hK => ?_) AllReadyH.nil
  go_simp
  have hb6 := (hb5.setCell (p := ⟨g, 0, none⟩) (by show w.heap.size ≤ g; omega) (.bool Z.neg)).setCell (p := ⟨g, 1, none⟩) (by show w.heap.size ≤ g; omega) (.string Z.mag)
  have hS6 := HS.out _ hb6
  have r0 : ((w5.setCell ⟨g, 0, none⟩ (.bool Z.neg)).setCell ⟨g, 1, none⟩ (.string Z.mag)).cell? ⟨g, 0, none⟩ = some (.bool Z.neg) := by rw [World.cell?_setCell_other _ _ _ _ (by intro hh; simp only [Addr.mk.injEq] at hh; omega)]; exact World.cell?_setCell_same _ _ _ z1
  have r1 : ((w5.setCell ⟨g, 0, none⟩ (.bool Z.neg)).setCell ⟨g, 1, none⟩ (.string Z.mag)).cell? ⟨g, 1, none⟩ = some (.string Z.mag) := World.cell?_setCell_same _ _ _ (u := .string ⟨#[]⟩) (by rw [World.cell?_setCell_other _ _ _ _ (by intro hh; simp only [Addr.mk.injEq] at hh; omega)]; exact z2)
  have Hb6 := Lib.hid hb6
  generalize (w5.setCell ⟨g, 0, none⟩ (.bool Z.neg)).setCell ⟨g, 1, none⟩ (.string Z.mag) = w6 at *
  refine hK.out _ _ hS6 (fun _ => ?_)
  clear hK K hb6 hS6 hS5 hb5 hb0 z1 z2 z3 z4
  refine wpAnyH_done (by kernel_rfl) ?_ _
  go_wp2
  refine bodyPost_ret (v := .agg #[.bool Z.neg, .string Z.mag]) ?_ rfl ⟨rfl, Hb6.out⟩
  simp [results, Try.results124, go_sem, r0, r1]

set_option maxRecDepth 100000 in
set_option maxHeartbeats 4000000 in
theorem sum_any (r c : Nat) (p q : Option Addr) (cp cq : Nat) (F G : Nat → Nat → Int) (h1 : 0 < r) (hr : r ≤ 1000000) (hc : c ≤ 1000000) (w : World) (hF : MatF w p r c F) (hG : MatF w q r c G) (hsF : Small r c F) (hsG : Small r c G) :
    Calls Try.prog 106 #[.slice p r cp, .slice q r cq] w (RetOwn r c (fun i k => F i k + G i k) w) := by
  have HT := Lib.hid (fun W (hW : Below ((w.alloc (.cells #[.slice p r cp] 63)).alloc (.cells #[.slice q r cq] 63)).heap.size ((w.alloc (.cells #[.slice p r cp] 63)).alloc (.cells #[.slice q r cq] 63)) W) => table_any r c hr hc 124 #[.pointer (some ⟨w.heap.size, 0, none⟩), .pointer (some ⟨w.heap.size + 1, 0, none⟩)] (fun i k => F i k + G i k) W (enters_of Try.func124 (by kernel_rfl) rfl) (fun i k V hi hk hV => by
    have hb0 : Below w.heap.size w ((w.alloc (.cells #[.slice p r cp] 63)).alloc (.cells #[.slice q r cq] 63)) := ((Below.refl _ w).alloc (Nat.le_refl _) _).alloc (by simp) _
    have hall : Below w.heap.size w V := (hb0.trans (hW.mono (by simp; omega))).trans (hV.mono (by have := (hb0.trans (hW.mono (by simp; omega))).size; exact this))
    have hlow : Below (w.heap.size + 1 + 1) ((w.alloc (.cells #[.slice p r cp] 63)).alloc (.cells #[.slice q r cq] 63)) V := (show Below (w.heap.size + 1 + 1) _ W by simpa using hW).trans (hV.mono (by have := hW.size; simp at this; omega))
    refine sum1_any r c i k w.heap.size (w.heap.size + 1) p q r cp cq F G hi hk V ?_ ?_ (Nat.le_refl _) (hF.below (Nat.le_refl _) hall) (hG.below (Nat.le_refl _) hall) hsF hsG
    · rw [hlow.cell (p := ⟨w.heap.size, 0, none⟩) (by simp; omega)]
      exact ((Boxed.new w 63 (.slice p r cp)).alloc _).cell
    · rw [hlow.cell (p := ⟨w.heap.size + 1, 0, none⟩) (by simp)]
      have := (Boxed.new (w.alloc (.cells #[.slice p r cp] 63)) 63 (.slice q r cq)).cell
      simp))
  obtain ⟨fb, fo, hpe, hfb, H, hH, _⟩ := hF.cells h1
  have a2 := hH 0 h1
  have r0 : (0 : Int) < (r : Int) := by omega
  have hS : ∀ W, Below ((w.alloc (.cells #[.slice p r cp] 63)).alloc (.cells #[.slice q r cq] 63)).heap.size ((w.alloc (.cells #[.slice p r cp] 63)).alloc (.cells #[.slice q r cq] 63)) W → W.cell? ⟨w.heap.size, 0, none⟩ = some (.slice p r cp) ∧ W.cell? ⟨fb, fo, none⟩ = some (.slice (H 0).1 c (H 0).2) := fun W hW => by
    refine ⟨?_, ?_⟩
    · rw [hW.cell (p := ⟨w.heap.size, 0, none⟩) (by simp; omega)]
      exact ((Boxed.new w 63 (.slice p r cp)).alloc _).cell
    · rw [hW.cell (p := ⟨fb, fo, none⟩) (by simp; omega)]
      have hb0 : Below w.heap.size w ((w.alloc (.cells #[.slice p r cp] 63)).alloc (.cells #[.slice q r cq] 63)) := ((Below.refl _ w).alloc (Nat.le_refl _) _).alloc (by simp) _
      rw [hb0.cell (p := ⟨fb, fo, none⟩) hfb]; simpa using a2
  have hb0 : Below w.heap.size w ((w.alloc (.cells #[.slice p r cp] 63)).alloc (.cells #[.slice q r cq] 63)) := ((Below.refl _ w).alloc (Nat.le_refl _) _).alloc (by simp) _
  have HS := Lib.hid hS
  have Hb0 := Lib.hid hb0
  subst hpe
  clear hS hH a2 hF hG hsF hsG hb0
  go_enter Try.func106, Try.ntmps106
  go_wp2
  have hsz : ((w.alloc (.cells #[.slice (some ⟨fb, fo, none⟩) r cp] 63)).alloc (.cells #[.slice q r cq] 63)).heap.size = w.heap.size + 1 + 1 := by simp
  generalize (w.alloc (.cells #[.slice (some ⟨fb, fo, none⟩) r cp] 63)).alloc (.cells #[.slice q r cq] 63) = w1 at *
  have hd := (Below.refl w1.heap.size w1).drew
  refine wp_region_held_drew (S := fun W => W.cell? ⟨w.heap.size, 0, none⟩ = some (.slice (some ⟨fb, fo, none⟩) r cp) ∧ W.cell? ⟨fb, fo, none⟩ = some (.slice (H 0).1 c (H 0).2)) (by kernel_rfl) (HS.out _ hd) (fun hSS => ?_)
  refine wpAnyH_take (i := 0) (v := ?_) rfl (by kernel_rfl) (by kernel_rfl) (by kernel_rfl) (fun _ _ _ h => h) (Or.inl ⟨by rfl, ?_⟩) hSS ?_
  rotate_left 1
  next => intro w hSw; obtain ⟨s1, s2⟩ := hSw; go_simp; try with_reducible rfl
  refine wpAnyH_take (i := 1) (v := ?_) rfl (by kernel_rfl) (by kernel_rfl) (by kernel_rfl) (fun _ _ _ h => h) (Or.inl ⟨by rfl, ?_⟩) hSS ?_
  rotate_left 1
  next => intro w hSw; obtain ⟨s1, s2⟩ := hSw; go_simp; try with_reducible rfl
  refine wpAnyH_take (i := 2) (v := ?_) rfl (by kernel_rfl) (by kernel_rfl) (by kernel_rfl) (fun _ _ _ h => h) (Or.inl ⟨by rfl, ?_⟩) hSS ?_
  rotate_left 1
  next => intro w hSw; obtain ⟨s1, s2⟩ := hSw; go_simp; try with_reducible rfl
  refine wpAnyH_take (i := 3) (v := ?_) rfl (by kernel_rfl) (by kernel_rfl) (by kernel_rfl) (fun _ _ _ h => h) (Or.inl ⟨by rfl, ?_⟩) hSS ?_
  rotate_left 1
  next => intro w hSw; obtain ⟨s1, s2⟩ := hSw; go_simp; try with_reducible rfl
  refine wpAnyH_take (i := 4) (v := ?_) rfl (by kernel_rfl) (by kernel_rfl) (by kernel_rfl) (fun _ _ _ h => h) (Or.inl ⟨by rfl, ?_⟩) hSS ?_
  rotate_left 1
  next => intro w hSw; obtain ⟨s1, s2⟩ := hSw; go_simp; try with_reducible rfl
  refine wpAnyH_take (i := 5) (v := ?_) rfl (by kernel_rfl) (by kernel_rfl) (by kernel_rfl) (fun _ _ _ h => h) (Or.inl ⟨by rfl, ?_⟩) hSS ?_
  rotate_left 1
  next => intro w hSw; obtain ⟨s1, s2⟩ := hSw; go_simp; try with_reducible rfl
  refine wpAnyH_take (i := 6) (v := ?_) rfl (by kernel_rfl) (by kernel_rfl) (by kernel_rfl) (fun _ _ _ h => h) (Or.inl ⟨by rfl, ?_⟩) hSS ?_
  rotate_left 1
  next => intro w hSw; obtain ⟨s1, s2⟩ := hSw; go_simp; try with_reducible rfl
  refine wpAnyH_ready (rs := [7]) (by kernel_rfl) (by simp) ?_
  refine AllReadyH.cons rfl (fun K hK => ?_) AllReadyH.nil
  go_simp
  refine (HT.out _ hd).mono ?_
  rintro e5 w5 h
  obtain ⟨g, rfl, hown, hb⟩ := h
  have hb5 : Below w1.heap.size w1 w5 := hd.trans (hb.mono (by exact Nat.le_refl _))
  have hS5 := HS.out _ hb5
  have HR : Hid (RetOwn r c (fun i k => F i k + G i k) w (.returned (.slice (some ⟨g, 0, none⟩) r r)) w5) := Lib.hid ⟨_, rfl, hown.low (by have := hd.size; have := Hb0.out.size; omega), Hb0.out.trans (hb5.mono (by omega))⟩
  clear hb hown
  dsimp only
  refine hK.out _ _ hS5 (fun _ => ?_)
  clear hK K
  refine wpAnyH_take (i := 8) (v := ?_) rfl (by kernel_rfl) (by kernel_rfl) (by kernel_rfl) (fun _ _ _ h => h) (Or.inl ⟨by rfl, ?_⟩) hS5 ?_
  rotate_left 1
  next => intro w hSw; obtain ⟨s1, s2⟩ := hSw; go_simp; try with_reducible rfl
  refine wpAnyH_done (by kernel_rfl) ?_ _
  go_wp2
  go_ret
  exact HR.out
end Go.Proofs.Ytlaoijfphkhchaa
