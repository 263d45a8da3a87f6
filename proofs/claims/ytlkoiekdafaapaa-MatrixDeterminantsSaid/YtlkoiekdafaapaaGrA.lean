/- The walks of grooveref04.one and Identity. The walk of grooveref04.product. The walks of grooveref04.Identity and Mul. The walk of grooveref04.Add. The walk of grooveref04.Transpose. The walk of grooveref04.Apply. -/
import Derived.Test.YtlkoiekdafaapaaGrd
import Derived.Test.YtlkoiekdafaapaaRml
import Derived.Test.YtlkoiekdafaapaaRck
import Derived.Test.YtlkoiekdafaapaaWA
import Derived.Test.YtlkoiekdafaapaaAlg
namespace Go.Proofs.Ytlkoiekdafaapaa
open Go.RowKit Go.Shelf

/-- The identity's first rows. -/
def oneT (i a b : Nat) : Int := if a < i then oneF a b else 0
theorem Grid.far {w : World} {B g r c : Nat} {A : Nat → Nat} {F : Nat → Nat → Int} (h : Grid w B g r c A F) {i : Nat} (hi : i < r) (k : Nat) (u v : Value) {a : Addr} (ha : a.block < B ∨ a.block = g) :
    ((w.setCell ⟨A i, k * 2, none⟩ u).setCell ⟨A i, k * 2 + 1, none⟩ v).cell? a = w.cell? a := by
  have h1 := (h.row i hi).2
  have h2 := h.ne i hi
  have hne : a.block ≠ A i := by
    rcases ha with ha | ha
    · omega
    · rw [ha]; exact fun hh => h2 hh.symm
  rw [World.cell?_setCell_other _ _ _ _ (by intro hh; exact hne (by rw [← hh])), World.cell?_setCell_other _ _ _ _ (by intro hh; exact hne (by rw [← hh]))]
set_option maxRecDepth 100000 in
set_option maxHeartbeats 4000000 in
theorem refOne_any (n : Nat) (h0 : 0 < n) (hn : n ≤ 1000000) (w : World) :
    Calls Try.prog 62 #[.int .i64 (n : Int)] w (RetGrid n n oneF w) := by
  have HZ := Lib.hid (refZeros_any n n h0 hn hn w)
  have HO := Lib.hid (fun W => refOfInt_any 1 (by omega) (by omega) W)
  go_enter Try.func62, Try.ntmps62
  go_wp2_with fail
  refine HZ.out.mono ?_
  rintro e w1 ⟨g, cap, A, rfl, hG, hb⟩
  clear HZ
  have HG := Lib.hid (hG.congr (G := oneT 0) (fun i k _ _ => by simp [oneT]))
  have Hb := Lib.hid hb
  clear hG hb
  dsimp only
  go_wp2_with fail
  go_loopw [4] (fun iv wr => ∃ i : Nat, i ≤ n ∧ iv = .int .i64 (i : Nat) ∧ Hid (Grid wr w.heap.size g n n A (oneT i)) ∧ Hid (Below w.heap.size w wr)) (fun iv _ => n - (intOf iv).toNat)
  case atStart => exact ⟨0, by omega, by go_num, HG, Hb⟩
  case round =>
    clear HG Hb
    obtain ⟨i, hi, rfl, HG, HB⟩ := hrel
    by_cases hlt : i < n
    · have i1 : (i : Int) < (n : Int) := by omega
      go_upto_region 5 with (fail)
      obtain ⟨W0, hW0⟩ : ∃ W, wr = W := ⟨_, rfl⟩
      rw [hW0] at HG HB ⊢
      clear hW0
      obtain ⟨SS, hSe⟩ : ∃ SS : World → Prop, SS = fun W => W.cell? ⟨g, i, none⟩ = some (.slice (some ⟨A i, 0, none⟩) n n) := ⟨_, rfl⟩
      have hd : Below W0.heap.size W0 W0.drew := (Below.refl W0.heap.size W0).drew
      have HS : Hid (∀ W, Below W0.heap.size W0 W → SS W) := Lib.hid (fun W hW => by rw [hSe]; exact (HG.out.call hW).hdr i hlt)
      refine wp_region_held_drew (S := SS) (by kernel_rfl) (HS.out _ hd) (fun hSS => ?_)
      refine wpAnyH_take (i := 0) (v := ?_) rfl (by kernel_rfl) (by kernel_rfl) (by kernel_rfl) (fun _ _ _ h => h) (Or.inl ⟨by rfl, ?_⟩) hSS ?_
      rotate_left 1
      next => intro w hSw; rw [hSe] at hSw; have s1 := hSw; go_simp; try with_reducible rfl
      refine wpAnyH_take (i := 1) (v := ?_) rfl (by kernel_rfl) (by kernel_rfl) (by kernel_rfl) (fun _ _ _ h => h) (Or.inl ⟨by rfl, ?_⟩) hSS ?_
      rotate_left 1
      next => intro w hSw; rw [hSe] at hSw; have s1 := hSw; go_simp; try with_reducible rfl
      refine wpAnyH_take (i := 2) (v := ?_) rfl (by kernel_rfl) (by kernel_rfl) (by kernel_rfl) (fun _ _ _ h => h) (Or.inl ⟨by rfl, ?_⟩) hSS ?_
      rotate_left 1
      next => intro w hSw; rw [hSe] at hSw; have s1 := hSw; go_simp; try with_reducible rfl
      refine wpAnyH_take (i := 3) (v := ?_) rfl (by kernel_rfl) (by kernel_rfl) (by kernel_rfl) (fun _ _ _ h => h) (Or.inl ⟨by rfl, ?_⟩) hSS ?_
      rotate_left 1
      next => intro w hSw; rw [hSe] at hSw; have s1 := hSw; go_simp; try with_reducible rfl
      refine wpAnyH_take (i := 4) (v := ?_) rfl (by kernel_rfl) (by kernel_rfl) (by kernel_rfl) (fun _ _ _ h => h) (Or.inl ⟨by rfl, ?_⟩) hSS ?_
      rotate_left 1
      next => intro w hSw; rw [hSe] at hSw; have s1 := hSw; go_simp; try with_reducible rfl
      try simp only [Act.put, List.getElem_toArray, List.getElem_cons_zero, List.getElem_cons_succ, List.setIfInBounds_toArray, List.set_cons_zero, List.set_cons_succ]
      refine wpAnyH_ready (rs := [5]) (by kernel_rfl) (by simp) ?_
      refine AllReadyH.cons rfl (fun K hK => ?_) AllReadyH.nil
      go_simp
      refine (HO.out _).mono ?_
      rintro e W1 ⟨rfl, hbc⟩
      have hW1 : Below W0.heap.size W0 W1 := hd.trans (hbc.mono hd.size)
      dsimp only
      refine hK.out _ _ (HS.out _ hW1) (fun _ => ?_)
      clear hK K hbc
      refine wpAnyH_take (i := 6) (v := ?_) rfl (by kernel_rfl) (by kernel_rfl) (by kernel_rfl) (fun _ _ _ h => h) (Or.inl ⟨by rfl, ?_⟩) (HS.out _ hW1) ?_
      rotate_left 1
      next => intro w hSw; rw [hSe] at hSw; have s1 := hSw; go_simp; try with_reducible rfl
      try simp only [Act.put, List.getElem_toArray, List.getElem_cons_zero, List.getElem_cons_succ, List.setIfInBounds_toArray, List.set_cons_zero, List.set_cons_succ]
      have hG1 := HG.out.call hW1
      obtain ⟨⟨z1, z2⟩, z3, z4⟩ := (hG1.row i hlt).1.z.2 i hlt
      have hg2 := hG1.set hlt i 1
      try simp only [Act.put, List.getElem_toArray, List.getElem_cons_zero, List.getElem_cons_succ, List.setIfInBounds_toArray, List.set_cons_zero, List.set_cons_succ]
      refine wpAnyH_ready (rs := [7]) (by kernel_rfl) (by simp) ?_
      refine AllReadyH.cons rfl (fun K hK => ?_) AllReadyH.nil
      go_simp
      refine hK.out _ _ ((by rw [hSe]; exact hg2.hdr i hlt)) (fun _ => ?_)
      clear hK K
      refine wpAnyH_done (by kernel_rfl) ?_ _
      have HG2 : Hid (Grid ((W1.setCell ⟨A i, i * 2, none⟩ (.bool (canon 1).neg)).setCell ⟨A i, i * 2 + 1, none⟩ (.string (canon 1).mag)) w.heap.size g n n A (oneT (i + 1))) := Lib.hid (hg2.congr fun a b ha hb => by
        unfold oneT oneF
        grind)
      have HB2 : Hid (Below w.heap.size w ((W1.setCell ⟨A i, i * 2, none⟩ (.bool (canon 1).neg)).setCell ⟨A i, i * 2 + 1, none⟩ (.string (canon 1).mag))) := Lib.hid (((HB.out.trans (hW1.mono HB.out.size)).setCell (HG.out.row i hlt).2 _).setCell (HG.out.row i hlt).2 _)
      clear hg2 z1 z2 z3 z4 hG1 hW1 HS hd hSe
      go_wp2
      go_roundw
      case rel => exact ⟨i + 1, by omega, by go_num, HG2, HB2⟩
      case measure => simp [intOf]; omega
    · have i1 : ¬ (i : Int) < (n : Int) := by omega
      have hie : i = n := by omega
      rw [hie] at HG
      clear hie
      go_wp2
      go_ret
      exact ⟨g, cap, A, rfl, HG.out.congr fun a b ha hb => by simp [oneT, ha], HB.out⟩
end Go.Proofs.Ytlkoiekdafaapaa

namespace Go.Proofs.Ytlkoiekdafaapaa
open Go.RowKit Go.Shelf

/-- All sums that a product of the reference forms are of moderate size. -/
def SmallQ (r n c : Nat) (F G : Nat → Nat → Int) : Prop := ∀ i k, i < r → k < c → (∀ j, j ≤ n → (canon (dotN (fun j => F i j * G j k) j)).mag.size < 100000000) ∧ ∀ j, j < n → (canon (F i j)).mag.size + (canon (G j k)).mag.size < 100000000 ∧ (canon (F i j * G j k)).mag.size < 100000000
/-- A product under way. -/
def prodT (n : Nat) (F G : Nat → Nat → Int) (i k j a b : Nat) : Int := if a < i then mulF n F G a b else if a = i then (if b < k then mulF n F G a b else if b = k then dotN (fun j => F a j * G j b) j else 0) else 0
theorem prodT_zero (n : Nat) (F G : Nat → Nat → Int) (a b : Nat) : prodT n F G 0 0 0 a b = 0 := by
  unfold prodT dotN
  grind
theorem prodT_step (n : Nat) (F G : Nat → Nat → Int) (i k j a b : Nat) : (if a = i ∧ b = k then dotN (fun j => F i j * G j k) (j + 1) else prodT n F G i k j a b) = prodT n F G i k (j + 1) a b := by
  unfold prodT
  grind
theorem prodT_next (n : Nat) (F G : Nat → Nat → Int) (i k a b : Nat) : prodT n F G i k n a b = prodT n F G i (k + 1) 0 a b := by
  unfold prodT mulF
  have : dotN (fun j => F a j * G j b) 0 = 0 := rfl
  grind
theorem prodT_row (n c : Nat) (F G : Nat → Nat → Int) (i a b : Nat) (hb : b < c) : prodT n F G i c 0 a b = prodT n F G (i + 1) 0 0 a b := by
  unfold prodT
  have : dotN (fun j => F a j * G j b) 0 = 0 := rfl
  grind
theorem MatF.at {w : World} {b off : Nat} {r c : Nat} {F : Nat → Nat → Int} (h : MatF w (some ⟨b, off, none⟩) r c F) {i k : Nat} (hi : i < r) (hk : k < c) :
    ∃ rb ro rc, w.cell? ⟨b, off + i, none⟩ = some (.slice (some ⟨rb, ro, none⟩) c rc) ∧ w.cell? ⟨rb, ro + k * 2, none⟩ = some (.bool (canon (F i k)).neg) ∧ w.cell? ⟨rb, ro + k * 2 + 1, none⟩ = some (.string (canon (F i k)).mag) := by
  obtain ⟨b2, off2, he, _, H, h1, h2⟩ := h.cells hi
  obtain ⟨rb, ro, he2, _, h3⟩ := (h2 i hi).cells hk
  simp only [Option.some.injEq, Addr.mk.injEq, and_true] at he
  obtain ⟨rfl, rfl⟩ := he
  have h4 := h1 i hi
  rw [he2] at h4
  exact ⟨rb, ro, (H i).2, h4, (h3 k hk).1, (h3 k hk).2⟩
set_option maxRecDepth 100000 in
set_option maxHeartbeats 8000000 in
theorem refProduct_any (r n c : Nat) (p q : Option Addr) (cp cq : Nat) (F G : Nat → Nat → Int) (h0 : 0 < r) (h1 : 0 < n) (h2 : 0 < c) (hr : r ≤ 1000000) (hn : n ≤ 1000000) (hc : c ≤ 1000000) (w : World) (hF : MatF w p r n F) (hG : MatF w q n c G) (hs : SmallQ r n c F G) :
    Calls Try.prog 63 #[.slice p r cp, .slice q n cq] w (RetGrid r c (mulF n F G) w) := by
  obtain ⟨pb, po, rfl, hpb, _⟩ := hF.cells h0
  obtain ⟨qb, qo, rfl, hqb, _⟩ := hG.cells h1
  obtain ⟨q0, q1, q2, hq0, _⟩ := hG.at (k := 0) h1 h2
  rw [Nat.add_zero] at hq0
  have HZ := Lib.hid (refZeros_any r c h0 hr hc w)
  have HA := Lib.hid (fun x y hx hy W => refAddC_any x y hx hy W)
  have HM := Lib.hid (fun x y hx hy hxy W => refMulC_any x y hx hy hxy W)
  have HH := Lib.hid (fun W (hW : Below w.heap.size w W) => cell_below hW hq0)
  have HF := Lib.hid hF
  have HGG := Lib.hid hG
  have Hs := Lib.hid hs
  have n0 : (0 : Int) < (n : Int) := by omega
  clear hF hG hs
  go_enter Try.func63, Try.ntmps63
  go_wp2_with fail
  refine HZ.out.mono ?_
  rintro e w1 ⟨g, cap, A, rfl, hG, hb⟩
  clear HZ hq0
  have HG := Lib.hid (hG.congr (G := prodT n F G 0 0 0) (fun i k _ _ => (prodT_zero n F G i k).symm))
  have Hb := Lib.hid hb
  clear hG hb
  dsimp only
  go_wp2_with fail
  go_loopw [6] (fun iv wr => ∃ i : Nat, i ≤ r ∧ iv = .int .i64 (i : Nat) ∧ Hid (Grid wr w.heap.size g r c A (prodT n F G i 0 0)) ∧ Hid (Below w.heap.size w wr)) (fun iv _ => r - (intOf iv).toNat)
  case atStart => exact ⟨0, by omega, by go_num, HG, Hb⟩
  case round =>
    clear HG Hb
    obtain ⟨i, hi, rfl, HG, HB⟩ := hrel
    by_cases hlt : i < r
    · have i1 : (i : Int) < (r : Int) := by omega
      go_wp2
      go_loopw [7] (fun kv wr => ∃ k : Nat, k ≤ c ∧ kv = .int .i64 (k : Nat) ∧ Hid (Grid wr w.heap.size g r c A (prodT n F G i k 0)) ∧ Hid (Below w.heap.size w wr)) (fun kv _ => c - (intOf kv).toNat)
      case atStart => exact ⟨0, by omega, by go_num, HG, HB⟩
      case round =>
        clear HG HB
        obtain ⟨k, hk, rfl, HG, HB⟩ := hrel
        have hhead := HH.out _ HB.out
        by_cases hkt : k < c
        · have k1 : (k : Int) < (c : Int) := by omega
          go_wp2
          clear hhead
          go_loopw [8] (fun jv wr => ∃ j : Nat, j ≤ n ∧ jv = .int .i64 (j : Nat) ∧ Hid (Grid wr w.heap.size g r c A (prodT n F G i k j)) ∧ Hid (Below w.heap.size w wr)) (fun jv _ => n - (intOf jv).toNat)
          case atStart => exact ⟨0, by omega, by go_num, HG, HB⟩
          case round =>
            clear HG HB
            obtain ⟨j, hj, rfl, HG, HB⟩ := hrel
            by_cases hjt : j < n
            · have j1 : (j : Int) < (n : Int) := by omega
              go_upto_region 11 with (fail)
              obtain ⟨W0, hW0⟩ : ∃ W, wr = W := ⟨_, rfl⟩
              rw [hW0] at HG HB ⊢
              clear hW0
              obtain ⟨ab, ao, ac, a1, a2, a3⟩ := HF.out.at hlt hjt
              obtain ⟨bb, bo, bc, b1, b2, b3⟩ := HGG.out.at hjt hkt
              have la := World.block_lt_of_cell? w _ a2
              have lb := World.block_lt_of_cell? w _ b2
              obtain ⟨hsum, hmul⟩ := Hs.out i k hlt hkt
              have hsum1 := hsum j (by omega)
              obtain ⟨hm1, hm2⟩ := hmul j hjt
              have hdot : dotN (fun j => F i j * G j k) (j + 1) = dotN (fun j => F i j * G j k) j + F i j * G j k := rfl
              have hcur : prodT n F G i k j i k = dotN (fun j => F i j * G j k) j := by simp [prodT]
              obtain ⟨x, hx⟩ : ∃ x, F i j = x := ⟨_, rfl⟩
              obtain ⟨y, hy⟩ : ∃ y, G j k = y := ⟨_, rfl⟩
              obtain ⟨s, hsv⟩ : ∃ s, dotN (fun j => F i j * G j k) j = s := ⟨_, rfl⟩
              have Hnext : Hid (s + x * y = dotN (fun j => F i j * G j k) (j + 1)) := Lib.hid (by rw [hdot, hsv, hx, hy])
              rw [hsv] at hsum1 hcur
              rw [hx] at hm1 hm2 a2 a3
              rw [hy] at hm1 hm2 b2 b3
              obtain ⟨SS, hSe⟩ : ∃ SS : World → Prop, SS = fun W => W.cell? ⟨pb, po + i, none⟩ = some (.slice (some ⟨ab, ao, none⟩) n ac) ∧ W.cell? ⟨ab, ao + j * 2, none⟩ = some (.bool (canon x).neg) ∧ W.cell? ⟨ab, ao + j * 2 + 1, none⟩ = some (.string (canon x).mag) ∧ W.cell? ⟨qb, qo + j, none⟩ = some (.slice (some ⟨bb, bo, none⟩) c bc) ∧ W.cell? ⟨bb, bo + k * 2, none⟩ = some (.bool (canon y).neg) ∧ W.cell? ⟨bb, bo + k * 2 + 1, none⟩ = some (.string (canon y).mag) ∧ W.cell? ⟨g, i, none⟩ = some (.slice (some ⟨A i, 0, none⟩) c c) := ⟨_, rfl⟩
              have HS0 : Hid (∀ W, Below w.heap.size w W → ∀ T, Grid W w.heap.size g r c A T → SS W) := Lib.hid (fun W hW T hT => by
                rw [hSe]
                exact ⟨cell_below hW a1, cell_below hW a2, cell_below hW a3, cell_below hW b1, cell_below hW b2, cell_below hW b3, hT.hdr i hlt⟩)
              clear a1 a2 a3 b1 b2 b3 hsum hmul hdot hx hy hsv la lb hpb hqb
              have HBB : Hid (∀ W, Below W0.heap.size W0 W → Below w.heap.size w W) := Lib.hid (fun W hW => HB.out.trans (hW.mono HB.out.size))
              have HS : Hid (∀ W, Below W0.heap.size W0 W → SS W) := Lib.hid (fun W hW => HS0.out W (HBB.out W hW) _ (HG.out.call hW))
              have hd : Below W0.heap.size W0 W0.drew := (Below.refl W0.heap.size W0).drew
              refine wp_region_held_drew (S := SS) (by kernel_rfl) (HS.out _ hd) (fun hSS => ?_)
              refine wpAnyH_take (i := 0) (v := ?_) rfl (by kernel_rfl) (by kernel_rfl) (by kernel_rfl) (fun _ _ _ h => h) (Or.inl ⟨by rfl, ?_⟩) hSS ?_
              rotate_left 1
              next => intro w hSw; rw [hSe] at hSw; obtain ⟨s1, s2, s3, s4, s5, s6, s7⟩ := hSw; go_simp; try with_reducible rfl
              refine wpAnyH_take (i := 1) (v := ?_) rfl (by kernel_rfl) (by kernel_rfl) (by kernel_rfl) (fun _ _ _ h => h) (Or.inl ⟨by rfl, ?_⟩) hSS ?_
              rotate_left 1
              next => intro w hSw; rw [hSe] at hSw; obtain ⟨s1, s2, s3, s4, s5, s6, s7⟩ := hSw; go_simp; try with_reducible rfl
              refine wpAnyH_take (i := 2) (v := ?_) rfl (by kernel_rfl) (by kernel_rfl) (by kernel_rfl) (fun _ _ _ h => h) (Or.inl ⟨by rfl, ?_⟩) hSS ?_
              rotate_left 1
              next => intro w hSw; rw [hSe] at hSw; obtain ⟨s1, s2, s3, s4, s5, s6, s7⟩ := hSw; go_simp; try with_reducible rfl
              refine wpAnyH_take (i := 3) (v := ?_) rfl (by kernel_rfl) (by kernel_rfl) (by kernel_rfl) (fun _ _ _ h => h) (Or.inl ⟨by rfl, ?_⟩) hSS ?_
              rotate_left 1
              next => intro w hSw; rw [hSe] at hSw; obtain ⟨s1, s2, s3, s4, s5, s6, s7⟩ := hSw; go_simp; try with_reducible rfl
              refine wpAnyH_take (i := 4) (v := ?_) rfl (by kernel_rfl) (by kernel_rfl) (by kernel_rfl) (fun _ _ _ h => h) (Or.inl ⟨by rfl, ?_⟩) hSS ?_
              rotate_left 1
              next => intro w hSw; rw [hSe] at hSw; obtain ⟨s1, s2, s3, s4, s5, s6, s7⟩ := hSw; go_simp; try with_reducible rfl
              refine wpAnyH_take (i := 5) (v := ?_) rfl (by kernel_rfl) (by kernel_rfl) (by kernel_rfl) (fun _ _ _ h => h) (Or.inl ⟨by rfl, ?_⟩) hSS ?_
              rotate_left 1
              next => intro w hSw; rw [hSe] at hSw; obtain ⟨s1, s2, s3, s4, s5, s6, s7⟩ := hSw; go_simp; try with_reducible rfl
              refine wpAnyH_take (i := 6) (v := ?_) rfl (by kernel_rfl) (by kernel_rfl) (by kernel_rfl) (fun _ _ _ h => h) (Or.inl ⟨by rfl, ?_⟩) hSS ?_
              rotate_left 1
              next => intro w hSw; rw [hSe] at hSw; obtain ⟨s1, s2, s3, s4, s5, s6, s7⟩ := hSw; go_simp; try with_reducible rfl
              refine wpAnyH_take (i := 7) (v := ?_) rfl (by kernel_rfl) (by kernel_rfl) (by kernel_rfl) (fun _ _ _ h => h) (Or.inl ⟨by rfl, ?_⟩) hSS ?_
              rotate_left 1
              next => intro w hSw; rw [hSe] at hSw; obtain ⟨s1, s2, s3, s4, s5, s6, s7⟩ := hSw; go_simp; try with_reducible rfl
              refine wpAnyH_take (i := 8) (v := ?_) rfl (by kernel_rfl) (by kernel_rfl) (by kernel_rfl) (fun _ _ _ h => h) (Or.inl ⟨by rfl, ?_⟩) hSS ?_
              rotate_left 1
              next => intro w hSw; rw [hSe] at hSw; obtain ⟨s1, s2, s3, s4, s5, s6, s7⟩ := hSw; go_simp; try with_reducible rfl
              refine wpAnyH_take (i := 9) (v := ?_) rfl (by kernel_rfl) (by kernel_rfl) (by kernel_rfl) (fun _ _ _ h => h) (Or.inl ⟨by rfl, ?_⟩) hSS ?_
              rotate_left 1
              next => intro w hSw; rw [hSe] at hSw; obtain ⟨s1, s2, s3, s4, s5, s6, s7⟩ := hSw; go_simp; try with_reducible rfl
              refine wpAnyH_take (i := 10) (v := ?_) rfl (by kernel_rfl) (by kernel_rfl) (by kernel_rfl) (fun _ _ _ h => h) (Or.inl ⟨by rfl, ?_⟩) hSS ?_
              rotate_left 1
              next => intro w hSw; rw [hSe] at hSw; obtain ⟨s1, s2, s3, s4, s5, s6, s7⟩ := hSw; go_simp; try with_reducible rfl
              refine wpAnyH_take (i := 12) (v := ?_) rfl (by kernel_rfl) (by kernel_rfl) (by kernel_rfl) (fun _ _ _ h => h) (Or.inl ⟨by rfl, ?_⟩) hSS ?_
              rotate_left 1
              next => intro w hSw; rw [hSe] at hSw; obtain ⟨s1, s2, s3, s4, s5, s6, s7⟩ := hSw; go_simp; try with_reducible rfl
              refine wpAnyH_take (i := 13) (v := ?_) rfl (by kernel_rfl) (by kernel_rfl) (by kernel_rfl) (fun _ _ _ h => h) (Or.inl ⟨by rfl, ?_⟩) hSS ?_
              rotate_left 1
              next => intro w hSw; rw [hSe] at hSw; obtain ⟨s1, s2, s3, s4, s5, s6, s7⟩ := hSw; go_simp; try with_reducible rfl
              refine wpAnyH_take (i := 14) (v := ?_) rfl (by kernel_rfl) (by kernel_rfl) (by kernel_rfl) (fun _ _ _ h => h) (Or.inl ⟨by rfl, ?_⟩) hSS ?_
              rotate_left 1
              next => intro w hSw; rw [hSe] at hSw; obtain ⟨s1, s2, s3, s4, s5, s6, s7⟩ := hSw; go_simp; try with_reducible rfl
              refine wpAnyH_take (i := 15) (v := ?_) rfl (by kernel_rfl) (by kernel_rfl) (by kernel_rfl) (fun _ _ _ h => h) (Or.inl ⟨by rfl, ?_⟩) hSS ?_
              rotate_left 1
              next => intro w hSw; rw [hSe] at hSw; obtain ⟨s1, s2, s3, s4, s5, s6, s7⟩ := hSw; go_simp; try with_reducible rfl
              refine wpAnyH_take (i := 16) (v := ?_) rfl (by kernel_rfl) (by kernel_rfl) (by kernel_rfl) (fun _ _ _ h => h) (Or.inl ⟨by rfl, ?_⟩) hSS ?_
              rotate_left 1
              next => intro w hSw; rw [hSe] at hSw; obtain ⟨s1, s2, s3, s4, s5, s6, s7⟩ := hSw; go_simp; try with_reducible rfl
              refine wpAnyH_take (i := 17) (v := ?_) rfl (by kernel_rfl) (by kernel_rfl) (by kernel_rfl) (fun _ _ _ h => h) (Or.inl ⟨by rfl, ?_⟩) hSS ?_
              rotate_left 1
              next => intro w hSw; rw [hSe] at hSw; obtain ⟨s1, s2, s3, s4, s5, s6, s7⟩ := hSw; go_simp; try with_reducible rfl
              refine wpAnyH_take (i := 18) (v := ?_) rfl (by kernel_rfl) (by kernel_rfl) (by kernel_rfl) (fun _ _ _ h => h) (Or.inl ⟨by rfl, ?_⟩) hSS ?_
              rotate_left 1
              next => intro w hSw; rw [hSe] at hSw; obtain ⟨s1, s2, s3, s4, s5, s6, s7⟩ := hSw; go_simp; try with_reducible rfl
              refine wpAnyH_take (i := 19) (v := ?_) rfl (by kernel_rfl) (by kernel_rfl) (by kernel_rfl) (fun _ _ _ h => h) (Or.inl ⟨by rfl, ?_⟩) hSS ?_
              rotate_left 1
              next => intro w hSw; rw [hSe] at hSw; obtain ⟨s1, s2, s3, s4, s5, s6, s7⟩ := hSw; go_simp; try with_reducible rfl
              refine wpAnyH_take (i := 20) (v := ?_) rfl (by kernel_rfl) (by kernel_rfl) (by kernel_rfl) (fun _ _ _ h => h) (Or.inl ⟨by rfl, ?_⟩) hSS ?_
              rotate_left 1
              next => intro w hSw; rw [hSe] at hSw; obtain ⟨s1, s2, s3, s4, s5, s6, s7⟩ := hSw; go_simp; try with_reducible rfl
              refine wpAnyH_take (i := 21) (v := ?_) rfl (by kernel_rfl) (by kernel_rfl) (by kernel_rfl) (fun _ _ _ h => h) (Or.inl ⟨by rfl, ?_⟩) hSS ?_
              rotate_left 1
              next => intro w hSw; rw [hSe] at hSw; obtain ⟨s1, s2, s3, s4, s5, s6, s7⟩ := hSw; go_simp; try with_reducible rfl
              refine wpAnyH_take (i := 22) (v := ?_) rfl (by kernel_rfl) (by kernel_rfl) (by kernel_rfl) (fun _ _ _ h => h) (Or.inl ⟨by rfl, ?_⟩) hSS ?_
              rotate_left 1
              next => intro w hSw; rw [hSe] at hSw; obtain ⟨s1, s2, s3, s4, s5, s6, s7⟩ := hSw; go_simp; try with_reducible rfl
              refine wpAnyH_take (i := 23) (v := ?_) rfl (by kernel_rfl) (by kernel_rfl) (by kernel_rfl) (fun _ _ _ h => h) (Or.inl ⟨by rfl, ?_⟩) hSS ?_
              rotate_left 1
              next => intro w hSw; rw [hSe] at hSw; obtain ⟨s1, s2, s3, s4, s5, s6, s7⟩ := hSw; go_simp; try with_reducible rfl
              refine wpAnyH_take (i := 24) (v := ?_) rfl (by kernel_rfl) (by kernel_rfl) (by kernel_rfl) (fun _ _ _ h => h) (Or.inl ⟨by rfl, ?_⟩) hSS ?_
              rotate_left 1
              next => intro w hSw; rw [hSe] at hSw; obtain ⟨s1, s2, s3, s4, s5, s6, s7⟩ := hSw; go_simp; try with_reducible rfl
              refine wpAnyH_take (i := 25) (v := ?_) rfl (by kernel_rfl) (by kernel_rfl) (by kernel_rfl) (fun _ _ _ h => h) (Or.inl ⟨by rfl, ?_⟩) hSS ?_
              rotate_left 1
              next => intro w hSw; rw [hSe] at hSw; obtain ⟨s1, s2, s3, s4, s5, s6, s7⟩ := hSw; go_simp; try with_reducible rfl
              try simp only [Act.put, List.getElem_toArray, List.getElem_cons_zero, List.getElem_cons_succ, List.setIfInBounds_toArray, List.set_cons_zero, List.set_cons_succ]
              refine wpAnyH_ready (rs := [11, 26]) (by kernel_rfl) (by simp) ?_
              refine AllReadyH.cons rfl (fun K hK => ?_) (AllReadyH.cons rfl (fun K hK => ?_) AllReadyH.nil)
              · obtain ⟨⟨z1, z2⟩, z3, z4⟩ := ((HG.out.call hd).row i hlt).1.z.2 k hkt
                rw [hcur] at z1 z2
                go_simp
                refine hK.out _ _ (HS.out _ hd) (fun _ => ?_)
                clear hK K z1 z2 z3 z4
                try simp only [Act.put, List.getElem_toArray, List.getElem_cons_zero, List.getElem_cons_succ, List.setIfInBounds_toArray, List.set_cons_zero, List.set_cons_succ]
                refine wpAnyH_ready (rs := [26]) (by kernel_rfl) (by simp) ?_
                refine AllReadyH.cons rfl (fun K hK => ?_) AllReadyH.nil
                go_simp
                refine (HM.out x y (by omega) (by omega) (by omega) _).mono ?_
                rintro e W1 ⟨rfl, hbc⟩
                have hW1 : Below W0.heap.size W0 W1 := hd.trans (hbc.mono hd.size)
                dsimp only
                refine hK.out _ _ (HS.out _ hW1) (fun _ => ?_)
                clear hK K hbc
                try simp only [Act.put, List.getElem_toArray, List.getElem_cons_zero, List.getElem_cons_succ, List.setIfInBounds_toArray, List.set_cons_zero, List.set_cons_succ]
                refine wpAnyH_ready (rs := [27]) (by kernel_rfl) (by simp) ?_
                refine AllReadyH.cons rfl (fun K hK => ?_) AllReadyH.nil
                go_simp
                refine (HA.out s (x * y) hsum1 hm2 _).mono ?_
                rintro e W2 ⟨rfl, hbc⟩
                have hW2 : Below W0.heap.size W0 W2 := hW1.trans (hbc.mono hW1.size)
                dsimp only
                refine hK.out _ _ (HS.out _ hW2) (fun _ => ?_)
                clear hK K hbc
                refine wpAnyH_take (i := 28) (v := ?_) rfl (by kernel_rfl) (by kernel_rfl) (by kernel_rfl) (fun _ _ _ h => h) (Or.inl ⟨by rfl, ?_⟩) (HS.out _ hW2) ?_
                rotate_left 1
                next => intro w hSw; rw [hSe] at hSw; obtain ⟨s1, s2, s3, s4, s5, s6, s7⟩ := hSw; go_simp; try with_reducible rfl
                try simp only [Act.put, List.getElem_toArray, List.getElem_cons_zero, List.getElem_cons_succ, List.setIfInBounds_toArray, List.set_cons_zero, List.set_cons_succ]
                have hG1 := HG.out.call hW2
                obtain ⟨⟨z1, z2⟩, z3, z4⟩ := (hG1.row i hlt).1.z.2 k hkt
                have hg2 := hG1.set hlt k (s + x * y)
                have hb2 : Below w.heap.size w ((W2.setCell ⟨A i, k * 2, none⟩ (.bool (canon (s + x * y)).neg)).setCell ⟨A i, k * 2 + 1, none⟩ (.string (canon (s + x * y)).mag)) := ((HBB.out _ hW2).setCell (HG.out.row i hlt).2 _).setCell (HG.out.row i hlt).2 _
                try simp only [Act.put, List.getElem_toArray, List.getElem_cons_zero, List.getElem_cons_succ, List.setIfInBounds_toArray, List.set_cons_zero, List.set_cons_succ]
                refine wpAnyH_ready (rs := [29]) (by kernel_rfl) (by simp) ?_
                refine AllReadyH.cons rfl (fun K hK => ?_) AllReadyH.nil
                go_simp
                refine hK.out _ _ (HS0.out _ hb2 _ hg2) (fun _ => ?_)
                clear hK K
                refine wpAnyH_done (by kernel_rfl) ?_ _
                rw [Hnext.out] at hg2 hb2 ⊢
                have HG2 := Lib.hid (hg2.congr (G := prodT n F G i k (j + 1)) fun a b ha hb => prodT_step n F G i k j a b)
                have HB2 := Lib.hid hb2
                clear hg2 z1 z2 z3 z4 hG1 hW1 hW2 HS hd hSe hb2 hm1 hm2 hsum1 hcur Hnext HS0 HBB hSS
                go_wp2
                go_roundw
                case rel => exact ⟨j + 1, by omega, by go_num, HG2, HB2⟩
                case measure => simp [intOf]; omega
              · go_simp
                refine (HM.out x y (by omega) (by omega) (by omega) _).mono ?_
                rintro e W1 ⟨rfl, hbc⟩
                have hW1 : Below W0.heap.size W0 W1 := hd.trans (hbc.mono hd.size)
                dsimp only
                refine hK.out _ _ (HS.out _ hW1) (fun _ => ?_)
                clear hK K hbc
                try simp only [Act.put, List.getElem_toArray, List.getElem_cons_zero, List.getElem_cons_succ, List.setIfInBounds_toArray, List.set_cons_zero, List.set_cons_succ]
                refine wpAnyH_ready (rs := [11]) (by kernel_rfl) (by simp) ?_
                refine AllReadyH.cons rfl (fun K hK => ?_) AllReadyH.nil
                obtain ⟨⟨z1, z2⟩, z3, z4⟩ := ((HG.out.call hW1).row i hlt).1.z.2 k hkt
                rw [hcur] at z1 z2
                go_simp
                refine hK.out _ _ (HS.out _ hW1) (fun _ => ?_)
                clear hK K z1 z2 z3 z4
                try simp only [Act.put, List.getElem_toArray, List.getElem_cons_zero, List.getElem_cons_succ, List.setIfInBounds_toArray, List.set_cons_zero, List.set_cons_succ]
                refine wpAnyH_ready (rs := [27]) (by kernel_rfl) (by simp) ?_
                refine AllReadyH.cons rfl (fun K hK => ?_) AllReadyH.nil
                go_simp
                refine (HA.out s (x * y) hsum1 hm2 _).mono ?_
                rintro e W2 ⟨rfl, hbc⟩
                have hW2 : Below W0.heap.size W0 W2 := hW1.trans (hbc.mono hW1.size)
                dsimp only
                refine hK.out _ _ (HS.out _ hW2) (fun _ => ?_)
                clear hK K hbc
                refine wpAnyH_take (i := 28) (v := ?_) rfl (by kernel_rfl) (by kernel_rfl) (by kernel_rfl) (fun _ _ _ h => h) (Or.inl ⟨by rfl, ?_⟩) (HS.out _ hW2) ?_
                rotate_left 1
                next => intro w hSw; rw [hSe] at hSw; obtain ⟨s1, s2, s3, s4, s5, s6, s7⟩ := hSw; go_simp; try with_reducible rfl
                try simp only [Act.put, List.getElem_toArray, List.getElem_cons_zero, List.getElem_cons_succ, List.setIfInBounds_toArray, List.set_cons_zero, List.set_cons_succ]
                have hG1 := HG.out.call hW2
                obtain ⟨⟨z1, z2⟩, z3, z4⟩ := (hG1.row i hlt).1.z.2 k hkt
                have hg2 := hG1.set hlt k (s + x * y)
                have hb2 : Below w.heap.size w ((W2.setCell ⟨A i, k * 2, none⟩ (.bool (canon (s + x * y)).neg)).setCell ⟨A i, k * 2 + 1, none⟩ (.string (canon (s + x * y)).mag)) := ((HBB.out _ hW2).setCell (HG.out.row i hlt).2 _).setCell (HG.out.row i hlt).2 _
                try simp only [Act.put, List.getElem_toArray, List.getElem_cons_zero, List.getElem_cons_succ, List.setIfInBounds_toArray, List.set_cons_zero, List.set_cons_succ]
                refine wpAnyH_ready (rs := [29]) (by kernel_rfl) (by simp) ?_
                refine AllReadyH.cons rfl (fun K hK => ?_) AllReadyH.nil
                go_simp
                refine hK.out _ _ (HS0.out _ hb2 _ hg2) (fun _ => ?_)
                clear hK K
                refine wpAnyH_done (by kernel_rfl) ?_ _
                rw [Hnext.out] at hg2 hb2 ⊢
                have HG2 := Lib.hid (hg2.congr (G := prodT n F G i k (j + 1)) fun a b ha hb => prodT_step n F G i k j a b)
                have HB2 := Lib.hid hb2
                clear hg2 z1 z2 z3 z4 hG1 hW1 hW2 HS hd hSe hb2 hm1 hm2 hsum1 hcur Hnext HS0 HBB hSS
                go_wp2
                go_roundw
                case rel => exact ⟨j + 1, by omega, by go_num, HG2, HB2⟩
                case measure => simp [intOf]; omega
            · have j1 : ¬ (j : Int) < (n : Int) := by omega
              have hje : j = n := by omega
              rw [hje] at HG
              have HG2 := Lib.hid (HG.out.congr (G := prodT n F G i (k + 1) 0) fun a b ha hb => prodT_next n F G i k a b)
              clear hje HG
              go_wp2
              go_roundw
              case rel => exact ⟨k + 1, by omega, by go_num, HG2, HB⟩
              case measure => simp [intOf]; omega
        · have k1 : ¬ (k : Int) < (c : Int) := by omega
          have hke : k = c := by omega
          rw [hke] at HG
          have HG2 := Lib.hid (HG.out.congr (G := prodT n F G (i + 1) 0 0) fun a b ha hb => prodT_row n c F G i a b hb)
          clear hke HG
          go_wp2
          go_roundw
          case rel => exact ⟨i + 1, by omega, by go_num, HG2, HB⟩
          case measure => simp [intOf]; omega
    · have i1 : ¬ (i : Int) < (r : Int) := by omega
      have hie : i = r := by omega
      rw [hie] at HG
      clear hie
      go_wp2
      go_ret
      exact ⟨g, cap, A, rfl, HG.out.congr fun a b ha hb => by simp [prodT, ha], HB.out⟩
end Go.Proofs.Ytlkoiekdafaapaa

namespace Go.Proofs.Ytlkoiekdafaapaa
open Go.RowKit Go.Shelf

set_option maxRecDepth 100000 in
set_option maxHeartbeats 4000000 in
theorem refIdentity_any (n : Int) (w : World) :
    Calls Try.prog 44 #[.int .i64 n] w (RetMatE (if n < 1 ∨ 32 < n then 2 else 0) n.toNat n.toNat (fun i k => if i = k then 1 else 0) w) := by
  by_cases h1 : n < 1
  · rw [if_pos (.inl h1)]
    go_enter Try.func44, Try.ntmps44
    go_wp2
    refine bodyPost_ret (v := .tuple #[.slice none 0 0, .int .i64 2]) (by simp [results, Try.results44, go_sem]) rfl ?_
    exact ⟨Below.refl _ _, .inr ⟨by decide, rfl⟩⟩
  by_cases h2 : 32 < n
  · rw [if_pos (.inr h2)]
    have h2b : n > 32 := h2
    clear h2
    go_enter Try.func44, Try.ntmps44
    go_wp2
    refine bodyPost_ret (v := .tuple #[.slice none 0 0, .int .i64 2]) (by simp [results, Try.results44, go_sem]) rfl ?_
    exact ⟨Below.refl _ _, .inr ⟨by decide, rfl⟩⟩
  rw [if_neg (by omega)]
  obtain ⟨m, rfl⟩ : ∃ m : Nat, n = m := ⟨n.toNat, by omega⟩
  have HO := Lib.hid (fun W => refOne_any m (by omega) (by omega) W)
  have h2b : ¬ (m : Int) > 32 := by omega
  clear h2
  go_enter Try.func44, Try.ntmps44
  go_wp2_with fail
  refine (HO.out _).mono ?_
  rintro e w2 ⟨g, cap, A, rfl, hG, hb⟩
  have HG := Lib.hid (hG.mat.congr (G := fun i k => if i = k then 1 else 0) fun i k _ _ => rfl)
  have Hb := Lib.hid hb
  clear hG hb HO
  dsimp only
  go_wp2
  refine bodyPost_ret (v := .tuple #[.slice (some ⟨g, 0, none⟩) m cap, .int .i64 0]) (by simp [results, Try.results44, go_sem]) rfl ?_
  exact ⟨Hb.out, .inl ⟨rfl, _, _, rfl, HG.out⟩⟩
set_option maxRecDepth 100000 in
set_option maxHeartbeats 4000000 in
theorem refMul_m (a b : GM) (p q : Option Addr) (cp cq : Nat) (hfa : a.Fit) (hfb : b.Fit) (hok : mulE a b = 0 → SmallQ a.r b.r (b.L 0) a.F b.F) (w : World) (ha : a.At w p) (hb : b.At w q) :
    Calls Try.prog 48 #[.slice p a.r cp, .slice q b.r cq] w (RetMatE (mulE a b) a.r (b.L 0) (mulF b.r a.F b.F) w) := by
  have HCa := Lib.hid (fun W (hW : Below w.heap.size w W) => refCheck_m a p cp hfa W (ha.below (Nat.le_refl _) hW))
  have HCb := Lib.hid (fun W (hW : Below w.heap.size w W) => refCheck_m b q cq hfb W (hb.below (Nat.le_refl _) hW))
  by_cases hca : a.chk = 0
  case neg =>
    have hv : mulE a b = 1 := if_pos (by simp [hca])
    have e1 : (a.chk != 0) = true := by simpa using hca
    rw [hv]
    clear hv hok hfa hfb ha hb hca
    generalize a.chk = ca at *
    generalize b.chk = cb at *
    generalize a.r = r at *
    generalize b.r = n at *
    go_enter Try.func48, Try.ntmps48
    go_wp2_with fail
    refine (HCa.out _ (Below.refl _ w)).mono ?_
    rintro e w2 ⟨rfl, hb2⟩
    dsimp only
    have Hb := Lib.hid hb2
    clear hb2 HCa
    go_wp2
    refine bodyPost_ret (v := .tuple #[.slice none 0 0, .int .i64 1]) (by simp [results, Try.results48, go_sem]) rfl ?_
    exact ⟨Hb.out, .inr ⟨by decide, rfl⟩⟩
  by_cases hcb : b.chk = 0
  case neg =>
    have hv : mulE a b = 1 := if_pos (by simp [hcb])
    have e1 : (a.chk != 0) = false := by simpa using hca
    have e2 : (b.chk != 0) = true := by simpa using hcb
    rw [hv]
    clear hv hok hfa hfb ha hb hca hcb
    generalize a.chk = ca at *
    generalize b.chk = cb at *
    generalize a.r = r at *
    generalize b.r = n at *
    go_enter Try.func48, Try.ntmps48
    go_wp2_with fail
    refine (HCa.out _ (Below.refl _ w)).mono ?_
    rintro e w2 ⟨rfl, hb2⟩
    dsimp only
    have Hb := Lib.hid hb2
    clear hb2 HCa
    go_wp2_with fail
    refine (HCb.out _ Hb.out).mono ?_
    rintro e w3 ⟨rfl, hb3⟩
    dsimp only
    have Hb3 := Lib.hid (Hb.out.trans (hb3.mono Hb.out.size))
    clear hb3 HCb
    go_wp2
    refine bodyPost_ret (v := .tuple #[.slice none 0 0, .int .i64 1]) (by simp [results, Try.results48, go_sem]) rfl ?_
    exact ⟨Hb3.out, .inr ⟨by decide, rfl⟩⟩
  have hra := GM.chk_zero hca
  have hrb := GM.chk_zero hcb
  have hMa := GM.mat ha hca
  have hMb := GM.mat hb hcb
  have e1 : (a.chk != 0) = false := by simpa using hca
  have e2 : (b.chk != 0) = false := by simpa using hcb
  obtain ⟨bl, off, q1, c1, hpe, hbl, a0⟩ := GM.head ha hra.1
  have hv : mulE a b = if a.L 0 ≠ b.r then 11 else 0 := if_neg (by simp [hca, hcb])
  have r0 : (0 : Int) < (a.r : Int) := by omega
  by_cases hl : a.L 0 = b.r
  · have hv0 : mulE a b = 0 := by rw [hv, if_neg (by omega)]
    have e3 : ((a.L 0 : Int) != (b.r : Int)) = false := by rw [hl, bne_self_eq_false]
    have s1 := hok hv0
    rw [hl] at hMa
    have HP := Lib.hid (fun (W : World) (hW : Below w.heap.size w W) => refProduct_any a.r b.r (b.L 0) p q cp cq a.F b.F (by omega) (by omega) (by omega) (by omega) (by omega) (by omega) W (hMa.below (Nat.le_refl _) hW) (hMb.below (Nat.le_refl _) hW) s1)
    rw [hv0]
    clear hv0 hv hl s1 hra hrb hMa hMb hca hcb hok hfa hfb ha hb
    generalize b.L 0 = l at *
    generalize a.L 0 = la at *
    generalize mulF b.r a.F b.F = D at *
    generalize a.r = r at *
    generalize b.r = n at *
    generalize a.chk = ca at *
    generalize b.chk = cb at *
    subst hpe
    go_enter Try.func48, Try.ntmps48
    go_wp2_with fail
    refine (HCa.out _ (Below.refl _ w)).mono ?_
    rintro e w2 ⟨rfl, hb2⟩
    dsimp only
    have Hb := Lib.hid hb2
    clear hb2 HCa
    go_wp2_with fail
    refine (HCb.out _ Hb.out).mono ?_
    rintro e w3 ⟨rfl, hb3⟩
    dsimp only
    have Hb3 := Lib.hid (Hb.out.trans (hb3.mono Hb.out.size))
    clear hb3 HCb Hb
    have a2 := cell_below Hb3.out a0
    clear a0
    go_wp2_with fail
    refine (HP.out w3 Hb3.out).mono ?_
    rintro e w4 ⟨g, cap, A, rfl, hG, hb4⟩
    dsimp only
    have Hb4 := Lib.hid (Hb3.out.trans (hb4.mono Hb3.out.size))
    have Ho := Lib.hid hG.mat
    clear hb4 hG HP
    go_wp2
    refine bodyPost_ret (v := .tuple #[.slice (some ⟨g, 0, none⟩) r cap, .int .i64 0]) (by simp [results, Try.results48, go_sem]) rfl ?_
    exact ⟨Hb4.out, .inl ⟨rfl, _, _, rfl, Ho.out⟩⟩
  · have hv0 : mulE a b = 11 := by rw [hv, if_pos hl]
    have e3 : ((a.L 0 : Int) != (b.r : Int)) = true := by rw [bne_iff_ne]; omega
    rw [hv0]
    clear hv0 hv hl hra hrb hMa hMb hca hcb hok hfa hfb ha hb
    generalize b.L 0 = l at *
    generalize a.L 0 = la at *
    generalize mulF b.r a.F b.F = D at *
    generalize a.r = r at *
    generalize b.r = n at *
    generalize a.chk = ca at *
    generalize b.chk = cb at *
    subst hpe
    go_enter Try.func48, Try.ntmps48
    go_wp2_with fail
    refine (HCa.out _ (Below.refl _ w)).mono ?_
    rintro e w2 ⟨rfl, hb2⟩
    dsimp only
    have Hb := Lib.hid hb2
    clear hb2 HCa
    go_wp2_with fail
    refine (HCb.out _ Hb.out).mono ?_
    rintro e w3 ⟨rfl, hb3⟩
    dsimp only
    have Hb3 := Lib.hid (Hb.out.trans (hb3.mono Hb.out.size))
    clear hb3 HCb Hb
    have a2 := cell_below Hb3.out a0
    clear a0
    go_wp2
    refine bodyPost_ret (v := .tuple #[.slice none 0 0, .int .i64 11]) (by simp [results, Try.results48, go_sem]) rfl ?_
    exact ⟨Hb3.out, .inr ⟨by decide, rfl⟩⟩
end Go.Proofs.Ytlkoiekdafaapaa

namespace Go.Proofs.Ytlkoiekdafaapaa
open Go.RowKit Go.Shelf

/-- A sum under way. -/
def sumT (F G : Nat → Nat → Int) (i k a b : Nat) : Int := if a < i ∨ a = i ∧ b < k then F a b + G a b else 0
theorem sumT_step (F G : Nat → Nat → Int) (i k a b : Nat) : (if a = i ∧ b = k then F i k + G i k else sumT F G i k a b) = sumT F G i (k + 1) a b := by
  unfold sumT
  grind
theorem sumT_row (c : Nat) (F G : Nat → Nat → Int) (i a b : Nat) (hb : b < c) : sumT F G i c a b = sumT F G (i + 1) 0 a b := by
  unfold sumT
  grind
set_option maxRecDepth 100000 in
set_option maxHeartbeats 4000000 in
theorem refAdd_m (a b : GM) (p q : Option Addr) (cp cq : Nat) (hfa : a.Fit) (hfb : b.Fit) (hok : addE a b = 0 → ∀ i k, i < a.r → k < a.L 0 → (canon (a.F i k)).mag.size < 100000000 ∧ (canon (b.F i k)).mag.size < 100000000) (w : World) (ha : a.At w p) (hb : b.At w q) :
    Calls Try.prog 47 #[.slice p a.r cp, .slice q b.r cq] w (RetMatE (addE a b) a.r (a.L 0) (fun i k => a.F i k + b.F i k) w) := by
  have HCa := Lib.hid (fun W (hW : Below w.heap.size w W) => refCheck_m a p cp hfa W (ha.below (Nat.le_refl _) hW))
  have HCb := Lib.hid (fun W (hW : Below w.heap.size w W) => refCheck_m b q cq hfb W (hb.below (Nat.le_refl _) hW))
  by_cases hca : a.chk = 0
  case neg =>
    have hv : addE a b = 1 := if_pos (by simp [hca])
    have e1 : (a.chk != 0) = true := by simpa using hca
    rw [hv]
    clear hv hok hfa hfb ha hb hca
    generalize a.chk = ca at *
    generalize b.chk = cb at *
    generalize a.r = r at *
    generalize b.r = n at *
    go_enter Try.func47, Try.ntmps47
    go_wp2_with fail
    refine (HCa.out _ (Below.refl _ w)).mono ?_
    rintro e w2 ⟨rfl, hb2⟩
    dsimp only
    have Hb := Lib.hid hb2
    clear hb2 HCa
    go_wp2
    refine bodyPost_ret (v := .tuple #[.slice none 0 0, .int .i64 1]) (by simp [results, Try.results47, go_sem]) rfl ?_
    exact ⟨Hb.out, .inr ⟨by decide, rfl⟩⟩
  by_cases hcb : b.chk = 0
  case neg =>
    have hv : addE a b = 1 := if_pos (by simp [hcb])
    have e1 : (a.chk != 0) = false := by simpa using hca
    have e2 : (b.chk != 0) = true := by simpa using hcb
    rw [hv]
    clear hv hok hfa hfb ha hb hca hcb
    generalize a.chk = ca at *
    generalize b.chk = cb at *
    generalize a.r = r at *
    generalize b.r = n at *
    go_enter Try.func47, Try.ntmps47
    go_wp2_with fail
    refine (HCa.out _ (Below.refl _ w)).mono ?_
    rintro e w2 ⟨rfl, hb2⟩
    dsimp only
    have Hb := Lib.hid hb2
    clear hb2 HCa
    go_wp2_with fail
    refine (HCb.out _ Hb.out).mono ?_
    rintro e w3 ⟨rfl, hb3⟩
    dsimp only
    have Hb3 := Lib.hid (Hb.out.trans (hb3.mono Hb.out.size))
    clear hb3 HCb
    go_wp2
    refine bodyPost_ret (v := .tuple #[.slice none 0 0, .int .i64 1]) (by simp [results, Try.results47, go_sem]) rfl ?_
    exact ⟨Hb3.out, .inr ⟨by decide, rfl⟩⟩
  have hra := GM.chk_zero hca
  have hrb := GM.chk_zero hcb
  have hMa := GM.mat ha hca
  have hMb := GM.mat hb hcb
  have e1 : (a.chk != 0) = false := by simpa using hca
  have e2 : (b.chk != 0) = false := by simpa using hcb
  obtain ⟨pb, po, q1, c1, hpe, hbl, a0⟩ := GM.head ha hra.1
  obtain ⟨qb, qo, q2, c2, hqe, hbl2, b0⟩ := GM.head hb hrb.1
  have hv : addE a b = if ¬(a.r = b.r ∧ a.L 0 = b.L 0) then 11 else 0 := if_neg (by simp [hca, hcb])
  have r0 : (0 : Int) < (a.r : Int) := by omega
  have n0 : (0 : Int) < (b.r : Int) := by omega
  by_cases hl : a.r = b.r
  case neg =>
    have hv0 : addE a b = 11 := by rw [hv, if_pos (fun h => hl h.1)]
    have e3 : ((a.r : Int) != (b.r : Int)) = true := by rw [bne_iff_ne]; omega
    rw [hv0]
    clear hv0 hv hl hra hrb hMa hMb hca hcb hok hfa hfb ha hb
    generalize b.L 0 = l at *
    generalize a.L 0 = la at *
    generalize a.r = r at *
    generalize b.r = n at *
    generalize a.chk = ca at *
    generalize b.chk = cb at *
    subst hpe
    subst hqe
    go_enter Try.func47, Try.ntmps47
    go_wp2_with fail
    refine (HCa.out _ (Below.refl _ w)).mono ?_
    rintro e w2 ⟨rfl, hb2⟩
    dsimp only
    have Hb := Lib.hid hb2
    clear hb2 HCa
    go_wp2_with fail
    refine (HCb.out _ Hb.out).mono ?_
    rintro e w3 ⟨rfl, hb3⟩
    dsimp only
    have Hb3 := Lib.hid (Hb.out.trans (hb3.mono Hb.out.size))
    clear hb3 HCb Hb
    have a2 := cell_below Hb3.out a0
    have b2 := cell_below Hb3.out b0
    clear a0 b0
    go_upto_region 3 with (fail)
    go_quiet (fail)
    have Hq := Lib.hid (below_drN Hb3.out nq)
    generalize w3.drewN nq = w4 at *
    clear a2 b2 Hb3
    go_wp2
    refine bodyPost_ret (v := .tuple #[.slice none 0 0, .int .i64 11]) (by simp [results, Try.results47, go_sem]) rfl ?_
    exact ⟨Hq.out, .inr ⟨by decide, rfl⟩⟩
  have e3 : ((a.r : Int) != (b.r : Int)) = false := by rw [hl, bne_self_eq_false]
  by_cases hl2 : a.L 0 = b.L 0
  case neg =>
    have hv0 : addE a b = 11 := by rw [hv, if_pos (fun h => hl2 h.2)]
    have e4 : ((a.L 0 : Int) != (b.L 0 : Int)) = true := by rw [bne_iff_ne]; omega
    rw [hv0]
    clear hv0 hv hl hl2 hra hrb hMa hMb hca hcb hok hfa hfb ha hb
    generalize b.L 0 = l at *
    generalize a.L 0 = la at *
    generalize a.r = r at *
    generalize b.r = n at *
    generalize a.chk = ca at *
    generalize b.chk = cb at *
    subst hpe
    subst hqe
    go_enter Try.func47, Try.ntmps47
    go_wp2_with fail
    refine (HCa.out _ (Below.refl _ w)).mono ?_
    rintro e w2 ⟨rfl, hb2⟩
    dsimp only
    have Hb := Lib.hid hb2
    clear hb2 HCa
    go_wp2_with fail
    refine (HCb.out _ Hb.out).mono ?_
    rintro e w3 ⟨rfl, hb3⟩
    dsimp only
    have Hb3 := Lib.hid (Hb.out.trans (hb3.mono Hb.out.size))
    clear hb3 HCb Hb
    have a2 := cell_below Hb3.out a0
    have b2 := cell_below Hb3.out b0
    clear a0 b0
    go_upto_region 3 with (fail)
    go_quiet (fail)
    have Hq := Lib.hid (below_drN Hb3.out nq)
    generalize w3.drewN nq = w4 at *
    clear a2 b2 Hb3
    go_wp2
    refine bodyPost_ret (v := .tuple #[.slice none 0 0, .int .i64 11]) (by simp [results, Try.results47, go_sem]) rfl ?_
    exact ⟨Hq.out, .inr ⟨by decide, rfl⟩⟩
  have e4 : ((a.L 0 : Int) != (b.L 0 : Int)) = false := by rw [hl2, bne_self_eq_false]
  have hv0 : addE a b = 0 := by rw [hv, if_neg (fun h => h ⟨hl, hl2⟩)]
  have Hs := Lib.hid (hok hv0)
  rw [← hl, ← hl2] at hMb
  have HF := Lib.hid hMa
  have HGG := Lib.hid hMb
  have HZ := Lib.hid (fun W => refZeros_any a.r (a.L 0) (by omega) (by omega) (by omega) W)
  have HA := Lib.hid (fun x y hx hy W => refAddC_any x y hx hy W)
  have HL := Lib.hid hl
  have hc1 : a.L 0 < 1000000 := by omega
  have hr1 : a.r < 1000000 := by omega
  rw [hv0]
  clear hv0 hv hl hl2 hra hrb hMa hMb hca hcb hok hfa hfb ha hb
  generalize b.L 0 = lb at *
  generalize a.L 0 = c at *
  generalize a.F = F at *
  generalize b.F = G at *
  generalize a.r = r at *
  generalize b.r = n at *
  generalize a.chk = ca at *
  generalize b.chk = cb at *
  subst hpe
  subst hqe
  go_enter Try.func47, Try.ntmps47
  go_wp2_with fail
  refine (HCa.out _ (Below.refl _ w)).mono ?_
  rintro e w2 ⟨rfl, hb2⟩
  dsimp only
  have Hb := Lib.hid hb2
  clear hb2 HCa
  go_wp2_with fail
  refine (HCb.out _ Hb.out).mono ?_
  rintro e w3 ⟨rfl, hb3⟩
  dsimp only
  have Hb3 := Lib.hid (Hb.out.trans (hb3.mono Hb.out.size))
  clear hb3 HCb Hb
  have a2 := cell_below Hb3.out a0
  have b2 := cell_below Hb3.out b0
  have HH := Lib.hid (fun W (hW : Below w.heap.size w W) => cell_below hW a0)
  clear a0 b0
  go_upto_region 3 with (fail)
  go_quiet (fail)
  have Hq := Lib.hid (below_drN Hb3.out nq)
  generalize w3.drewN nq = w4 at *
  clear a2 b2 Hb3 e3 e4
  have a4 := HH.out _ Hq.out
  go_wp2_with fail
  refine (HZ.out _).mono ?_
  rintro e w1 ⟨g, cap, A, rfl, hG, hb⟩
  clear HZ a4
  have HG := Lib.hid (hG.congr (G := sumT F G 0 0) (fun i k _ _ => by simp [sumT]))
  have Hb := Lib.hid hb
  clear hG hb
  dsimp only
  go_wp2_with fail
  have HGB : Hid (Grid w1 w.heap.size g r c A (sumT F G 0 0)) := Lib.hid ⟨Nat.le_trans Hq.out.size HG.out.low, HG.out.lt, HG.out.hdr, fun i hi => ⟨(HG.out.row i hi).1, Nat.le_trans Hq.out.size (HG.out.row i hi).2⟩, HG.out.ne, HG.out.inj⟩
  have HBB0 : Hid (Below w.heap.size w w1) := Lib.hid (Hq.out.trans (Hb.out.mono Hq.out.size))
  clear HG Hb Hq
  go_loopw [7] (fun iv wr => ∃ i : Nat, i ≤ r ∧ iv = .int .i64 (i : Nat) ∧ Hid (Grid wr w.heap.size g r c A (sumT F G i 0)) ∧ Hid (Below w.heap.size w wr)) (fun iv _ => r - (intOf iv).toNat)
  case atStart => exact ⟨0, by omega, by go_num, HGB, HBB0⟩
  case round =>
    clear HGB HBB0
    obtain ⟨i, hi, rfl, HG, HB⟩ := hrel
    by_cases hlt : i < r
    · have i1 : (i : Int) < (r : Int) := by omega
      have i2 : i < n := by rw [← HL.out]; exact hlt
      go_wp2
      go_loopw [8] (fun kv wr => ∃ k : Nat, k ≤ c ∧ kv = .int .i64 (k : Nat) ∧ Hid (Grid wr w.heap.size g r c A (sumT F G i k)) ∧ Hid (Below w.heap.size w wr)) (fun kv _ => c - (intOf kv).toNat)
      case atStart => exact ⟨0, by omega, by go_num, HG, HB⟩
      case round =>
        clear HG HB
        obtain ⟨k, hk, rfl, HG, HB⟩ := hrel
        have hhead := HH.out _ HB.out
        by_cases hkt : k < c
        · have k1 : (k : Int) < (c : Int) := by omega
          go_upto_region 12 with (fail)
          clear hhead
          obtain ⟨W0, hW0⟩ : ∃ W, wr = W := ⟨_, rfl⟩
          rw [hW0] at HG HB ⊢
          clear hW0
          obtain ⟨ab, ao, ac, a1, a2, a3⟩ := HF.out.at hlt hkt
          obtain ⟨bb, bo, bc, b1, b2, b3⟩ := HGG.out.at hlt hkt
          obtain ⟨hm1, hm2⟩ := Hs.out i k hlt hkt
          obtain ⟨x, hx⟩ : ∃ x, F i k = x := ⟨_, rfl⟩
          obtain ⟨y, hy⟩ : ∃ y, G i k = y := ⟨_, rfl⟩
          have Hnext : Hid (x + y = F i k + G i k) := Lib.hid (by rw [hx, hy])
          rw [hx] at hm1 a2 a3
          rw [hy] at hm2 b2 b3
          obtain ⟨SS, hSe⟩ : ∃ SS : World → Prop, SS = fun W => W.cell? ⟨pb, po + i, none⟩ = some (.slice (some ⟨ab, ao, none⟩) c ac) ∧ W.cell? ⟨ab, ao + k * 2, none⟩ = some (.bool (canon x).neg) ∧ W.cell? ⟨ab, ao + k * 2 + 1, none⟩ = some (.string (canon x).mag) ∧ W.cell? ⟨qb, qo + i, none⟩ = some (.slice (some ⟨bb, bo, none⟩) c bc) ∧ W.cell? ⟨bb, bo + k * 2, none⟩ = some (.bool (canon y).neg) ∧ W.cell? ⟨bb, bo + k * 2 + 1, none⟩ = some (.string (canon y).mag) ∧ W.cell? ⟨g, i, none⟩ = some (.slice (some ⟨A i, 0, none⟩) c c) := ⟨_, rfl⟩
          have HS0 : Hid (∀ W, Below w.heap.size w W → ∀ T, Grid W w.heap.size g r c A T → SS W) := Lib.hid (fun W hW T hT => by
            rw [hSe]
            exact ⟨cell_below hW a1, cell_below hW a2, cell_below hW a3, cell_below hW b1, cell_below hW b2, cell_below hW b3, hT.hdr i hlt⟩)
          clear a1 a2 a3 b1 b2 b3 hx hy
          have HBB : Hid (∀ W, Below W0.heap.size W0 W → Below w.heap.size w W) := Lib.hid (fun W hW => HB.out.trans (hW.mono HB.out.size))
          have HS : Hid (∀ W, Below W0.heap.size W0 W → SS W) := Lib.hid (fun W hW => HS0.out W (HBB.out W hW) _ (HG.out.call hW))
          have hd : Below W0.heap.size W0 W0.drew := (Below.refl W0.heap.size W0).drew
          refine wp_region_held_drew (S := SS) (by kernel_rfl) (HS.out _ hd) (fun hSS => ?_)
          refine wpAnyH_take (i := 0) (v := ?_) rfl (by kernel_rfl) (by kernel_rfl) (by kernel_rfl) (fun _ _ _ h => h) (Or.inl ⟨by rfl, ?_⟩) hSS ?_
          rotate_left 1
          next => intro w hSw; rw [hSe] at hSw; obtain ⟨s1, s2, s3, s4, s5, s6, s7⟩ := hSw; go_simp; try with_reducible rfl
          refine wpAnyH_take (i := 1) (v := ?_) rfl (by kernel_rfl) (by kernel_rfl) (by kernel_rfl) (fun _ _ _ h => h) (Or.inl ⟨by rfl, ?_⟩) hSS ?_
          rotate_left 1
          next => intro w hSw; rw [hSe] at hSw; obtain ⟨s1, s2, s3, s4, s5, s6, s7⟩ := hSw; go_simp; try with_reducible rfl
          refine wpAnyH_take (i := 2) (v := ?_) rfl (by kernel_rfl) (by kernel_rfl) (by kernel_rfl) (fun _ _ _ h => h) (Or.inl ⟨by rfl, ?_⟩) hSS ?_
          rotate_left 1
          next => intro w hSw; rw [hSe] at hSw; obtain ⟨s1, s2, s3, s4, s5, s6, s7⟩ := hSw; go_simp; try with_reducible rfl
          refine wpAnyH_take (i := 3) (v := ?_) rfl (by kernel_rfl) (by kernel_rfl) (by kernel_rfl) (fun _ _ _ h => h) (Or.inl ⟨by rfl, ?_⟩) hSS ?_
          rotate_left 1
          next => intro w hSw; rw [hSe] at hSw; obtain ⟨s1, s2, s3, s4, s5, s6, s7⟩ := hSw; go_simp; try with_reducible rfl
          refine wpAnyH_take (i := 4) (v := ?_) rfl (by kernel_rfl) (by kernel_rfl) (by kernel_rfl) (fun _ _ _ h => h) (Or.inl ⟨by rfl, ?_⟩) hSS ?_
          rotate_left 1
          next => intro w hSw; rw [hSe] at hSw; obtain ⟨s1, s2, s3, s4, s5, s6, s7⟩ := hSw; go_simp; try with_reducible rfl
          refine wpAnyH_take (i := 5) (v := ?_) rfl (by kernel_rfl) (by kernel_rfl) (by kernel_rfl) (fun _ _ _ h => h) (Or.inl ⟨by rfl, ?_⟩) hSS ?_
          rotate_left 1
          next => intro w hSw; rw [hSe] at hSw; obtain ⟨s1, s2, s3, s4, s5, s6, s7⟩ := hSw; go_simp; try with_reducible rfl
          refine wpAnyH_take (i := 6) (v := ?_) rfl (by kernel_rfl) (by kernel_rfl) (by kernel_rfl) (fun _ _ _ h => h) (Or.inl ⟨by rfl, ?_⟩) hSS ?_
          rotate_left 1
          next => intro w hSw; rw [hSe] at hSw; obtain ⟨s1, s2, s3, s4, s5, s6, s7⟩ := hSw; go_simp; try with_reducible rfl
          refine wpAnyH_take (i := 7) (v := ?_) rfl (by kernel_rfl) (by kernel_rfl) (by kernel_rfl) (fun _ _ _ h => h) (Or.inl ⟨by rfl, ?_⟩) hSS ?_
          rotate_left 1
          next => intro w hSw; rw [hSe] at hSw; obtain ⟨s1, s2, s3, s4, s5, s6, s7⟩ := hSw; go_simp; try with_reducible rfl
          refine wpAnyH_take (i := 8) (v := ?_) rfl (by kernel_rfl) (by kernel_rfl) (by kernel_rfl) (fun _ _ _ h => h) (Or.inl ⟨by rfl, ?_⟩) hSS ?_
          rotate_left 1
          next => intro w hSw; rw [hSe] at hSw; obtain ⟨s1, s2, s3, s4, s5, s6, s7⟩ := hSw; go_simp; try with_reducible rfl
          refine wpAnyH_take (i := 9) (v := ?_) rfl (by kernel_rfl) (by kernel_rfl) (by kernel_rfl) (fun _ _ _ h => h) (Or.inl ⟨by rfl, ?_⟩) hSS ?_
          rotate_left 1
          next => intro w hSw; rw [hSe] at hSw; obtain ⟨s1, s2, s3, s4, s5, s6, s7⟩ := hSw; go_simp; try with_reducible rfl
          refine wpAnyH_take (i := 10) (v := ?_) rfl (by kernel_rfl) (by kernel_rfl) (by kernel_rfl) (fun _ _ _ h => h) (Or.inl ⟨by rfl, ?_⟩) hSS ?_
          rotate_left 1
          next => intro w hSw; rw [hSe] at hSw; obtain ⟨s1, s2, s3, s4, s5, s6, s7⟩ := hSw; go_simp; try with_reducible rfl
          refine wpAnyH_take (i := 11) (v := ?_) rfl (by kernel_rfl) (by kernel_rfl) (by kernel_rfl) (fun _ _ _ h => h) (Or.inl ⟨by rfl, ?_⟩) hSS ?_
          rotate_left 1
          next => intro w hSw; rw [hSe] at hSw; obtain ⟨s1, s2, s3, s4, s5, s6, s7⟩ := hSw; go_simp; try with_reducible rfl
          refine wpAnyH_take (i := 12) (v := ?_) rfl (by kernel_rfl) (by kernel_rfl) (by kernel_rfl) (fun _ _ _ h => h) (Or.inl ⟨by rfl, ?_⟩) hSS ?_
          rotate_left 1
          next => intro w hSw; rw [hSe] at hSw; obtain ⟨s1, s2, s3, s4, s5, s6, s7⟩ := hSw; go_simp; try with_reducible rfl
          refine wpAnyH_take (i := 13) (v := ?_) rfl (by kernel_rfl) (by kernel_rfl) (by kernel_rfl) (fun _ _ _ h => h) (Or.inl ⟨by rfl, ?_⟩) hSS ?_
          rotate_left 1
          next => intro w hSw; rw [hSe] at hSw; obtain ⟨s1, s2, s3, s4, s5, s6, s7⟩ := hSw; go_simp; try with_reducible rfl
          refine wpAnyH_take (i := 14) (v := ?_) rfl (by kernel_rfl) (by kernel_rfl) (by kernel_rfl) (fun _ _ _ h => h) (Or.inl ⟨by rfl, ?_⟩) hSS ?_
          rotate_left 1
          next => intro w hSw; rw [hSe] at hSw; obtain ⟨s1, s2, s3, s4, s5, s6, s7⟩ := hSw; go_simp; try with_reducible rfl
          refine wpAnyH_take (i := 15) (v := ?_) rfl (by kernel_rfl) (by kernel_rfl) (by kernel_rfl) (fun _ _ _ h => h) (Or.inl ⟨by rfl, ?_⟩) hSS ?_
          rotate_left 1
          next => intro w hSw; rw [hSe] at hSw; obtain ⟨s1, s2, s3, s4, s5, s6, s7⟩ := hSw; go_simp; try with_reducible rfl
          refine wpAnyH_take (i := 16) (v := ?_) rfl (by kernel_rfl) (by kernel_rfl) (by kernel_rfl) (fun _ _ _ h => h) (Or.inl ⟨by rfl, ?_⟩) hSS ?_
          rotate_left 1
          next => intro w hSw; rw [hSe] at hSw; obtain ⟨s1, s2, s3, s4, s5, s6, s7⟩ := hSw; go_simp; try with_reducible rfl
          refine wpAnyH_take (i := 17) (v := ?_) rfl (by kernel_rfl) (by kernel_rfl) (by kernel_rfl) (fun _ _ _ h => h) (Or.inl ⟨by rfl, ?_⟩) hSS ?_
          rotate_left 1
          next => intro w hSw; rw [hSe] at hSw; obtain ⟨s1, s2, s3, s4, s5, s6, s7⟩ := hSw; go_simp; try with_reducible rfl
          refine wpAnyH_take (i := 18) (v := ?_) rfl (by kernel_rfl) (by kernel_rfl) (by kernel_rfl) (fun _ _ _ h => h) (Or.inl ⟨by rfl, ?_⟩) hSS ?_
          rotate_left 1
          next => intro w hSw; rw [hSe] at hSw; obtain ⟨s1, s2, s3, s4, s5, s6, s7⟩ := hSw; go_simp; try with_reducible rfl
          try simp only [Act.put, List.getElem_toArray, List.getElem_cons_zero, List.getElem_cons_succ, List.setIfInBounds_toArray, List.set_cons_zero, List.set_cons_succ]
          refine wpAnyH_ready (rs := [19]) (by kernel_rfl) (by simp) ?_
          refine AllReadyH.cons rfl (fun K hK => ?_) AllReadyH.nil
          go_simp
          refine (HA.out x y hm1 hm2 _).mono ?_
          rintro e W2 ⟨rfl, hbc⟩
          have hW2 : Below W0.heap.size W0 W2 := hd.trans (hbc.mono hd.size)
          dsimp only
          refine hK.out _ _ (HS.out _ hW2) (fun _ => ?_)
          clear hK K hbc
          refine wpAnyH_take (i := 20) (v := ?_) rfl (by kernel_rfl) (by kernel_rfl) (by kernel_rfl) (fun _ _ _ h => h) (Or.inl ⟨by rfl, ?_⟩) (HS.out _ hW2) ?_
          rotate_left 1
          next => intro w hSw; rw [hSe] at hSw; obtain ⟨s1, s2, s3, s4, s5, s6, s7⟩ := hSw; go_simp; try with_reducible rfl
          try simp only [Act.put, List.getElem_toArray, List.getElem_cons_zero, List.getElem_cons_succ, List.setIfInBounds_toArray, List.set_cons_zero, List.set_cons_succ]
          have hG1 := HG.out.call hW2
          obtain ⟨⟨z1, z2⟩, z3, z4⟩ := (hG1.row i hlt).1.z.2 k hkt
          have hg2 := hG1.set hlt k (x + y)
          have hb2 : Below w.heap.size w ((W2.setCell ⟨A i, k * 2, none⟩ (.bool (canon (x + y)).neg)).setCell ⟨A i, k * 2 + 1, none⟩ (.string (canon (x + y)).mag)) := ((HBB.out _ hW2).setCell (HG.out.row i hlt).2 _).setCell (HG.out.row i hlt).2 _
          try simp only [Act.put, List.getElem_toArray, List.getElem_cons_zero, List.getElem_cons_succ, List.setIfInBounds_toArray, List.set_cons_zero, List.set_cons_succ]
          refine wpAnyH_ready (rs := [21]) (by kernel_rfl) (by simp) ?_
          refine AllReadyH.cons rfl (fun K hK => ?_) AllReadyH.nil
          go_simp
          refine hK.out _ _ (HS0.out _ hb2 _ hg2) (fun _ => ?_)
          clear hK K
          refine wpAnyH_done (by kernel_rfl) ?_ _
          rw [Hnext.out] at hg2 hb2 ⊢
          have HG2 := Lib.hid (hg2.congr (G := sumT F G i (k + 1)) fun a b ha hb => sumT_step F G i k a b)
          have HB2 := Lib.hid hb2
          clear hg2 z1 z2 z3 z4 hG1 hW2 HS hd hSe hb2 hm1 hm2 Hnext HS0 HBB hSS
          go_wp2
          go_roundw
          case rel => exact ⟨k + 1, by omega, by go_num, HG2, HB2⟩
          case measure => simp [intOf]; omega
        · have k1 : ¬ (k : Int) < (c : Int) := by omega
          have hke : k = c := by omega
          rw [hke] at HG
          have HG2 := Lib.hid (HG.out.congr (G := sumT F G (i + 1) 0) fun a b ha hb => sumT_row c F G i a b hb)
          clear hke HG
          go_wp2
          go_roundw
          case rel => exact ⟨i + 1, by omega, by go_num, HG2, HB⟩
          case measure => simp [intOf]; omega
    · have i1 : ¬ (i : Int) < (r : Int) := by omega
      have hie : i = r := by omega
      rw [hie] at HG
      clear hie
      go_wp2
      refine bodyPost_ret (v := .tuple #[.slice (some ⟨g, 0, none⟩) r cap, .int .i64 0]) (by simp [results, Try.results47, go_sem]) rfl ?_
      exact ⟨HB.out, .inl ⟨rfl, _, _, rfl, HG.out.mat.congr fun a b ha hb => by simp [sumT, ha]⟩⟩
end Go.Proofs.Ytlkoiekdafaapaa

namespace Go.Proofs.Ytlkoiekdafaapaa
open Go.RowKit Go.Shelf

/-- A transpose under way. -/
def trT (F : Nat → Nat → Int) (i k a b : Nat) : Int := if b < i ∨ b = i ∧ a < k then F b a else 0
theorem trT_step (F : Nat → Nat → Int) (i k a b : Nat) : (if a = k ∧ b = i then F i k else trT F i k a b) = trT F i (k + 1) a b := by
  unfold trT
  grind
theorem trT_row (c : Nat) (F : Nat → Nat → Int) (i a b : Nat) (ha : a < c) : trT F i c a b = trT F (i + 1) 0 a b := by
  unfold trT
  grind
set_option maxRecDepth 100000 in
set_option maxHeartbeats 4000000 in
theorem refTr_m (a : GM) (p : Option Addr) (cp : Nat) (hfa : a.Fit) (w : World) (ha : a.At w p) :
    Calls Try.prog 49 #[.slice p a.r cp] w (RetMatE (trE a) (a.L 0) a.r (fun i k => a.F k i) w) := by
  have HCa := Lib.hid (refCheck_m a p cp hfa w ha)
  by_cases hca : a.chk = 0
  case neg =>
    have hv : trE a = 1 := if_pos hca
    have e1 : (a.chk != 0) = true := by simpa using hca
    rw [hv]
    clear hv hfa ha hca
    generalize a.chk = ca at *
    generalize a.r = r at *
    go_enter Try.func49, Try.ntmps49
    go_wp2_with fail
    refine HCa.out.mono ?_
    rintro e w2 ⟨rfl, hb2⟩
    dsimp only
    have Hb := Lib.hid hb2
    clear hb2 HCa
    go_wp2
    refine bodyPost_ret (v := .tuple #[.slice none 0 0, .int .i64 1]) (by simp [results, Try.results49, go_sem]) rfl ?_
    exact ⟨Hb.out, .inr ⟨by decide, rfl⟩⟩
  have hra := GM.chk_zero hca
  have hMa := GM.mat ha hca
  have e1 : (a.chk != 0) = false := by simpa using hca
  obtain ⟨pb, po, q1, c1, hpe, hbl, a0⟩ := GM.head ha hra.1
  have hv : trE a = 0 := if_neg (by simp [hca])
  have r0 : (0 : Int) < (a.r : Int) := by omega
  have HF := Lib.hid hMa
  have HZ := Lib.hid (fun W => refZeros_any (a.L 0) a.r (by omega) (by omega) (by omega) W)
  have hc1 : a.L 0 < 1000000 := by omega
  have hr1 : a.r < 1000000 := by omega
  rw [hv]
  clear hv hra hMa hca hfa ha
  generalize a.L 0 = c at *
  generalize a.F = F at *
  generalize a.r = r at *
  generalize a.chk = ca at *
  subst hpe
  go_enter Try.func49, Try.ntmps49
  go_wp2_with fail
  refine HCa.out.mono ?_
  rintro e w2 ⟨rfl, hb2⟩
  dsimp only
  have Hb := Lib.hid hb2
  clear hb2 HCa
  have HH := Lib.hid (fun W (hW : Below w.heap.size w W) => cell_below hW a0)
  have a4 := HH.out _ Hb.out
  clear a0
  go_wp2_with fail
  refine (HZ.out _).mono ?_
  rintro e w1 ⟨g, cap, A, rfl, hG, hb⟩
  clear HZ a4
  have HG := Lib.hid (hG.congr (G := trT F 0 0) (fun i k _ _ => by simp [trT]))
  have Hb1 := Lib.hid hb
  clear hG hb
  dsimp only
  go_wp2_with fail
  have HGB : Hid (Grid w1 w.heap.size g c r A (trT F 0 0)) := Lib.hid ⟨Nat.le_trans Hb.out.size HG.out.low, HG.out.lt, HG.out.hdr, fun i hi => ⟨(HG.out.row i hi).1, Nat.le_trans Hb.out.size (HG.out.row i hi).2⟩, HG.out.ne, HG.out.inj⟩
  have HBB0 : Hid (Below w.heap.size w w1) := Lib.hid (Hb.out.trans (Hb1.out.mono Hb.out.size))
  clear HG Hb1 Hb
  go_loopw [5] (fun iv wr => ∃ i : Nat, i ≤ r ∧ iv = .int .i64 (i : Nat) ∧ Hid (Grid wr w.heap.size g c r A (trT F i 0)) ∧ Hid (Below w.heap.size w wr)) (fun iv _ => r - (intOf iv).toNat)
  case atStart => exact ⟨0, by omega, by go_num, HGB, HBB0⟩
  case round =>
    clear HGB HBB0
    obtain ⟨i, hi, rfl, HG, HB⟩ := hrel
    by_cases hlt : i < r
    · have i1 : (i : Int) < (r : Int) := by omega
      go_wp2
      go_loopw [6] (fun kv wr => ∃ k : Nat, k ≤ c ∧ kv = .int .i64 (k : Nat) ∧ Hid (Grid wr w.heap.size g c r A (trT F i k)) ∧ Hid (Below w.heap.size w wr)) (fun kv _ => c - (intOf kv).toNat)
      case atStart => exact ⟨0, by omega, by go_num, HG, HB⟩
      case round =>
        clear HG HB
        obtain ⟨k, hk, rfl, HG, HB⟩ := hrel
        have hhead := HH.out _ HB.out
        by_cases hkt : k < c
        · have k1 : (k : Int) < (c : Int) := by omega
          go_upto_region 10 with (fail)
          clear hhead
          obtain ⟨W0, hW0⟩ : ∃ W, wr = W := ⟨_, rfl⟩
          rw [hW0] at HG HB ⊢
          clear hW0
          obtain ⟨ab, ao, ac, a1, a2, a3⟩ := HF.out.at hlt hkt
          obtain ⟨x, hx⟩ : ∃ x, F i k = x := ⟨_, rfl⟩
          rw [hx] at a2 a3
          have Hnext : Hid (x = F i k) := Lib.hid hx.symm
          obtain ⟨SS, hSe⟩ : ∃ SS : World → Prop, SS = fun W => W.cell? ⟨pb, po + i, none⟩ = some (.slice (some ⟨ab, ao, none⟩) c ac) ∧ W.cell? ⟨ab, ao + k * 2, none⟩ = some (.bool (canon x).neg) ∧ W.cell? ⟨ab, ao + k * 2 + 1, none⟩ = some (.string (canon x).mag) ∧ W.cell? ⟨g, k, none⟩ = some (.slice (some ⟨A k, 0, none⟩) r r) := ⟨_, rfl⟩
          have HS0 : Hid (∀ W, Below w.heap.size w W → ∀ T, Grid W w.heap.size g c r A T → SS W) := Lib.hid (fun W hW T hT => by
            rw [hSe]
            exact ⟨cell_below hW a1, cell_below hW a2, cell_below hW a3, hT.hdr k hkt⟩)
          clear a1 a2 a3 hx
          have HBB : Hid (∀ W, Below W0.heap.size W0 W → Below w.heap.size w W) := Lib.hid (fun W hW => HB.out.trans (hW.mono HB.out.size))
          have HS : Hid (∀ W, Below W0.heap.size W0 W → SS W) := Lib.hid (fun W hW => HS0.out W (HBB.out W hW) _ (HG.out.call hW))
          have hW2 : Below W0.heap.size W0 W0.drew := (Below.refl W0.heap.size W0).drew
          refine wp_region_held_drew (S := SS) (by kernel_rfl) (HS.out _ hW2) (fun hSS => ?_)
          generalize W0.drew = W1 at hSS hW2 ⊢
          refine wpAnyH_take (i := 0) (v := ?_) rfl (by kernel_rfl) (by kernel_rfl) (by kernel_rfl) (fun _ _ _ h => h) (Or.inl ⟨by rfl, ?_⟩) hSS ?_
          rotate_left 1
          next => intro w hSw; rw [hSe] at hSw; obtain ⟨s1, s2, s3, s4⟩ := hSw; go_simp; try with_reducible rfl
          refine wpAnyH_take (i := 1) (v := ?_) rfl (by kernel_rfl) (by kernel_rfl) (by kernel_rfl) (fun _ _ _ h => h) (Or.inl ⟨by rfl, ?_⟩) hSS ?_
          rotate_left 1
          next => intro w hSw; rw [hSe] at hSw; obtain ⟨s1, s2, s3, s4⟩ := hSw; go_simp; try with_reducible rfl
          refine wpAnyH_take (i := 2) (v := ?_) rfl (by kernel_rfl) (by kernel_rfl) (by kernel_rfl) (fun _ _ _ h => h) (Or.inl ⟨by rfl, ?_⟩) hSS ?_
          rotate_left 1
          next => intro w hSw; rw [hSe] at hSw; obtain ⟨s1, s2, s3, s4⟩ := hSw; go_simp; try with_reducible rfl
          refine wpAnyH_take (i := 3) (v := ?_) rfl (by kernel_rfl) (by kernel_rfl) (by kernel_rfl) (fun _ _ _ h => h) (Or.inl ⟨by rfl, ?_⟩) hSS ?_
          rotate_left 1
          next => intro w hSw; rw [hSe] at hSw; obtain ⟨s1, s2, s3, s4⟩ := hSw; go_simp; try with_reducible rfl
          refine wpAnyH_take (i := 4) (v := ?_) rfl (by kernel_rfl) (by kernel_rfl) (by kernel_rfl) (fun _ _ _ h => h) (Or.inl ⟨by rfl, ?_⟩) hSS ?_
          rotate_left 1
          next => intro w hSw; rw [hSe] at hSw; obtain ⟨s1, s2, s3, s4⟩ := hSw; go_simp; try with_reducible rfl
          refine wpAnyH_take (i := 5) (v := ?_) rfl (by kernel_rfl) (by kernel_rfl) (by kernel_rfl) (fun _ _ _ h => h) (Or.inl ⟨by rfl, ?_⟩) hSS ?_
          rotate_left 1
          next => intro w hSw; rw [hSe] at hSw; obtain ⟨s1, s2, s3, s4⟩ := hSw; go_simp; try with_reducible rfl
          refine wpAnyH_take (i := 6) (v := ?_) rfl (by kernel_rfl) (by kernel_rfl) (by kernel_rfl) (fun _ _ _ h => h) (Or.inl ⟨by rfl, ?_⟩) hSS ?_
          rotate_left 1
          next => intro w hSw; rw [hSe] at hSw; obtain ⟨s1, s2, s3, s4⟩ := hSw; go_simp; try with_reducible rfl
          refine wpAnyH_take (i := 7) (v := ?_) rfl (by kernel_rfl) (by kernel_rfl) (by kernel_rfl) (fun _ _ _ h => h) (Or.inl ⟨by rfl, ?_⟩) hSS ?_
          rotate_left 1
          next => intro w hSw; rw [hSe] at hSw; obtain ⟨s1, s2, s3, s4⟩ := hSw; go_simp; try with_reducible rfl
          refine wpAnyH_take (i := 8) (v := ?_) rfl (by kernel_rfl) (by kernel_rfl) (by kernel_rfl) (fun _ _ _ h => h) (Or.inl ⟨by rfl, ?_⟩) hSS ?_
          rotate_left 1
          next => intro w hSw; rw [hSe] at hSw; obtain ⟨s1, s2, s3, s4⟩ := hSw; go_simp; try with_reducible rfl
          refine wpAnyH_take (i := 9) (v := ?_) rfl (by kernel_rfl) (by kernel_rfl) (by kernel_rfl) (fun _ _ _ h => h) (Or.inl ⟨by rfl, ?_⟩) hSS ?_
          rotate_left 1
          next => intro w hSw; rw [hSe] at hSw; obtain ⟨s1, s2, s3, s4⟩ := hSw; go_simp; try with_reducible rfl
          refine wpAnyH_take (i := 10) (v := ?_) rfl (by kernel_rfl) (by kernel_rfl) (by kernel_rfl) (fun _ _ _ h => h) (Or.inl ⟨by rfl, ?_⟩) hSS ?_
          rotate_left 1
          next => intro w hSw; rw [hSe] at hSw; obtain ⟨s1, s2, s3, s4⟩ := hSw; go_simp; try with_reducible rfl
          refine wpAnyH_take (i := 11) (v := ?_) rfl (by kernel_rfl) (by kernel_rfl) (by kernel_rfl) (fun _ _ _ h => h) (Or.inl ⟨by rfl, ?_⟩) hSS ?_
          rotate_left 1
          next => intro w hSw; rw [hSe] at hSw; obtain ⟨s1, s2, s3, s4⟩ := hSw; go_simp; try with_reducible rfl
          refine wpAnyH_take (i := 12) (v := ?_) rfl (by kernel_rfl) (by kernel_rfl) (by kernel_rfl) (fun _ _ _ h => h) (Or.inl ⟨by rfl, ?_⟩) hSS ?_
          rotate_left 1
          next => intro w hSw; rw [hSe] at hSw; obtain ⟨s1, s2, s3, s4⟩ := hSw; go_simp; try with_reducible rfl
          have hG1 := HG.out.call hW2
          obtain ⟨⟨z1, z2⟩, z3, z4⟩ := (hG1.row k hkt).1.z.2 i hlt
          have hg2 := hG1.set hkt i x
          have hb2 : Below w.heap.size w ((W1.setCell ⟨A k, i * 2, none⟩ (.bool (canon x).neg)).setCell ⟨A k, i * 2 + 1, none⟩ (.string (canon x).mag)) := ((HBB.out _ hW2).setCell (HG.out.row k hkt).2 _).setCell (HG.out.row k hkt).2 _
          try simp only [Act.put, List.getElem_toArray, List.getElem_cons_zero, List.getElem_cons_succ, List.setIfInBounds_toArray, List.set_cons_zero, List.set_cons_succ]
          refine wpAnyH_ready (rs := [13]) (by kernel_rfl) (by simp) ?_
          refine AllReadyH.cons rfl (fun K hK => ?_) AllReadyH.nil
          go_simp
          refine hK.out _ _ (HS0.out _ hb2 _ hg2) (fun _ => ?_)
          clear hK K
          refine wpAnyH_done (by kernel_rfl) ?_ _
          rw [Hnext.out] at hg2 hb2 ⊢
          have HG2 := Lib.hid (hg2.congr (G := trT F i (k + 1)) fun a b ha hb => trT_step F i k a b)
          have HB2 := Lib.hid hb2
          clear hg2 z1 z2 z3 z4 hG1 hW2 HS hSe hb2 Hnext HS0 HBB hSS
          go_wp2
          go_roundw
          case rel => exact ⟨k + 1, by omega, by go_num, HG2, HB2⟩
          case measure => simp [intOf]; omega
        · have k1 : ¬ (k : Int) < (c : Int) := by omega
          have hke : k = c := by omega
          rw [hke] at HG
          have HG2 := Lib.hid (HG.out.congr (G := trT F (i + 1) 0) fun a b ha hb => trT_row c F i a b ha)
          clear hke HG
          go_wp2
          go_roundw
          case rel => exact ⟨i + 1, by omega, by go_num, HG2, HB⟩
          case measure => simp [intOf]; omega
    · have i1 : ¬ (i : Int) < (r : Int) := by omega
      have hie : i = r := by omega
      rw [hie] at HG
      clear hie
      go_wp2
      refine bodyPost_ret (v := .tuple #[.slice (some ⟨g, 0, none⟩) c cap, .int .i64 0]) (by simp [results, Try.results49, go_sem]) rfl ?_
      exact ⟨HB.out, .inl ⟨rfl, _, _, rfl, HG.out.mat.congr fun a b ha hb => by simp [trT, hb]⟩⟩
end Go.Proofs.Ytlkoiekdafaapaa

namespace Go.Proofs.Ytlkoiekdafaapaa
open Go.RowKit Go.Shelf

set_option maxRecDepth 100000 in
set_option maxHeartbeats 8000000 in
theorem refApply_m (a : GM) (p : Option Addr) (cp : Nat) (q : Option Addr) (n cq : Nat) (Z : Nat → ZI) (hfa : a.Fit) (hn : n ≤ 1000000) (hfZ : ∀ k, k < n → (Z k).mag.size ≤ 100000000) (hok : applyE a n Z = 0 → SmallQ a.r n 1 a.F (fun j _ => valZ (Z j))) (w : World) (ha : a.At w p) (hq : GRow w q n Z) :
    Calls Try.prog 50 #[.slice p a.r cp, .slice q n cq] w (RetRowE (applyE a n Z) a.r (fun i => dotN (fun j => a.F i j * valZ (Z j)) n) w) := by
  have HCa := Lib.hid (refCheck_m a p cp hfa w ha)
  by_cases hca : a.chk = 0
  case neg =>
    have hv : applyE a n Z = 1 := if_pos (by simp [hca])
    have e1 : (a.chk != 0) = true := by simpa using hca
    rw [hv]
    clear hv hfa ha hca hok hq hfZ
    generalize (fun i => dotN (fun j => a.F i j * valZ (Z j)) n) = D at *
    generalize a.chk = ca at *
    generalize a.r = r at *
    go_enter Try.func50, Try.ntmps50
    go_wp2_with fail
    refine HCa.out.mono ?_
    rintro e w2 ⟨rfl, hb2⟩
    dsimp only
    have Hb := Lib.hid hb2
    clear hb2 HCa
    go_wp2
    refine bodyPost_ret (v := .tuple #[.slice none 0 0, .int .i64 1]) (by simp [results, Try.results50, go_sem]) rfl ?_
    exact ⟨Hb.out, .inr ⟨by decide, rfl⟩⟩
  have hra := GM.chk_zero hca
  have HM0 := Lib.hid (GM.mat ha hca)
  have e1 : (a.chk != 0) = false := by simpa using hca
  obtain ⟨pb, po, q1, c1, hpe, hbl, a0⟩ := GM.head ha hra.1
  have r0 : (0 : Int) < (a.r : Int) := by omega
  have hr1 : a.r < 1000000 := by omega
  have hv : applyE a n Z = if anyN (fun k => !okZ (Z k)) n = true then 1 else if n ≠ a.L 0 then 11 else 0 := by
    unfold applyE
    rw [e1, Bool.false_or]
  have Hv := Lib.hid hv
  have Hok := Lib.hid hok
  have HZs := Lib.hid hfZ
  have HQ := Lib.hid hq
  clear hra hca hfa ha hv hok hq hfZ
  generalize applyE a n Z = v at *
  generalize a.L 0 = l at *
  generalize a.F = F at *
  generalize a.r = r at *
  generalize a.chk = ca at *
  obtain ⟨V, hV⟩ : ∃ V : Nat → Int, V = fun j => valZ (Z j) := ⟨_, rfl⟩
  rw [show (fun i => dotN (fun j => F i j * valZ (Z j)) n) = fun i => dotN (fun j => F i j * V j) n from by rw [hV]]
  have HV := Lib.hid hV
  clear hV
  subst hpe
  go_enter Try.func50, Try.ntmps50
  go_wp2_with fail
  refine HCa.out.mono ?_
  rintro e w2 ⟨rfl, hb2⟩
  dsimp only
  have Hb := Lib.hid hb2
  clear hb2 HCa
  have HH := Lib.hid (fun W (hW : Below w.heap.size w W) => cell_below hW a0)
  clear a0
  go_wp2_with fail
  go_loopw [6] (fun kv wr => ∃ k : Nat, k ≤ n ∧ kv = .int .i64 k ∧ Hid (Below w.heap.size w wr) ∧ Hid (∀ j, j < k → (!okZ (Z j)) = false)) (fun kv _ => n - (intOf kv).toNat)
  case atStart => exact ⟨0, by omega, by go_num, Hb, Lib.hid (fun j hj => by omega)⟩
  case round =>
    clear Hb
    obtain ⟨k, hk, rfl, Hb, HN⟩ := hrel
    by_cases hkl : k < n
    · have k2 : (k : Int) < (n : Int) := by omega
      rcases HQ.out with h | ⟨ab, ao, hpe, hab, hac⟩
      · omega
      have a3 : wr.cell? ⟨ab, ao + k * 2, none⟩ = some (.bool (Z k).neg) := cell_lo Hb.out hab (by simpa [zg] using hac k hkl 0 (by omega))
      have a4 : wr.cell? ⟨ab, ao + k * 2 + 1, none⟩ = some (.string (Z k).mag) := cell_lo Hb.out hab (by simpa [zg] using hac k hkl 1 (by omega))
      rw [hpe]
      have HC := Lib.hid (refCheck_any (Z k) (HZs.out k hkl))
      clear hac hpe
      go_wp2_with fail
      refine (HC.out _).mono ?_
      rintro e w2 ⟨rfl, hb2⟩
      dsimp only
      have Hb2 := Lib.hid (Hb.out.trans (hb2.mono Hb.out.size))
      clear hb2 a3 a4
      by_cases ho : Z k = canon (valZ (Z k))
      · have hz0 : chkZ (Z k) = 0 := if_pos ho
        have HM2 : Hid (∀ l, l < k + 1 → (!okZ (Z l)) = false) := Lib.hid (fun l hl => by
          by_cases e : l = k
          · subst e; simpa [okZ] using ho
          · exact HN.out l (by omega))
        rw [hz0]
        clear hz0 ho HN
        go_wp2
        go_roundw
        case rel => exact ⟨k + 1, by omega, by go_num, Hb2, HM2⟩
        case measure => simp [intOf]; omega
      · have hz0 : chkZ (Z k) = 1 := if_neg ho
        have Hv2 : Hid (v = 1) := Lib.hid (by
          have hA : anyN (fun k => !okZ (Z k)) n = true := anyN_true.2 ⟨k, hkl, by simpa [okZ] using ho⟩
          rw [Hv.out, if_pos hA])
        rw [hz0]
        clear hz0 ho HN Hv
        go_wp2
        refine bodyPost_ret (v := .tuple #[.slice none 0 0, .int .i64 1]) (by simp [results, Try.results50, go_sem]) rfl ?_
        exact ⟨Hb2.out, .inr ⟨by rw [Hv2.out]; decide, by rw [Hv2.out]⟩⟩
    · have k2 : ¬ (k : Int) < (n : Int) := by omega
      have hAn : anyN (fun k => !okZ (Z k)) n = false := anyN_false.2 fun l hl => HN.out l (by omega)
      have hv2 := Hv.out
      rw [hAn, if_neg (by decide)] at hv2
      have a4 := HH.out _ Hb.out
      by_cases hl : n = l
      case neg =>
        have e2 : ((n : Int) != (l : Int)) = true := by rw [bne_iff_ne]; omega
        rw [if_pos hl] at hv2
        have Hv2 := Lib.hid hv2
        clear hv2 hAn HN hl
        go_wp2
        refine bodyPost_ret (v := .tuple #[.slice none 0 0, .int .i64 11]) (by simp [results, Try.results50, go_sem]) rfl ?_
        exact ⟨Hb.out, .inr ⟨by rw [Hv2.out]; decide, by rw [Hv2.out]⟩⟩
      have e2 : ((n : Int) != (l : Int)) = false := by rw [hl, bne_self_eq_false]
      rw [if_neg (fun h => h hl)] at hv2
      have Hv2 := Lib.hid hv2
      have hV := HV.out
      have hR : RowF w q n V := HQ.out.congr fun k hk j _ => by
        rw [hV]
        show zg (Z k) j = zc (valZ (Z k)) j
        unfold zg zc
        have : Z k = canon (valZ (Z k)) := by simpa [okZ] using HN.out k (by omega)
        rw [← this]
      have Hs : Hid (SmallQ r n 1 F (fun j _ => V j)) := Lib.hid (by
        have := Hok.out hv2
        rw [hV]
        exact this)
      have HR := Lib.hid hR
      have HMF : Hid (MatF w (some ⟨pb, po, none⟩) r n F) := Lib.hid (by rw [hl]; exact HM0.out)
      have hmk := make_zs r (by omega) wr
      have Hst := Lib.hid (ApI.start w wr Hb.out r n 27 F V)
      have HA := Lib.hid (fun x y hx hy W => refAddC_any x y hx hy W)
      have HM := Lib.hid (fun x y hx hy hxy W => refMulC_any x y hx hy hxy W)
      clear hv2 hAn HN hl hR hV Hok Hv HQ HZs HM0
      generalize wr.alloc (.cells (madeCells #[.bool false, .string ⟨#[]⟩] (r * 2)) 27) = w4 at *
      generalize wr.heap.size = g at *
      go_wp2
      go_loopw [8] (fun v wr => ∃ i : Nat, i ≤ r ∧ v = .int .i64 i ∧ Hid (ApI w wr g r n i 0 F V)) (fun v _ => r - (intOf v).toNat)
      case atStart => exact ⟨0, by omega, by go_num, Hst⟩
      case round =>
        clear Hst hmk a4 Hb
        obtain ⟨i, hi, rfl, HP⟩ := hrel
        by_cases hlt : i < r
        · have i1 : (i : Int) < (r : Int) := by omega
          go_wp2
          go_loopw [9] (fun v wr => ∃ k : Nat, k ≤ n ∧ v = .int .i64 k ∧ Hid (ApI w wr g r n i k F V)) (fun v _ => n - (intOf v).toNat)
          case atStart => exact ⟨0, by omega, by go_num, HP⟩
          case round =>
            clear HP
            obtain ⟨j, hj, rfl, HP⟩ := hrel
            by_cases hjt : j < n
            · have k1 : (j : Int) < (n : Int) := by omega
              obtain ⟨vb, vo, hqe, hvb, hvc⟩ := HR.out.cells hjt
              obtain ⟨b1, b2⟩ := hvc j hjt
              rw [hqe]
              go_upto_region 17 with (fail)
              obtain ⟨W0, hW0⟩ : ∃ W, wr = W := ⟨_, rfl⟩
              rw [hW0] at HP ⊢
              clear hW0 hvc hqe
              obtain ⟨ab, ao, ac, a1, a2, a3⟩ := HMF.out.at hlt hjt
              obtain ⟨hsum, hmul⟩ := Hs.out i 0 hlt (by omega)
              dsimp only at hsum hmul
              have hsum1 := hsum j (by omega)
              obtain ⟨hm1, hm2⟩ := hmul j hjt
              have hdot : dotN (fun j => F i j * V j) (j + 1) = dotN (fun j => F i j * V j) j + F i j * V j := rfl
              have HX : Hid (∀ W : World, Below W0.heap.size W0 W → (W.cell? ⟨g, i * 2, none⟩ = some (.bool (canon (dotN (fun j => F i j * V j) j)).neg) ∧ W.cell? ⟨g, i * 2 + 1, none⟩ = some (.string (canon (dotN (fun j => F i j * V j) j)).mag)) ∧ W.frozen? ⟨g, i * 2, none⟩ = false ∧ W.frozen? ⟨g, i * 2 + 1, none⟩ = false) := Lib.hid (fun W h => by
                have h2 := (HP.out.call h).cur.2 i hlt
                simpa using h2)
              have HN : Hid (∀ W : World, Below W0.heap.size W0 W → ApI w ((W.setCell ⟨g, i * 2, none⟩ (.bool (canon (dotN (fun j => F i j * V j) (j + 1))).neg)).setCell ⟨g, i * 2 + 1, none⟩ (.string (canon (dotN (fun j => F i j * V j) (j + 1))).mag)) g r n i (j + 1) F V) := Lib.hid (fun W h => (HP.out.call h).put)
              have hbelow := HP.out.below
              obtain ⟨x, hx⟩ : ∃ x, F i j = x := ⟨_, rfl⟩
              obtain ⟨y, hy⟩ : ∃ y, V j = y := ⟨_, rfl⟩
              obtain ⟨s, hsv⟩ : ∃ s, dotN (fun j => F i j * V j) j = s := ⟨_, rfl⟩
              have Hnext : Hid (s + x * y = dotN (fun j => F i j * V j) (j + 1)) := Lib.hid (by rw [hdot, hsv, hx, hy])
              rw [hsv] at hsum1 HX
              rw [hx] at hm1 hm2 a2 a3
              rw [hy] at hm1 hm2 b1 b2
              rw [← Hnext.out] at HN
              obtain ⟨SS, hSe⟩ : ∃ SS : World → Prop, SS = fun W => W.cell? ⟨pb, po + i, none⟩ = some (.slice (some ⟨ab, ao, none⟩) n ac) ∧ W.cell? ⟨ab, ao + j * 2, none⟩ = some (.bool (canon x).neg) ∧ W.cell? ⟨ab, ao + j * 2 + 1, none⟩ = some (.string (canon x).mag) ∧ W.cell? ⟨vb, vo + j * 2, none⟩ = some (.bool (canon y).neg) ∧ W.cell? ⟨vb, vo + j * 2 + 1, none⟩ = some (.string (canon y).mag) := ⟨_, rfl⟩
              have HS0 : Hid (∀ W, Below w.heap.size w W → SS W) := Lib.hid (fun W hW => by
                rw [hSe]
                exact ⟨cell_below hW a1, cell_below hW a2, cell_below hW a3, cell_below hW b1, cell_below hW b2⟩)
              clear a1 a2 a3 b1 b2 hsum hmul hdot hx hy hsv hvb
              have HS : Hid (∀ W, Below W0.heap.size W0 W → SS W) := Lib.hid (fun W hW => HS0.out W (hbelow.trans (hW.mono hbelow.size)))
              have hd : Below W0.heap.size W0 W0.drew := (Below.refl W0.heap.size W0).drew
              refine wp_region_held_drew (S := SS) (by kernel_rfl) (HS.out _ hd) (fun hSS => ?_)
              refine wpAnyH_take (i := 0) (v := ?_) rfl (by kernel_rfl) (by kernel_rfl) (by kernel_rfl) (fun _ _ _ h => h) (Or.inl ⟨by rfl, ?_⟩) hSS ?_
              rotate_left 1
              next => intro w hSw; rw [hSe] at hSw; obtain ⟨s1, s2, s3, s4, s5⟩ := hSw; go_simp; try with_reducible rfl
              refine wpAnyH_take (i := 1) (v := ?_) rfl (by kernel_rfl) (by kernel_rfl) (by kernel_rfl) (fun _ _ _ h => h) (Or.inl ⟨by rfl, ?_⟩) hSS ?_
              rotate_left 1
              next => intro w hSw; rw [hSe] at hSw; obtain ⟨s1, s2, s3, s4, s5⟩ := hSw; go_simp; try with_reducible rfl
              refine wpAnyH_take (i := 2) (v := ?_) rfl (by kernel_rfl) (by kernel_rfl) (by kernel_rfl) (fun _ _ _ h => h) (Or.inl ⟨by rfl, ?_⟩) hSS ?_
              rotate_left 1
              next => intro w hSw; rw [hSe] at hSw; obtain ⟨s1, s2, s3, s4, s5⟩ := hSw; go_simp; try with_reducible rfl
              refine wpAnyH_take (i := 3) (v := ?_) rfl (by kernel_rfl) (by kernel_rfl) (by kernel_rfl) (fun _ _ _ h => h) (Or.inl ⟨by rfl, ?_⟩) hSS ?_
              rotate_left 1
              next => intro w hSw; rw [hSe] at hSw; obtain ⟨s1, s2, s3, s4, s5⟩ := hSw; go_simp; try with_reducible rfl
              refine wpAnyH_take (i := 4) (v := ?_) rfl (by kernel_rfl) (by kernel_rfl) (by kernel_rfl) (fun _ _ _ h => h) (Or.inl ⟨by rfl, ?_⟩) hSS ?_
              rotate_left 1
              next => intro w hSw; rw [hSe] at hSw; obtain ⟨s1, s2, s3, s4, s5⟩ := hSw; go_simp; try with_reducible rfl
              refine wpAnyH_take (i := 6) (v := ?_) rfl (by kernel_rfl) (by kernel_rfl) (by kernel_rfl) (fun _ _ _ h => h) (Or.inl ⟨by rfl, ?_⟩) hSS ?_
              rotate_left 1
              next => intro w hSw; rw [hSe] at hSw; obtain ⟨s1, s2, s3, s4, s5⟩ := hSw; go_simp; try with_reducible rfl
              refine wpAnyH_take (i := 7) (v := ?_) rfl (by kernel_rfl) (by kernel_rfl) (by kernel_rfl) (fun _ _ _ h => h) (Or.inl ⟨by rfl, ?_⟩) hSS ?_
              rotate_left 1
              next => intro w hSw; rw [hSe] at hSw; obtain ⟨s1, s2, s3, s4, s5⟩ := hSw; go_simp; try with_reducible rfl
              refine wpAnyH_take (i := 8) (v := ?_) rfl (by kernel_rfl) (by kernel_rfl) (by kernel_rfl) (fun _ _ _ h => h) (Or.inl ⟨by rfl, ?_⟩) hSS ?_
              rotate_left 1
              next => intro w hSw; rw [hSe] at hSw; obtain ⟨s1, s2, s3, s4, s5⟩ := hSw; go_simp; try with_reducible rfl
              refine wpAnyH_take (i := 9) (v := ?_) rfl (by kernel_rfl) (by kernel_rfl) (by kernel_rfl) (fun _ _ _ h => h) (Or.inl ⟨by rfl, ?_⟩) hSS ?_
              rotate_left 1
              next => intro w hSw; rw [hSe] at hSw; obtain ⟨s1, s2, s3, s4, s5⟩ := hSw; go_simp; try with_reducible rfl
              refine wpAnyH_take (i := 10) (v := ?_) rfl (by kernel_rfl) (by kernel_rfl) (by kernel_rfl) (fun _ _ _ h => h) (Or.inl ⟨by rfl, ?_⟩) hSS ?_
              rotate_left 1
              next => intro w hSw; rw [hSe] at hSw; obtain ⟨s1, s2, s3, s4, s5⟩ := hSw; go_simp; try with_reducible rfl
              refine wpAnyH_take (i := 11) (v := ?_) rfl (by kernel_rfl) (by kernel_rfl) (by kernel_rfl) (fun _ _ _ h => h) (Or.inl ⟨by rfl, ?_⟩) hSS ?_
              rotate_left 1
              next => intro w hSw; rw [hSe] at hSw; obtain ⟨s1, s2, s3, s4, s5⟩ := hSw; go_simp; try with_reducible rfl
              refine wpAnyH_take (i := 12) (v := ?_) rfl (by kernel_rfl) (by kernel_rfl) (by kernel_rfl) (fun _ _ _ h => h) (Or.inl ⟨by rfl, ?_⟩) hSS ?_
              rotate_left 1
              next => intro w hSw; rw [hSe] at hSw; obtain ⟨s1, s2, s3, s4, s5⟩ := hSw; go_simp; try with_reducible rfl
              refine wpAnyH_take (i := 13) (v := ?_) rfl (by kernel_rfl) (by kernel_rfl) (by kernel_rfl) (fun _ _ _ h => h) (Or.inl ⟨by rfl, ?_⟩) hSS ?_
              rotate_left 1
              next => intro w hSw; rw [hSe] at hSw; obtain ⟨s1, s2, s3, s4, s5⟩ := hSw; go_simp; try with_reducible rfl
              refine wpAnyH_take (i := 14) (v := ?_) rfl (by kernel_rfl) (by kernel_rfl) (by kernel_rfl) (fun _ _ _ h => h) (Or.inl ⟨by rfl, ?_⟩) hSS ?_
              rotate_left 1
              next => intro w hSw; rw [hSe] at hSw; obtain ⟨s1, s2, s3, s4, s5⟩ := hSw; go_simp; try with_reducible rfl
              refine wpAnyH_take (i := 15) (v := ?_) rfl (by kernel_rfl) (by kernel_rfl) (by kernel_rfl) (fun _ _ _ h => h) (Or.inl ⟨by rfl, ?_⟩) hSS ?_
              rotate_left 1
              next => intro w hSw; rw [hSe] at hSw; obtain ⟨s1, s2, s3, s4, s5⟩ := hSw; go_simp; try with_reducible rfl
              refine wpAnyH_take (i := 16) (v := ?_) rfl (by kernel_rfl) (by kernel_rfl) (by kernel_rfl) (fun _ _ _ h => h) (Or.inl ⟨by rfl, ?_⟩) hSS ?_
              rotate_left 1
              next => intro w hSw; rw [hSe] at hSw; obtain ⟨s1, s2, s3, s4, s5⟩ := hSw; go_simp; try with_reducible rfl
              try simp only [Act.put, List.getElem_toArray, List.getElem_cons_zero, List.getElem_cons_succ, List.setIfInBounds_toArray, List.set_cons_zero, List.set_cons_succ]
              refine wpAnyH_ready (rs := [5, 17]) (by kernel_rfl) (by simp) ?_
              refine AllReadyH.cons rfl (fun K hK => ?_) (AllReadyH.cons rfl (fun K hK => ?_) AllReadyH.nil)
              · obtain ⟨⟨z1, z2⟩, z3, z4⟩ := HX.out _ hd
                go_simp
                refine hK.out _ _ (HS.out _ hd) (fun _ => ?_)
                clear hK K z1 z2 z3 z4
                try simp only [Act.put, List.getElem_toArray, List.getElem_cons_zero, List.getElem_cons_succ, List.setIfInBounds_toArray, List.set_cons_zero, List.set_cons_succ]
                refine wpAnyH_ready (rs := [17]) (by kernel_rfl) (by simp) ?_
                refine AllReadyH.cons rfl (fun K hK => ?_) AllReadyH.nil
                go_simp
                refine (HM.out x y (by omega) (by omega) (by omega) _).mono ?_
                rintro e W1 ⟨rfl, hbc⟩
                have hW1 : Below W0.heap.size W0 W1 := hd.trans (hbc.mono hd.size)
                dsimp only
                refine hK.out _ _ (HS.out _ hW1) (fun _ => ?_)
                clear hK K hbc
                try simp only [Act.put, List.getElem_toArray, List.getElem_cons_zero, List.getElem_cons_succ, List.setIfInBounds_toArray, List.set_cons_zero, List.set_cons_succ]
                refine wpAnyH_ready (rs := [18]) (by kernel_rfl) (by simp) ?_
                refine AllReadyH.cons rfl (fun K hK => ?_) AllReadyH.nil
                go_simp
                refine (HA.out s (x * y) hsum1 hm2 _).mono ?_
                rintro e W2 ⟨rfl, hbc⟩
                have hW2 : Below W0.heap.size W0 W2 := hW1.trans (hbc.mono hW1.size)
                dsimp only
                refine hK.out _ _ (HS.out _ hW2) (fun _ => ?_)
                clear hK K hbc
                refine wpAnyH_take (i := 19) (v := ?_) rfl (by kernel_rfl) (by kernel_rfl) (by kernel_rfl) (fun _ _ _ h => h) (Or.inl ⟨by rfl, ?_⟩) (HS.out _ hW2) ?_
                rotate_left 1
                next => intro w hSw; rw [hSe] at hSw; obtain ⟨s1, s2, s3, s4, s5⟩ := hSw; go_simp; try with_reducible rfl
                try simp only [Act.put, List.getElem_toArray, List.getElem_cons_zero, List.getElem_cons_succ, List.setIfInBounds_toArray, List.set_cons_zero, List.set_cons_succ]
                obtain ⟨⟨z1, z2⟩, z3, z4⟩ := HX.out _ hW2
                have hfin := HN.out _ hW2
                try simp only [Act.put, List.getElem_toArray, List.getElem_cons_zero, List.getElem_cons_succ, List.setIfInBounds_toArray, List.set_cons_zero, List.set_cons_succ]
                refine wpAnyH_ready (rs := [20]) (by kernel_rfl) (by simp) ?_
                refine AllReadyH.cons rfl (fun K hK => ?_) AllReadyH.nil
                go_simp
                refine hK.out _ _ (HS0.out _ hfin.below) (fun _ => ?_)
                clear hK K
                refine wpAnyH_done (by kernel_rfl) ?_ _
                have Hfin := Lib.hid hfin
                clear hfin z1 z2 z3 z4 hW1 hW2 HS hd hSe hm1 hm2 hsum1 Hnext HS0 hSS HN HX hbelow HP
                go_wp2
                go_roundw
                case rel => exact ⟨j + 1, by omega, by go_num, Hfin⟩
                case measure => simp [intOf]; omega
              · go_simp
                refine (HM.out x y (by omega) (by omega) (by omega) _).mono ?_
                rintro e W1 ⟨rfl, hbc⟩
                have hW1 : Below W0.heap.size W0 W1 := hd.trans (hbc.mono hd.size)
                dsimp only
                refine hK.out _ _ (HS.out _ hW1) (fun _ => ?_)
                clear hK K hbc
                try simp only [Act.put, List.getElem_toArray, List.getElem_cons_zero, List.getElem_cons_succ, List.setIfInBounds_toArray, List.set_cons_zero, List.set_cons_succ]
                refine wpAnyH_ready (rs := [5]) (by kernel_rfl) (by simp) ?_
                refine AllReadyH.cons rfl (fun K hK => ?_) AllReadyH.nil
                obtain ⟨⟨z1, z2⟩, z3, z4⟩ := HX.out _ hW1
                go_simp
                refine hK.out _ _ (HS.out _ hW1) (fun _ => ?_)
                clear hK K z1 z2 z3 z4
                try simp only [Act.put, List.getElem_toArray, List.getElem_cons_zero, List.getElem_cons_succ, List.setIfInBounds_toArray, List.set_cons_zero, List.set_cons_succ]
                refine wpAnyH_ready (rs := [18]) (by kernel_rfl) (by simp) ?_
                refine AllReadyH.cons rfl (fun K hK => ?_) AllReadyH.nil
                go_simp
                refine (HA.out s (x * y) hsum1 hm2 _).mono ?_
                rintro e W2 ⟨rfl, hbc⟩
                have hW2 : Below W0.heap.size W0 W2 := hW1.trans (hbc.mono hW1.size)
                dsimp only
                refine hK.out _ _ (HS.out _ hW2) (fun _ => ?_)
                clear hK K hbc
                refine wpAnyH_take (i := 19) (v := ?_) rfl (by kernel_rfl) (by kernel_rfl) (by kernel_rfl) (fun _ _ _ h => h) (Or.inl ⟨by rfl, ?_⟩) (HS.out _ hW2) ?_
                rotate_left 1
                next => intro w hSw; rw [hSe] at hSw; obtain ⟨s1, s2, s3, s4, s5⟩ := hSw; go_simp; try with_reducible rfl
                try simp only [Act.put, List.getElem_toArray, List.getElem_cons_zero, List.getElem_cons_succ, List.setIfInBounds_toArray, List.set_cons_zero, List.set_cons_succ]
                obtain ⟨⟨z1, z2⟩, z3, z4⟩ := HX.out _ hW2
                have hfin := HN.out _ hW2
                try simp only [Act.put, List.getElem_toArray, List.getElem_cons_zero, List.getElem_cons_succ, List.setIfInBounds_toArray, List.set_cons_zero, List.set_cons_succ]
                refine wpAnyH_ready (rs := [20]) (by kernel_rfl) (by simp) ?_
                refine AllReadyH.cons rfl (fun K hK => ?_) AllReadyH.nil
                go_simp
                refine hK.out _ _ (HS0.out _ hfin.below) (fun _ => ?_)
                clear hK K
                refine wpAnyH_done (by kernel_rfl) ?_ _
                have Hfin := Lib.hid hfin
                clear hfin z1 z2 z3 z4 hW1 hW2 HS hd hSe hm1 hm2 hsum1 Hnext HS0 hSS HN HX hbelow HP
                go_wp2
                go_roundw
                case rel => exact ⟨j + 1, by omega, by go_num, Hfin⟩
                case measure => simp [intOf]; omega
            · have k1 : ¬ (j : Int) < (n : Int) := by omega
              have HA2 : Hid (ApI w wr g r n (i + 1) 0 F V) := Lib.hid (by
                have h := HP.out
                rw [show j = n from by omega] at h
                exact h.leave)
              clear HP
              go_wp2
              go_roundw
              case rel => exact ⟨i + 1, by omega, by go_num, HA2⟩
              case measure => simp [intOf]; omega
        · have i1 : ¬ (i : Int) < (r : Int) := by omega
          have hir : i = r := by omega
          go_wp2
          refine bodyPost_ret (v := .tuple #[.slice (some ⟨g, 0, none⟩) r r, .int .i64 0]) (by simp [results, Try.results50, go_sem]) rfl ?_
          refine ⟨HP.out.below, .inl ⟨Hv2.out, _, _, rfl, (HP.out.cur.congr fun m hm => ?_).row⟩⟩
          rw [if_pos (by omega)]
end Go.Proofs.Ytlkoiekdafaapaa
