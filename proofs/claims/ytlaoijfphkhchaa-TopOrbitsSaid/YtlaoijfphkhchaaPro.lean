/- The walk of matrix.product. -/
import Derived.Test.YtlaoijfphkhchaaPrd
namespace Go.Proofs.Ytlaoijfphkhchaa
open Go.RowKit Go.Shelf

/-- The product of matrices. -/
def mulF (n : Nat) (F G : Nat → Nat → Int) (i k : Nat) : Int := dotN (fun j => F i j * G j k) n
/-- All sums that a product forms are of moderate size. -/
def SmallP (r n c : Nat) (F G : Nat → Nat → Int) : Prop := ∀ i k, i < r → k < c → (∀ j, j ≤ n → (canon (dotN (fun j => F i j * G j k) j)).mag.size ≤ 100000000) ∧ ∀ j, j < n → (canon (F i j * G j k)).mag.size ≤ 100000000

set_option maxRecDepth 100000 in
set_option maxHeartbeats 4000000 in
theorem product_any (r n c : Nat) (p q : Option Addr) (cp cq : Nat) (F G : Nat → Nat → Int) (h1 : 0 < n) (hr : r ≤ 1000000) (hn : n ≤ 1000000) (hc : c ≤ 1000000) (w : World) (hF : MatF w p r n F) (hG : MatF w q n c G) (hsF : Small r n F) (hsG : Small n c G) (hsP : SmallP r n c F G) :
    Calls Try.prog 104 #[.slice p r cp, .slice q n cq] w (RetOwn r c (mulF n F G) w) := by
  have hb0 : Below w.heap.size w ((w.alloc (.cells #[.slice p r cp] 63)).alloc (.cells #[.slice q n cq] 63)) := ((Below.refl _ w).alloc (Nat.le_refl _) _).alloc (by simp) _
  have hx0 : Boxed ((w.alloc (.cells #[.slice p r cp] 63)).alloc (.cells #[.slice q n cq] 63)) w.heap.size 63 (.slice p r cp) := (Boxed.new w 63 (.slice p r cp)).alloc _
  have hx1 : Boxed ((w.alloc (.cells #[.slice p r cp] 63)).alloc (.cells #[.slice q n cq] 63)) (w.heap.size + 1) 63 (.slice q n cq) := by
    have := Boxed.new (w.alloc (.cells #[.slice p r cp] 63)) 63 (.slice q n cq)
    simpa using this
  have HT := Lib.hid (fun W (hW : Below ((w.alloc (.cells #[.slice p r cp] 63)).alloc (.cells #[.slice q n cq] 63)).heap.size ((w.alloc (.cells #[.slice p r cp] 63)).alloc (.cells #[.slice q n cq] 63)) W) => table_any r c hr hc 122 #[.pointer (some ⟨w.heap.size + 1, 0, none⟩), .pointer (some ⟨w.heap.size, 0, none⟩)] (mulF n F G) W (enters_of Try.func122 (by kernel_rfl) rfl) (fun i k V hi hk hV => by
    have h2 := hb0.size
    have h3 := hW.size
    have hall : Below w.heap.size w V := (hb0.trans (hW.mono h2)).trans (hV.mono (Nat.le_trans h2 h3))
    have hlow : Below ((w.alloc (.cells #[.slice p r cp] 63)).alloc (.cells #[.slice q n cq] 63)).heap.size ((w.alloc (.cells #[.slice p r cp] 63)).alloc (.cells #[.slice q n cq] 63)) V := hW.trans (hV.mono h3)
    exact product1_any r n c i k w.heap.size (w.heap.size + 1) p q cp cq F G hi hk hn V (Boxed.cell ((hlow.block _ hx0.lt).trans hx0)) (Boxed.cell ((hlow.block _ hx1.lt).trans hx1)) (hF.below (Nat.le_refl _) hall) (hG.below (Nat.le_refl _) hall) hsF hsG (hsP i k hi hk).1 (hsP i k hi hk).2))
  obtain ⟨fb, fo, hpe, hfb, H, hH, _⟩ := hG.cells h1
  have a2 := hH 0 h1
  have r0 : (0 : Int) < (n : Int) := by omega
  have hS : ∀ W, Below ((w.alloc (.cells #[.slice p r cp] 63)).alloc (.cells #[.slice q n cq] 63)).heap.size ((w.alloc (.cells #[.slice p r cp] 63)).alloc (.cells #[.slice q n cq] 63)) W → W.cell? ⟨w.heap.size, 0, none⟩ = some (.slice p r cp) ∧ W.cell? ⟨w.heap.size + 1, 0, none⟩ = some (.slice q n cq) ∧ W.cell? ⟨fb, fo, none⟩ = some (.slice (H 0).1 c (H 0).2) := fun W hW =>
    ⟨Boxed.cell ((hW.block _ hx0.lt).trans hx0), Boxed.cell ((hW.block _ hx1.lt).trans hx1), cell_below (hb0.trans (hW.mono hb0.size)) (by simpa using a2)⟩
  have HS := Lib.hid hS
  have Hb0 := Lib.hid hb0
  subst hpe
  clear hS hH a2 hF hG hsF hsG hb0 hx0 hx1 hsP
  go_enter Try.func104, Try.ntmps104
  go_wp2
  have hsz : ((w.alloc (.cells #[.slice p r cp] 63)).alloc (.cells #[.slice (some ⟨fb, fo, none⟩) n cq] 63)).heap.size = w.heap.size + 1 + 1 := by simp
  generalize ((w.alloc (.cells #[.slice p r cp] 63)).alloc (.cells #[.slice (some ⟨fb, fo, none⟩) n cq] 63)) = w1 at *
  have hd := (Below.refl w1.heap.size w1).drew
  refine wp_region_held_drew (S := fun W => W.cell? ⟨w.heap.size, 0, none⟩ = some (.slice p r cp) ∧ W.cell? ⟨w.heap.size + 1, 0, none⟩ = some (.slice (some ⟨fb, fo, none⟩) n cq) ∧ W.cell? ⟨fb, fo, none⟩ = some (.slice (H 0).1 c (H 0).2)) (by kernel_rfl) (HS.out _ hd) (fun hSS => ?_)
  refine wpAnyH_take (i := 0) (v := ?_) rfl (by kernel_rfl) (by kernel_rfl) (by kernel_rfl) (fun _ _ _ h => h) (Or.inl ⟨by rfl, ?_⟩) hSS ?_
  rotate_left 1
  next => intro w hSw; obtain ⟨s0, s1, s2⟩ := hSw; go_simp; try with_reducible rfl
  refine wpAnyH_take (i := 1) (v := ?_) rfl (by kernel_rfl) (by kernel_rfl) (by kernel_rfl) (fun _ _ _ h => h) (Or.inl ⟨by rfl, ?_⟩) hSS ?_
  rotate_left 1
  next => intro w hSw; obtain ⟨s0, s1, s2⟩ := hSw; go_simp; try with_reducible rfl
  refine wpAnyH_take (i := 2) (v := ?_) rfl (by kernel_rfl) (by kernel_rfl) (by kernel_rfl) (fun _ _ _ h => h) (Or.inl ⟨by rfl, ?_⟩) hSS ?_
  rotate_left 1
  next => intro w hSw; obtain ⟨s0, s1, s2⟩ := hSw; go_simp; try with_reducible rfl
  refine wpAnyH_take (i := 3) (v := ?_) rfl (by kernel_rfl) (by kernel_rfl) (by kernel_rfl) (fun _ _ _ h => h) (Or.inl ⟨by rfl, ?_⟩) hSS ?_
  rotate_left 1
  next => intro w hSw; obtain ⟨s0, s1, s2⟩ := hSw; go_simp; try with_reducible rfl
  refine wpAnyH_take (i := 4) (v := ?_) rfl (by kernel_rfl) (by kernel_rfl) (by kernel_rfl) (fun _ _ _ h => h) (Or.inl ⟨by rfl, ?_⟩) hSS ?_
  rotate_left 1
  next => intro w hSw; obtain ⟨s0, s1, s2⟩ := hSw; go_simp; try with_reducible rfl
  refine wpAnyH_take (i := 5) (v := ?_) rfl (by kernel_rfl) (by kernel_rfl) (by kernel_rfl) (fun _ _ _ h => h) (Or.inl ⟨by rfl, ?_⟩) hSS ?_
  rotate_left 1
  next => intro w hSw; obtain ⟨s0, s1, s2⟩ := hSw; go_simp; try with_reducible rfl
  refine wpAnyH_take (i := 6) (v := ?_) rfl (by kernel_rfl) (by kernel_rfl) (by kernel_rfl) (fun _ _ _ h => h) (Or.inl ⟨by rfl, ?_⟩) hSS ?_
  rotate_left 1
  next => intro w hSw; obtain ⟨s0, s1, s2⟩ := hSw; go_simp; try with_reducible rfl
  refine wpAnyH_ready (rs := [7]) (by kernel_rfl) (by simp) ?_
  refine AllReadyH.cons rfl (fun K hK => ?_) AllReadyH.nil
  go_simp
  refine (HT.out _ hd).mono ?_
  rintro e5 w5 h
  obtain ⟨g, rfl, hown, hb⟩ := h
  have hb5 : Below w1.heap.size w1 w5 := hd.trans (hb.mono (by exact Nat.le_refl _))
  have hS5 := HS.out _ hb5
  have HR : Hid (RetOwn r c (mulF n F G) w (.returned (.slice (some ⟨g, 0, none⟩) r r)) w5) := Lib.hid ⟨_, rfl, hown.low (by have := hd.size; have := Hb0.out.size; omega), Hb0.out.trans (hb5.mono (by omega))⟩
  clear hb hown
  dsimp only
  refine hK.out _ _ hS5 (fun _ => ?_)
  clear hK K
  refine wpAnyH_take (i := 8) (v := ?_) rfl (by kernel_rfl) (by kernel_rfl) (by kernel_rfl) (fun _ _ _ h => h) (Or.inl ⟨by rfl, ?_⟩) hS5 ?_
  rotate_left 1
  next => intro w hSw; obtain ⟨s0, s1, s2⟩ := hSw; go_simp; try with_reducible rfl
  refine wpAnyH_done (by kernel_rfl) ?_ _
  go_wp2
  go_ret
  exact HR.out
end Go.Proofs.Ytlaoijfphkhchaa
