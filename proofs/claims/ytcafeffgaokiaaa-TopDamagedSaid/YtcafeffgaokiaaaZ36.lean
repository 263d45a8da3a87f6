/- encoder.writer.put. -/
import Derived.Test.YtcafeffgaokiaaaZ35
import Derived.Test.YtcafeffgaokiaaaZ26
namespace Go.Proofs.Ytcafeffgaokiaaa
open Go.RowKit
def cellObj (t : Int) (d : ByteArray) : Obj := .cells #[.int .i64 t, .string d] 84 (0, 0)
set_option maxHeartbeats 4000000 in
set_option maxRecDepth 100000 in
theorem put_any (B b : Nat) (L k i : Int) (m : EM) (p : Option Addr) (c : Nat) (I Bk t x : Nat) (l : List UInt8) (w : World) (h : IsWr B b L k i (.slice p m.r c) (t : Int) l w) (hA : m.At w p) (hok : m.Ok I Bk) (ht : t < m.r) (hx : x < I) (hBk : 1 ≤ Bk ∧ Bk ≤ 16) (hI : I ≤ 256) (hr : m.r ≤ 64) (hl : l.length ≤ 100000) (hBw : B ≤ w.heap.size) :
    Calls Try.prog 34 #[.pointer (some ⟨b, 0, none⟩), .int .i64 (x : Int)] w fun e w' => e = .returned (.tuple #[]) ∧ IsWr B b L k i (.slice p m.r c) ((m.T t x).toNat : Int) (l ++ (m.D t x).data.toList) w' ∧ Below B w w' := by
  obtain ⟨x3, x4, _⟩ := h.cells
  obtain ⟨eb, eo, q9, c9, rfl, heb, hrow, hcells⟩ := hA.row ht
  have hLt : m.L t = I := hok.len t ht
  obtain ⟨fb, fo, rfl, hfb, d0, d1⟩ := EM.cells hcells (k := x) (by rw [hLt]; exact hx)
  have hdz := hok.wd t x ht hx
  have ht0 := hok.to0 t x ht hx
  obtain ⟨u, hu⟩ : ∃ u : Nat, (m.T t x).toNat = u := ⟨_, rfl⟩
  have hu2 : m.T t x = (u : Int) := by omega
  obtain ⟨y, hy⟩ : ∃ y, m.D t x = y := ⟨_, rfl⟩
  rw [hu2] at d0
  rw [hy] at d1 hdz
  rw [hLt] at hrow
  rw [hu, hy]
  have hblt := h.lt
  have hbB := h.base
  have HW := Lib.hid h
  have t0 : (0 : Int) ≤ (t : Int) := by omega
  have t1 : (t : Int) < (m.r : Int) := by omega
  have y0 : (0 : Int) ≤ (x : Int) := by omega
  have y1 : (x : Int) < (I : Int) := by omega
  have Hdz := Lib.hid hdz
  clear hcells hu hu2 hy ht0 hdz h hA
  go_enter Try.func34, Try.ntmps34
  go_upto_region 0 with (fail)
  obtain ⟨SS, hSe⟩ : ∃ SS : World → Prop, SS = fun W => W.cell? ⟨b, 3, none⟩ = some (.slice (some ⟨eb, eo, none⟩) m.r c) ∧ W.cell? ⟨b, 4, none⟩ = some (.int .i64 (t : Int)) ∧ W.cell? ⟨eb, eo + t, none⟩ = some (.slice (some ⟨fb, fo, none⟩) I c9) ∧ W.cell? ⟨fb, fo + x * 2, none⟩ = some (.int .i64 (u : Int)) ∧ W.cell? ⟨fb, fo + x * 2 + 1, none⟩ = some (.string y) := ⟨_, rfl⟩
  have HS : Hid (∀ W, Below w.heap.size w W → SS W) := Lib.hid (fun W hW => by
    rw [hSe]
    exact ⟨(hW.cell (p := ⟨b, 3, none⟩) hblt).trans x3, (hW.cell (p := ⟨b, 4, none⟩) hblt).trans x4, (hW.cell (p := ⟨eb, _, none⟩) heb).trans hrow, (hW.cell (p := ⟨fb, _, none⟩) hfb).trans d0, (hW.cell (p := ⟨fb, _, none⟩) hfb).trans d1⟩)
  have hd : Below w.heap.size w w.drew := (Below.refl _ _).drew
  clear x3 x4 hrow d0 d1
  refine wp_region_held_drew (S := SS) (by kernel_rfl) (HS.out _ hd) (fun hSS => ?_)
  refine wpAnyH_take (i := 0) (v := ?_) rfl (by kernel_rfl) (by kernel_rfl) (by kernel_rfl) (fun _ _ _ h => h) (Or.inl ⟨by rfl, ?_⟩) (HS.out _ hd) ?_
  rotate_left 1
  next => intro w hSw; rw [hSe] at hSw; obtain ⟨s1, s2, s3, s4, s5⟩ := hSw; go_simp; try with_reducible rfl
  try simp only [Act.put, List.getElem_toArray, List.getElem_cons_zero, List.getElem_cons_succ, List.setIfInBounds_toArray, List.set_cons_zero, List.set_cons_succ]
  refine wpAnyH_take (i := 1) (v := ?_) rfl (by kernel_rfl) (by kernel_rfl) (by kernel_rfl) (fun _ _ _ h => h) (Or.inl ⟨by rfl, ?_⟩) (HS.out _ hd) ?_
  rotate_left 1
  next => intro w hSw; rw [hSe] at hSw; obtain ⟨s1, s2, s3, s4, s5⟩ := hSw; go_simp; try with_reducible rfl
  try simp only [Act.put, List.getElem_toArray, List.getElem_cons_zero, List.getElem_cons_succ, List.setIfInBounds_toArray, List.set_cons_zero, List.set_cons_succ]
  refine wpAnyH_take (i := 2) (v := ?_) rfl (by kernel_rfl) (by kernel_rfl) (by kernel_rfl) (fun _ _ _ h => h) (Or.inl ⟨by rfl, ?_⟩) (HS.out _ hd) ?_
  rotate_left 1
  next => intro w hSw; rw [hSe] at hSw; obtain ⟨s1, s2, s3, s4, s5⟩ := hSw; go_simp; try with_reducible rfl
  try simp only [Act.put, List.getElem_toArray, List.getElem_cons_zero, List.getElem_cons_succ, List.setIfInBounds_toArray, List.set_cons_zero, List.set_cons_succ]
  refine wpAnyH_take (i := 3) (v := ?_) rfl (by kernel_rfl) (by kernel_rfl) (by kernel_rfl) (fun _ _ _ h => h) (Or.inl ⟨by rfl, ?_⟩) (HS.out _ hd) ?_
  rotate_left 1
  next => intro w hSw; rw [hSe] at hSw; obtain ⟨s1, s2, s3, s4, s5⟩ := hSw; go_simp; try with_reducible rfl
  try simp only [Act.put, List.getElem_toArray, List.getElem_cons_zero, List.getElem_cons_succ, List.setIfInBounds_toArray, List.set_cons_zero, List.set_cons_succ]
  refine wpAnyH_take (i := 4) (v := ?_) rfl (by kernel_rfl) (by kernel_rfl) (by kernel_rfl) (fun _ _ _ h => h) (Or.inl ⟨by rfl, ?_⟩) (HS.out _ hd) ?_
  rotate_left 1
  next => intro w hSw; rw [hSe] at hSw; obtain ⟨s1, s2, s3, s4, s5⟩ := hSw; go_simp; try with_reducible rfl
  try simp only [Act.put, List.getElem_toArray, List.getElem_cons_zero, List.getElem_cons_succ, List.setIfInBounds_toArray, List.set_cons_zero, List.set_cons_succ]
  refine wpAnyH_take (i := 5) (v := ?_) rfl (by kernel_rfl) (by kernel_rfl) (by kernel_rfl) (fun _ _ _ h => h) (Or.inl ⟨by rfl, ?_⟩) (HS.out _ hd) ?_
  rotate_left 1
  next => intro w hSw; rw [hSe] at hSw; obtain ⟨s1, s2, s3, s4, s5⟩ := hSw; go_simp; try with_reducible rfl
  try simp only [Act.put, List.getElem_toArray, List.getElem_cons_zero, List.getElem_cons_succ, List.setIfInBounds_toArray, List.set_cons_zero, List.set_cons_succ]
  refine wpAnyH_take (i := 6) (v := ?_) rfl (by kernel_rfl) (by kernel_rfl) (by kernel_rfl) (fun _ _ _ h => h) (Or.inl ⟨by rfl, ?_⟩) (HS.out _ hd) ?_
  rotate_left 1
  next => intro w hSw; rw [hSe] at hSw; obtain ⟨s1, s2, s3, s4, s5⟩ := hSw; go_simp; try with_reducible rfl
  try simp only [Act.put, List.getElem_toArray, List.getElem_cons_zero, List.getElem_cons_succ, List.setIfInBounds_toArray, List.set_cons_zero, List.set_cons_succ]
  refine wpAnyH_take (i := 7) (v := ?_) rfl (by kernel_rfl) (by kernel_rfl) (by kernel_rfl) (fun _ _ _ h => h) (Or.inl ⟨by rfl, ?_⟩) (HS.out _ hd) ?_
  rotate_left 1
  next => intro w hSw; rw [hSe] at hSw; obtain ⟨s1, s2, s3, s4, s5⟩ := hSw; go_simp; try with_reducible rfl
  try simp only [Act.put, List.getElem_toArray, List.getElem_cons_zero, List.getElem_cons_succ, List.setIfInBounds_toArray, List.set_cons_zero, List.set_cons_succ]
  refine wpAnyH_take (i := 8) (v := ?_) rfl (by kernel_rfl) (by kernel_rfl) (by kernel_rfl) (fun _ _ _ h => h) (Or.inl ⟨by rfl, ?_⟩) (HS.out _ hd) ?_
  rotate_left 1
  next => intro w hSw; rw [hSe] at hSw; obtain ⟨s1, s2, s3, s4, s5⟩ := hSw; go_simp; try with_reducible rfl
  try simp only [Act.put, List.getElem_toArray, List.getElem_cons_zero, List.getElem_cons_succ, List.setIfInBounds_toArray, List.set_cons_zero, List.set_cons_succ]
  refine wpAnyH_take (i := 9) (v := ?_) rfl (by kernel_rfl) (by kernel_rfl) (by kernel_rfl) (fun _ _ _ h => h) (Or.inl ⟨by rfl, ?_⟩) (HS.out _ hd) ?_
  rotate_left 1
  next => intro w hSw; rw [hSe] at hSw; obtain ⟨s1, s2, s3, s4, s5⟩ := hSw; go_simp; try with_reducible rfl
  try simp only [Act.put, List.getElem_toArray, List.getElem_cons_zero, List.getElem_cons_succ, List.setIfInBounds_toArray, List.set_cons_zero, List.set_cons_succ]
  refine wpAnyH_take (i := 10) (v := ?_) rfl (by kernel_rfl) (by kernel_rfl) (by kernel_rfl) (fun _ _ _ h => h) (Or.inl ⟨by rfl, ?_⟩) (HS.out _ hd) ?_
  rotate_left 1
  next => intro w hSw; rw [hSe] at hSw; obtain ⟨s1, s2, s3, s4, s5⟩ := hSw; go_simp; try with_reducible rfl
  try simp only [Act.put, List.getElem_toArray, List.getElem_cons_zero, List.getElem_cons_succ, List.setIfInBounds_toArray, List.set_cons_zero, List.set_cons_succ]
  refine wpAnyH_take (i := 11) (v := ?_) rfl (by kernel_rfl) (by kernel_rfl) (by kernel_rfl) (fun _ _ _ h => h) (Or.inl ⟨by rfl, ?_⟩) (HS.out _ hd) ?_
  rotate_left 1
  next => intro w hSw; rw [hSe] at hSw; obtain ⟨s1, s2, s3, s4, s5⟩ := hSw; go_simp; try with_reducible rfl
  try simp only [Act.put, List.getElem_toArray, List.getElem_cons_zero, List.getElem_cons_succ, List.setIfInBounds_toArray, List.set_cons_zero, List.set_cons_succ]
  refine wpAnyH_take (i := 12) (v := ?_) rfl (by kernel_rfl) (by kernel_rfl) (by kernel_rfl) (fun _ _ _ h => h) (Or.inl ⟨by rfl, ?_⟩) (HS.out _ hd) ?_
  rotate_left 1
  next => intro w hSw; rw [hSe] at hSw; obtain ⟨s1, s2, s3, s4, s5⟩ := hSw; go_simp; try with_reducible rfl
  try simp only [Act.put, List.getElem_toArray, List.getElem_cons_zero, List.getElem_cons_succ, List.setIfInBounds_toArray, List.set_cons_zero, List.set_cons_succ]
  refine wpAnyH_take (i := 13) (v := ?_) rfl (by kernel_rfl) (by kernel_rfl) (by kernel_rfl) (fun _ _ _ h => h) (Or.inl ⟨by rfl, ?_⟩) (HS.out _ hd) ?_
  rotate_left 1
  next => intro w hSw; rw [hSe] at hSw; obtain ⟨s1, s2, s3, s4, s5⟩ := hSw; go_simp; try with_reducible rfl
  try simp only [Act.put, List.getElem_toArray, List.getElem_cons_zero, List.getElem_cons_succ, List.setIfInBounds_toArray, List.set_cons_zero, List.set_cons_succ]
  try simp only [Act.put, List.getElem_toArray, List.getElem_cons_zero, List.getElem_cons_succ, List.setIfInBounds_toArray, List.set_cons_zero, List.set_cons_succ]
  refine wpAnyH_ready (rs := [14]) (by kernel_rfl) (by simp) ?_
  refine AllReadyH.cons rfl (fun K hK => ?_) AllReadyH.nil
  go_simp
  have hb1 := hd.alloc hd.size (.cells #[.int .i64 0, .string ⟨#[]⟩] 84)
  refine hK.out _ _ (HS.out _ hb1) (fun _ => ?_)
  clear hK K
  try simp only [Act.put, List.getElem_toArray, List.getElem_cons_zero, List.getElem_cons_succ, List.setIfInBounds_toArray, List.set_cons_zero, List.set_cons_succ]
  refine wpAnyH_ready (rs := [15]) (by kernel_rfl) (by simp) ?_
  refine AllReadyH.cons rfl (fun K hK => ?_) AllReadyH.nil
  go_simp
  have hb9 := ((Below.refl w.heap.size w).alloc (Nat.le_refl _) (cellObj (u : Int) y)).drew
  refine hK.out _ _ (HS.out _ hb9) (fun _ => ?_)
  clear hK K
  refine wpAnyH_done (by kernel_rfl) ?_ _
  have hX : (w.alloc (cellObj (u : Int) y)).drew.heap[w.heap.size]? = some (cellObj (u : Int) y) := World.alloc_heap_new w _
  have HX := Lib.hid hX
  have HW2 := Lib.hid ((HW.out.alloc (cellObj (u : Int) y)).drew)
  have Hb2 := Lib.hid hb9
  unfold cellObj at HX HW2 Hb2
  clear hX hb9 HS hd
  obtain ⟨gx, hgx⟩ : ∃ g, w.heap.size = g := ⟨_, rfl⟩
  rw [hgx] at HX
  generalize (w.alloc (.cells #[.int .i64 (u : Int), .string y] 84)).drew = X at *
  go_upto_region 1 with (fail)
  have k1 := wcell HX.out 1
  simp only [List.getElem?_toArray, List.getElem?_cons_succ, List.getElem?_cons_zero] at k1
  try rw [hgx]
  refine wp_region_held_drew (S := fun W => W.cell? ⟨gx, 1, none⟩ = some (.string y)) (by kernel_rfl) k1 (fun hSS => ?_)
  refine wpAnyH_take (i := 0) (v := ?_) rfl (by kernel_rfl) (by kernel_rfl) (by kernel_rfl) (fun _ _ _ h => h) (Or.inl ⟨by rfl, ?_⟩) hSS ?_
  rotate_left 1
  next => intro w hSw; have s1 := hSw; go_simp; try with_reducible rfl
  try simp only [Act.put, List.getElem_toArray, List.getElem_cons_zero, List.getElem_cons_succ, List.setIfInBounds_toArray, List.set_cons_zero, List.set_cons_succ]
  refine wpAnyH_take (i := 1) (v := ?_) rfl (by kernel_rfl) (by kernel_rfl) (by kernel_rfl) (fun _ _ _ h => h) (Or.inl ⟨by rfl, ?_⟩) hSS ?_
  rotate_left 1
  next => intro w hSw; have s1 := hSw; go_simp; try with_reducible rfl
  try simp only [Act.put, List.getElem_toArray, List.getElem_cons_zero, List.getElem_cons_succ, List.setIfInBounds_toArray, List.set_cons_zero, List.set_cons_succ]
  refine wpAnyH_take (i := 2) (v := ?_) rfl (by kernel_rfl) (by kernel_rfl) (by kernel_rfl) (fun _ _ _ h => h) (Or.inl ⟨by rfl, ?_⟩) hSS ?_
  rotate_left 1
  next => intro w hSw; have s1 := hSw; go_simp; try with_reducible rfl
  try simp only [Act.put, List.getElem_toArray, List.getElem_cons_zero, List.getElem_cons_succ, List.setIfInBounds_toArray, List.set_cons_zero, List.set_cons_succ]
  refine wpAnyH_take (i := 3) (v := ?_) rfl (by kernel_rfl) (by kernel_rfl) (by kernel_rfl) (fun _ _ _ h => h) (Or.inl ⟨by rfl, ?_⟩) hSS ?_
  rotate_left 1
  next => intro w hSw; have s1 := hSw; go_simp; try with_reducible rfl
  try simp only [Act.put, List.getElem_toArray, List.getElem_cons_zero, List.getElem_cons_succ, List.setIfInBounds_toArray, List.set_cons_zero, List.set_cons_succ]
  refine wpAnyH_take (i := 4) (v := ?_) rfl (by kernel_rfl) (by kernel_rfl) (by kernel_rfl) (fun _ _ _ h => h) (Or.inl ⟨by rfl, ?_⟩) hSS ?_
  rotate_left 1
  next => intro w hSw; have s1 := hSw; go_simp; try with_reducible rfl
  try simp only [Act.put, List.getElem_toArray, List.getElem_cons_zero, List.getElem_cons_succ, List.setIfInBounds_toArray, List.set_cons_zero, List.set_cons_succ]
  refine wpAnyH_ready (rs := [5]) (by kernel_rfl) (by simp) ?_
  refine AllReadyH.cons rfl (fun K hK => ?_) AllReadyH.nil
  go_simp
  have hsz := Hb2.out.size
  refine (writeStringW B b L k i _ _ l y _ HW2.out.drew (by rw [Hdz.out]; omega) (by rw [Hdz.out]; omega) (by show B ≤ X.heap.size; omega)).mono ?_
  rintro e W3 ⟨rfl, hw3, hb3, hk3⟩
  dsimp only
  have ho3 : W3.heap[gx]? = some (.cells #[.int .i64 (u : Int), .string y] 84 (0, 0)) := hk3 gx _ HX.out (by intro e; have := Option.some.inj e; omega) (by intro c fz e; injection e with _ e _; exact absurd e (by decide))
  have HO3 := Lib.hid ho3
  have HW3 := Lib.hid hw3
  have Hb3 : Hid (Below B w W3) := Lib.hid (((Hb2.out.mono (by omega)).drew).trans hb3)
  refine hK.out _ _ (wcell ho3 1) (fun _ => ?_)
  clear hK K hw3 hb3 hk3 ho3
  refine wpAnyH_done (by kernel_rfl) ?_ _
  have k0 := wcell HO3.out 0
  simp only [List.getElem?_toArray, List.getElem?_cons_succ, List.getElem?_cons_zero] at k0
  obtain ⟨_, c4, f4⟩ := HW3.out.cells
  go_wp2
  go_end0
  exact ⟨rfl, HW3.out.setState _, Hb3.out.setCell (p := ⟨b, 4, none⟩) hbB _⟩
end Go.Proofs.Ytcafeffgaokiaaa
