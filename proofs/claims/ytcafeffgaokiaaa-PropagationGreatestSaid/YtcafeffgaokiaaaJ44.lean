/- encoder.writer.put. Vectors of int: rows that read; slices.IndexFunc, ContainsFunc, Equal, Clone at []int. -/
import Derived.Test.YtcafeffgaokiaaaJ43
import Derived.Test.YtcafeffgaokiaaaJ39
import Derived.Test.YtcafeffgaokiaaaJ2
import Derived.Test.YtcafeffgaokiaaaJ23
import Derived.Deep.QuietTactic
namespace Go.Proofs.Ytcafeffgaokiaaa
open Go.RowKit
def cellObj (t : Int) (d : ByteArray) : Obj := .cells #[.int .i64 t, .string d] 84 (0, 0)
set_option maxHeartbeats 4000000 in
set_option maxRecDepth 100000 in
theorem put_any (B b : Nat) (L k i : Int) (m : EM) (p : Option Addr) (c : Nat) (I Bk t x : Nat) (l : List UInt8) (w : World) (h : IsWr B b L k i (.slice p m.r c) (t : Int) l w) (hA : m.At w p) (hok : m.Ok I Bk) (ht : t < m.r) (hx : x < I) (hBk : 1 ≤ Bk ∧ Bk ≤ 16) (hI : I ≤ 256) (hr : m.r ≤ 64) (hl : l.length ≤ 100000) (hBw : B ≤ w.heap.size) :
    Calls Try.prog 34 #[.pointer (some ⟨b, 0, none⟩), .int .i64 (x : Int)] w fun e w' => e = .returned (.tuple #[]) ∧ IsWr B b L k i (.slice p m.r c) ((m.T t x).toNat : Int) (l ++ (m.D t x).data.toList) w' ∧ Below B w w' := by
  obtain ⟨x3, x4, _⟩ := h.cells
  obtain ⟨eb, eo, q9, c9, rfl, heb, hrow, hcells⟩ := hA.row ht
  have hLt : m.L t = I := hok.len t ht
  obtain ⟨fb, fo, rfl, hfb, d0, d1⟩ := EM.cells hcells (k := x) (by rw [hLt]; exact hx)
  have hdz := hok.wd t x ht hx
  have ht0 := hok.to0 t x ht hx
  obtain ⟨u, hu⟩ : ∃ u : Nat, (m.T t x).toNat = u := ⟨_, rfl⟩
  have hu2 : m.T t x = (u : Int) := by omega
  obtain ⟨y, hy⟩ : ∃ y, m.D t x = y := ⟨_, rfl⟩
  rw [hu2] at d0
  rw [hy] at d1 hdz
  rw [hLt] at hrow
  rw [hu, hy]
  have hblt := h.lt
  have hbB := h.base
  have HW := Lib.hid h
  have t0 : (0 : Int) ≤ (t : Int) := by omega
  have t1 : (t : Int) < (m.r : Int) := by omega
  have y0 : (0 : Int) ≤ (x : Int) := by omega
  have y1 : (x : Int) < (I : Int) := by omega
  have Hdz := Lib.hid hdz
  clear hcells hu hu2 hy ht0 hdz h hA
  go_enter Try.func34, Try.ntmps34
  go_upto_region 0 with (fail)
  obtain ⟨SS, hSe⟩ : ∃ SS : World → Prop, SS = fun W => W.cell? ⟨b, 3, none⟩ = some (.slice (some ⟨eb, eo, none⟩) m.r c) ∧ W.cell? ⟨b, 4, none⟩ = some (.int .i64 (t : Int)) ∧ W.cell? ⟨eb, eo + t, none⟩ = some (.slice (some ⟨fb, fo, none⟩) I c9) ∧ W.cell? ⟨fb, fo + x * 2, none⟩ = some (.int .i64 (u : Int)) ∧ W.cell? ⟨fb, fo + x * 2 + 1, none⟩ = some (.string y) := ⟨_, rfl⟩
  have HS : Hid (∀ W, Below w.heap.size w W → SS W) := Lib.hid (fun W hW => by
    rw [hSe]
    exact ⟨(hW.cell (p := ⟨b, 3, none⟩) hblt).trans x3, (hW.cell (p := ⟨b, 4, none⟩) hblt).trans x4, (hW.cell (p := ⟨eb, _, none⟩) heb).trans hrow, (hW.cell (p := ⟨fb, _, none⟩) hfb).trans d0, (hW.cell (p := ⟨fb, _, none⟩) hfb).trans d1⟩)
  have hd : Below w.heap.size w w.drew := (Below.refl _ _).drew
  clear x3 x4 hrow d0 d1
  refine wp_region_held_drew (S := SS) (by kernel_rfl) (HS.out _ hd) (fun hSS => ?_)
  refine wpAnyH_take (i := 0) (v := ?_) rfl (by kernel_rfl) (by kernel_rfl) (by kernel_rfl) (fun _ _ _ h => h) (Or.inl ⟨by rfl, ?_⟩) (HS.out _ hd) ?_
  rotate_left 1
  next => intro w hSw; rw [hSe] at hSw; obtain ⟨s1, s2, s3, s4, s5⟩ := hSw; go_simp; try with_reducible rfl
  try simp only [Act.put, List.getElem_toArray, List.getElem_cons_zero, List.getElem_cons_succ, List.setIfInBounds_toArray, List.set_cons_zero, List.set_cons_succ]
  refine wpAnyH_take (i := 1) (v := ?_) rfl (by kernel_rfl) (by kernel_rfl) (by kernel_rfl) (fun _ _ _ h => h) (Or.inl ⟨by rfl, ?_⟩) (HS.out _ hd) ?_
  rotate_left 1
  next => intro w hSw; rw [hSe] at hSw; obtain ⟨s1, s2, s3, s4, s5⟩ := hSw; go_simp; try with_reducible rfl
  try simp only [Act.put, List.getElem_toArray, List.getElem_cons_zero, List.getElem_cons_succ, List.setIfInBounds_toArray, List.set_cons_zero, List.set_cons_succ]
  refine wpAnyH_take (i := 2) (v := ?_) rfl (by kernel_rfl) (by kernel_rfl) (by kernel_rfl) (fun _ _ _ h => h) (Or.inl ⟨by rfl, ?_⟩) (HS.out _ hd) ?_
  rotate_left 1
  next => intro w hSw; rw [hSe] at hSw; obtain ⟨s1, s2, s3, s4, s5⟩ := hSw; go_simp; try with_reducible rfl
  try simp only [Act.put, List.getElem_toArray, List.getElem_cons_zero, List.getElem_cons_succ, List.setIfInBounds_toArray, List.set_cons_zero, List.set_cons_succ]
  refine wpAnyH_take (i := 3) (v := ?_) rfl (by kernel_rfl) (by kernel_rfl) (by kernel_rfl) (fun _ _ _ h => h) (Or.inl ⟨by rfl, ?_⟩) (HS.out _ hd) ?_
  rotate_left 1
  next => intro w hSw; rw [hSe] at hSw; obtain ⟨s1, s2, s3, s4, s5⟩ := hSw; go_simp; try with_reducible rfl
  try simp only [Act.put, List.getElem_toArray, List.getElem_cons_zero, List.getElem_cons_succ, List.setIfInBounds_toArray, List.set_cons_zero, List.set_cons_succ]
  refine wpAnyH_take (i := 4) (v := ?_) rfl (by kernel_rfl) (by kernel_rfl) (by kernel_rfl) (fun _ _ _ h => h) (Or.inl ⟨by rfl, ?_⟩) (HS.out _ hd) ?_
  rotate_left 1
  next => intro w hSw; rw [hSe] at hSw; obtain ⟨s1, s2, s3, s4, s5⟩ := hSw; go_simp; try with_reducible rfl
  try simp only [Act.put, List.getElem_toArray, List.getElem_cons_zero, List.getElem_cons_succ, List.setIfInBounds_toArray, List.set_cons_zero, List.set_cons_succ]
  refine wpAnyH_take (i := 5) (v := ?_) rfl (by kernel_rfl) (by kernel_rfl) (by kernel_rfl) (fun _ _ _ h => h) (Or.inl ⟨by rfl, ?_⟩) (HS.out _ hd) ?_
  rotate_left 1
  next => intro w hSw; rw [hSe] at hSw; obtain ⟨s1, s2, s3, s4, s5⟩ := hSw; go_simp; try with_reducible rfl
  try simp only [Act.put, List.getElem_toArray, List.getElem_cons_zero, List.getElem_cons_succ, List.setIfInBounds_toArray, List.set_cons_zero, List.set_cons_succ]
  refine wpAnyH_take (i := 6) (v := ?_) rfl (by kernel_rfl) (by kernel_rfl) (by kernel_rfl) (fun _ _ _ h => h) (Or.inl ⟨by rfl, ?_⟩) (HS.out _ hd) ?_
  rotate_left 1
  next => intro w hSw; rw [hSe] at hSw; obtain ⟨s1, s2, s3, s4, s5⟩ := hSw; go_simp; try with_reducible rfl
  try simp only [Act.put, List.getElem_toArray, List.getElem_cons_zero, List.getElem_cons_succ, List.setIfInBounds_toArray, List.set_cons_zero, List.set_cons_succ]
  refine wpAnyH_take (i := 7) (v := ?_) rfl (by kernel_rfl) (by kernel_rfl) (by kernel_rfl) (fun _ _ _ h => h) (Or.inl ⟨by rfl, ?_⟩) (HS.out _ hd) ?_
  rotate_left 1
  next => intro w hSw; rw [hSe] at hSw; obtain ⟨s1, s2, s3, s4, s5⟩ := hSw; go_simp; try with_reducible rfl
  try simp only [Act.put, List.getElem_toArray, List.getElem_cons_zero, List.getElem_cons_succ, List.setIfInBounds_toArray, List.set_cons_zero, List.set_cons_succ]
  refine wpAnyH_take (i := 8) (v := ?_) rfl (by kernel_rfl) (by kernel_rfl) (by kernel_rfl) (fun _ _ _ h => h) (Or.inl ⟨by rfl, ?_⟩) (HS.out _ hd) ?_
  rotate_left 1
  next => intro w hSw; rw [hSe] at hSw; obtain ⟨s1, s2, s3, s4, s5⟩ := hSw; go_simp; try with_reducible rfl
  try simp only [Act.put, List.getElem_toArray, List.getElem_cons_zero, List.getElem_cons_succ, List.setIfInBounds_toArray, List.set_cons_zero, List.set_cons_succ]
  refine wpAnyH_take (i := 9) (v := ?_) rfl (by kernel_rfl) (by kernel_rfl) (by kernel_rfl) (fun _ _ _ h => h) (Or.inl ⟨by rfl, ?_⟩) (HS.out _ hd) ?_
  rotate_left 1
  next => intro w hSw; rw [hSe] at hSw; obtain ⟨s1, s2, s3, s4, s5⟩ := hSw; go_simp; try with_reducible rfl
  try simp only [Act.put, List.getElem_toArray, List.getElem_cons_zero, List.getElem_cons_succ, List.setIfInBounds_toArray, List.set_cons_zero, List.set_cons_succ]
  refine wpAnyH_take (i := 10) (v := ?_) rfl (by kernel_rfl) (by kernel_rfl) (by kernel_rfl) (fun _ _ _ h => h) (Or.inl ⟨by rfl, ?_⟩) (HS.out _ hd) ?_
  rotate_left 1
  next => intro w hSw; rw [hSe] at hSw; obtain ⟨s1, s2, s3, s4, s5⟩ := hSw; go_simp; try with_reducible rfl
  try simp only [Act.put, List.getElem_toArray, List.getElem_cons_zero, List.getElem_cons_succ, List.setIfInBounds_toArray, List.set_cons_zero, List.set_cons_succ]
  refine wpAnyH_take (i := 11) (v := ?_) rfl (by kernel_rfl) (by kernel_rfl) (by kernel_rfl) (fun _ _ _ h => h) (Or.inl ⟨by rfl, ?_⟩) (HS.out _ hd) ?_
  rotate_left 1
  next => intro w hSw; rw [hSe] at hSw; obtain ⟨s1, s2, s3, s4, s5⟩ := hSw; go_simp; try with_reducible rfl
  try simp only [Act.put, List.getElem_toArray, List.getElem_cons_zero, List.getElem_cons_succ, List.setIfInBounds_toArray, List.set_cons_zero, List.set_cons_succ]
  refine wpAnyH_take (i := 12) (v := ?_) rfl (by kernel_rfl) (by kernel_rfl) (by kernel_rfl) (fun _ _ _ h => h) (Or.inl ⟨by rfl, ?_⟩) (HS.out _ hd) ?_
  rotate_left 1
  next => intro w hSw; rw [hSe] at hSw; obtain ⟨s1, s2, s3, s4, s5⟩ := hSw; go_simp; try with_reducible rfl
  try simp only [Act.put, List.getElem_toArray, List.getElem_cons_zero, List.getElem_cons_succ, List.setIfInBounds_toArray, List.set_cons_zero, List.set_cons_succ]
  refine wpAnyH_take (i := 13) (v := ?_) rfl (by kernel_rfl) (by kernel_rfl) (by kernel_rfl) (fun _ _ _ h => h) (Or.inl ⟨by rfl, ?_⟩) (HS.out _ hd) ?_
  rotate_left 1
  next => intro w hSw; rw [hSe] at hSw; obtain ⟨s1, s2, s3, s4, s5⟩ := hSw; go_simp; try with_reducible rfl
  try simp only [Act.put, List.getElem_toArray, List.getElem_cons_zero, List.getElem_cons_succ, List.setIfInBounds_toArray, List.set_cons_zero, List.set_cons_succ]
  try simp only [Act.put, List.getElem_toArray, List.getElem_cons_zero, List.getElem_cons_succ, List.setIfInBounds_toArray, List.set_cons_zero, List.set_cons_succ]
  refine wpAnyH_ready (rs := [14]) (by kernel_rfl) (by simp) ?_
  refine AllReadyH.cons rfl (fun K hK => ?_) AllReadyH.nil
  go_simp
  have hb1 := hd.alloc hd.size (.cells #[.int .i64 0, .string ⟨#[]⟩] 84)
  refine hK.out _ _ (HS.out _ hb1) (fun _ => ?_)
  clear hK K
  try simp only [Act.put, List.getElem_toArray, List.getElem_cons_zero, List.getElem_cons_succ, List.setIfInBounds_toArray, List.set_cons_zero, List.set_cons_succ]
  refine wpAnyH_ready (rs := [15]) (by kernel_rfl) (by simp) ?_
  refine AllReadyH.cons rfl (fun K hK => ?_) AllReadyH.nil
  go_simp
  have hb9 := ((Below.refl w.heap.size w).alloc (Nat.le_refl _) (cellObj (u : Int) y)).drew
  refine hK.out _ _ (HS.out _ hb9) (fun _ => ?_)
  clear hK K
  refine wpAnyH_done (by kernel_rfl) ?_ _
  have hX : (w.alloc (cellObj (u : Int) y)).drew.heap[w.heap.size]? = some (cellObj (u : Int) y) := World.alloc_heap_new w _
  have HX := Lib.hid hX
  have HW2 := Lib.hid ((HW.out.alloc (cellObj (u : Int) y)).drew)
  have Hb2 := Lib.hid hb9
  unfold cellObj at HX HW2 Hb2
  clear hX hb9 HS hd
  obtain ⟨gx, hgx⟩ : ∃ g, w.heap.size = g := ⟨_, rfl⟩
  rw [hgx] at HX
  generalize (w.alloc (.cells #[.int .i64 (u : Int), .string y] 84)).drew = X at *
  go_upto_region 1 with (fail)
  have k1 := wcell HX.out 1
  simp only [List.getElem?_toArray, List.getElem?_cons_succ, List.getElem?_cons_zero] at k1
  try rw [hgx]
  refine wp_region_held_drew (S := fun W => W.cell? ⟨gx, 1, none⟩ = some (.string y)) (by kernel_rfl) k1 (fun hSS => ?_)
  refine wpAnyH_take (i := 0) (v := ?_) rfl (by kernel_rfl) (by kernel_rfl) (by kernel_rfl) (fun _ _ _ h => h) (Or.inl ⟨by rfl, ?_⟩) hSS ?_
  rotate_left 1
  next => intro w hSw; have s1 := hSw; go_simp; try with_reducible rfl
  try simp only [Act.put, List.getElem_toArray, List.getElem_cons_zero, List.getElem_cons_succ, List.setIfInBounds_toArray, List.set_cons_zero, List.set_cons_succ]
  refine wpAnyH_take (i := 1) (v := ?_) rfl (by kernel_rfl) (by kernel_rfl) (by kernel_rfl) (fun _ _ _ h => h) (Or.inl ⟨by rfl, ?_⟩) hSS ?_
  rotate_left 1
  next => intro w hSw; have s1 := hSw; go_simp; try with_reducible rfl
  try simp only [Act.put, List.getElem_toArray, List.getElem_cons_zero, List.getElem_cons_succ, List.setIfInBounds_toArray, List.set_cons_zero, List.set_cons_succ]
  refine wpAnyH_take (i := 2) (v := ?_) rfl (by kernel_rfl) (by kernel_rfl) (by kernel_rfl) (fun _ _ _ h => h) (Or.inl ⟨by rfl, ?_⟩) hSS ?_
  rotate_left 1
  next => intro w hSw; have s1 := hSw; go_simp; try with_reducible rfl
  try simp only [Act.put, List.getElem_toArray, List.getElem_cons_zero, List.getElem_cons_succ, List.setIfInBounds_toArray, List.set_cons_zero, List.set_cons_succ]
  refine wpAnyH_take (i := 3) (v := ?_) rfl (by kernel_rfl) (by kernel_rfl) (by kernel_rfl) (fun _ _ _ h => h) (Or.inl ⟨by rfl, ?_⟩) hSS ?_
  rotate_left 1
  next => intro w hSw; have s1 := hSw; go_simp; try with_reducible rfl
  try simp only [Act.put, List.getElem_toArray, List.getElem_cons_zero, List.getElem_cons_succ, List.setIfInBounds_toArray, List.set_cons_zero, List.set_cons_succ]
  refine wpAnyH_take (i := 4) (v := ?_) rfl (by kernel_rfl) (by kernel_rfl) (by kernel_rfl) (fun _ _ _ h => h) (Or.inl ⟨by rfl, ?_⟩) hSS ?_
  rotate_left 1
  next => intro w hSw; have s1 := hSw; go_simp; try with_reducible rfl
  try simp only [Act.put, List.getElem_toArray, List.getElem_cons_zero, List.getElem_cons_succ, List.setIfInBounds_toArray, List.set_cons_zero, List.set_cons_succ]
  refine wpAnyH_ready (rs := [5]) (by kernel_rfl) (by simp) ?_
  refine AllReadyH.cons rfl (fun K hK => ?_) AllReadyH.nil
  go_simp
  have hsz := Hb2.out.size
  refine (writeStringW B b L k i _ _ l y _ HW2.out.drew (by rw [Hdz.out]; omega) (by rw [Hdz.out]; omega) (by show B ≤ X.heap.size; omega)).mono ?_
  rintro e W3 ⟨rfl, hw3, hb3, hk3⟩
  dsimp only
  have ho3 : W3.heap[gx]? = some (.cells #[.int .i64 (u : Int), .string y] 84 (0, 0)) := hk3 gx _ HX.out (by intro e; have := Option.some.inj e; omega) (by intro c fz e; injection e with _ e _; exact absurd e (by decide))
  have HO3 := Lib.hid ho3
  have HW3 := Lib.hid hw3
  have Hb3 : Hid (Below B w W3) := Lib.hid (((Hb2.out.mono (by omega)).drew).trans hb3)
  refine hK.out _ _ (wcell ho3 1) (fun _ => ?_)
  clear hK K hw3 hb3 hk3 ho3
  refine wpAnyH_done (by kernel_rfl) ?_ _
  have k0 := wcell HO3.out 0
  simp only [List.getElem?_toArray, List.getElem?_cons_succ, List.getElem?_cons_zero] at k0
  obtain ⟨_, c4, f4⟩ := HW3.out.cells
  go_wp2
  go_end0
  exact ⟨rfl, HW3.out.setState _, Hb3.out.setCell (p := ⟨b, 4, none⟩) hbB _⟩
end Go.Proofs.Ytcafeffgaokiaaa
namespace Go.Proofs.Ytcafeffgaokiaaa
open Go.RowKit Go.Shelf
/-- n integers in memory. -/
def VRow (w : World) (p : Option Addr) (n : Nat) (f : Nat → Int) : Prop := SlAt 1 w p n (fun k _ => .int .i64 (f k))
theorem VRow.below {w w' : World} {p : Option Addr} {n : Nat} {f : Nat → Int} (h : VRow w p n f) {B : Nat} (hB : w.heap.size ≤ B) (hb : Below B w w') : VRow w' p n f := h.mono hB hb
theorem VRow.congr {w : World} {p : Option Addr} {n : Nat} {f g : Nat → Int} (h : VRow w p n f) (e : ∀ k, k < n → f k = g k) : VRow w p n g := SlAt.congr h fun i hi j _ => by rw [e i hi]
theorem VRow.cells {w : World} {p : Option Addr} {n : Nat} {f : Nat → Int} (h : VRow w p n f) {k : Nat} (hk : k < n) :
    ∃ b off, p = some ⟨b, off, none⟩ ∧ b < w.heap.size ∧ ∀ j, j < n → w.cell? ⟨b, off + j, none⟩ = some (.int .i64 (f j)) := by
  rcases h with h | ⟨b, off, rfl, hlt, hc⟩
  · omega
  · exact ⟨b, off, rfl, hlt, fun j hj => by simpa using hc j hj 0 (by omega)⟩
/-- A block of the call's own that begins with n integers. -/
def VAt (w : World) (g n : Nat) (f : Nat → Int) : Prop := HAt w g n (fun k => .int .i64 (f k))
theorem VAt.below {w w' : World} {g n B : Nat} {f : Nat → Int} (h : VAt w g n f) (hb : Below B w w') (hg : g < B) : VAt w' g n f := HAt.below h hb hg
theorem VAt.congr {w : World} {g n : Nat} {f h : Nat → Int} (hz : VAt w g n f) (e : ∀ k, k < n → f k = h k) : VAt w g n h := HAt.congr hz fun k hk => by rw [e k hk]
theorem VAt.row {w : World} {g n : Nat} {f : Nat → Int} (h : VAt w g n f) : VRow w (some ⟨g, 0, none⟩) n f := .inr ⟨g, 0, rfl, h.1, fun k hk j hj => by
  have : j = 0 := by omega
  subst this
  simpa using (h.2 k hk).1⟩
theorem VAt.set {w : World} {g n k : Nat} {f : Nat → Int} (h : VAt w g n f) (v : Int) : VAt (w.setCell ⟨g, k, none⟩ (.int .i64 v)) g n (fun i => if i = k then v else f i) :=
  (HAt.set h (.int .i64 v)).congr fun i _ => by
    dsimp only
    split <;> rfl
theorem VAt.other {w : World} {g n : Nat} {f : Nat → Int} (h : VAt w g n f) (a : Addr) (v : Value) (hne : a.block ≠ g) : VAt (w.setCell a v) g n f := HAt.other h a v hne
/-- A vector as a list. -/
def vecL (f : Nat → Int) (n : Nat) : List Int := (List.range n).map f
theorem vecL_len (f : Nat → Int) (n : Nat) : (vecL f n).length = n := by simp [vecL]
theorem vecL_get (f : Nat → Int) (n : Nat) {k : Nat} (hk : k < n) : (vecL f n).getD k 0 = f k := by
  simp [vecL, List.getD_eq_getElem?_getD, hk]
theorem VRow.ints {w : World} {p : Option Addr} {n : Nat} {f : Nat → Int} (h : VRow w p n f) : IntsAt w p (vecL f n) := by
  unfold IntsAt
  rw [vecL_len]
  exact SlAt.congr h fun i hi j _ => by rw [vecL_get f n hi]
set_option maxRecDepth 100000 in
set_option maxHeartbeats 4000000 in
theorem indexFn_i (n : Nat) (p : Option Addr) (c : Nat) (f : Nat → Int) (fid : Nat) (bound : Array Value) (P : Nat → Bool) (w : World) (eg : ∀ args w, (callFunc fid args).run Try.prog w = .ok (.enter fid args) w) (hn : n ≤ 1000000000000)
    (hp : VRow w p n f) (hof : ∀ k W, k < n → Below w.heap.size w W → Calls Try.prog fid (#[(.int .i64 (f k))] ++ bound) W (RetB (P k) W)) :
    Calls Try.prog 63 #[.slice p n c, .func (.func fid) #[] bound] w (RetIdx P n w) := by
  have Hof := Lib.hid hof
  have Heg := Lib.hid eg
  have Hp := Lib.hid hp
  clear hof eg hp
  go_enter Try.func63, Try.ntmps63
  go_wp2
  go_loopw [8] (fun v wr => ∃ i : Nat, i ≤ n ∧ v = .int .i64 i ∧ Hid (Below w.heap.size w wr) ∧ Hid (∀ k, k < i → P k = false)) (fun v _ => n - (intOf v).toNat)
  case atStart => exact ⟨0, by omega, by go_num, Lib.hid (Below.refl _ _), Lib.hid (fun k hk => by omega)⟩
  case round =>
    obtain ⟨i, hi, rfl, Hb, HN⟩ := hrel
    by_cases hlt : i < n
    · have i1 : (i : Int) < (n : Int) := by omega
      have i0 : (0 : Int) ≤ (i : Int) := by omega
      have heg := Heg.out
      rcases Hp.out with h | ⟨ab, ao, rfl, hab, hac⟩
      · omega
      have a3 : wr.cell? ⟨ab, ao + i, none⟩ = some (.int .i64 (f i)) := cell_lo Hb.out hab (by simpa using hac i hlt 0 (by omega))
      clear hac
      go_wp2_with fail
      refine (Hof.out i wr hlt Hb.out).mono ?_
      rintro e w2 ⟨rfl, hb2⟩
      dsimp only
      have Hb2 := Lib.hid (Hb.out.trans (hb2.mono Hb.out.size))
      clear hb2
      cases hP : P i
      · have HN2 : Hid (∀ k, k < i + 1 → P k = false) := Lib.hid (fun k hk => by
          by_cases e : k = i
          · subst e; exact hP
          · exact HN.out k (by omega))
        clear hP
        go_wp2
        go_roundw
        case rel => exact ⟨i + 1, by omega, by go_num, Hb2, HN2⟩
        case measure => simp [intOf]; omega
      · have HA : Hid (anyN P n = true) := Lib.hid (anyN_true.2 ⟨i, hlt, hP⟩)
        clear hP
        go_wp2
        go_ret
        exact ⟨_, rfl, .inl ⟨by omega, HA.out⟩, Hb2.out⟩
    · have i1 : ¬ (i : Int) < (n : Int) := by omega
      have HA : Hid (anyN P n = false) := Lib.hid (anyN_false.2 fun k hk => HN.out k (by omega))
      go_wp2
      go_ret
      exact ⟨_, rfl, .inr ⟨rfl, HA.out⟩, Hb.out⟩
set_option maxRecDepth 100000 in
set_option maxHeartbeats 4000000 in
theorem containsFn_i (n : Nat) (p : Option Addr) (c : Nat) (f : Nat → Int) (fid : Nat) (bound : Array Value) (P : Nat → Bool) (w : World) (eg : ∀ args w, (callFunc fid args).run Try.prog w = .ok (.enter fid args) w) (hn : n ≤ 1000000000000)
    (hp : VRow w p n f) (hof : ∀ k W, k < n → Below w.heap.size w W → Calls Try.prog fid (#[(.int .i64 (f k))] ++ bound) W (RetB (P k) W)) :
    Calls Try.prog 32 #[.slice p n c, .func (.func fid) #[] bound] w (RetB (anyN P n) w) := by
  have HI := Lib.hid (indexFn_i n p c f fid bound P w eg hn hp hof)
  clear hof eg hp
  go_enter Try.func32, Try.ntmps32
  go_wp2_with fail
  refine HI.out.mono ?_
  rintro e w2 ⟨v, rfl, hv, hb⟩
  dsimp only
  have Hb := Lib.hid hb
  clear hb
  rcases hv with ⟨h1, h2⟩ | ⟨h1, h2⟩
  · have H2 := Lib.hid h2
    clear h2
    have h3 : decide (v ≥ 0) = true := decide_eq_true h1
    go_wp2
    go_ret
    exact ⟨by rw [H2.out]; rfl, Hb.out⟩
  · have H2 := Lib.hid h2
    clear h2
    subst h1
    go_wp2
    go_ret
    exact ⟨by rw [H2.out]; rfl, Hb.out⟩


end Go.Proofs.Ytcafeffgaokiaaa
