/- Slices of bytes that read. groovelaw23: fine, vector, sums, holds, below, zero. -/
import Derived.Test.YtlaoijfphkhchaaB0
import Derived.Test.YtlaoijfphkhchaaB31
import Derived.Test.YtlaoijfphkhchaaB20
namespace Go.Proofs.Ytlaoijfphkhchaa
open Go.RowKit
/-- A slice header at p reads as these bytes. -/
def ByteAt (w : World) (p : Option Addr) (xs : List Nat) : Prop := SlAt 1 w p xs.length (fun i _ => .int .u8 (xs.getD i 0 : Nat))
theorem ByteAt.below {w w' : World} {p : Option Addr} {xs : List Nat} (h : ByteAt w p xs) {B : Nat} (hB : w.heap.size ≤ B) (hb : Below B w w') : ByteAt w' p xs := h.mono hB hb
theorem ByteAt.cells {w : World} {p : Option Addr} {xs : List Nat} (h : ByteAt w p xs) {k : Nat} (hk : k < xs.length) :
    ∃ b off, p = some ⟨b, off, none⟩ ∧ b < w.heap.size ∧ ∀ i, i < xs.length → w.cell? ⟨b, off + i, none⟩ = some (.int .u8 (xs.getD i 0 : Nat)) := by
  rcases h with h | ⟨b, off, rfl, hlt, hc⟩
  · omega
  · exact ⟨b, off, rfl, hlt, fun i hi => by simpa using hc i hi 0 (by omega)⟩
end Go.Proofs.Ytlaoijfphkhchaa
namespace Go.Proofs.Ytlaoijfphkhchaa
open Go.RowKit Go.Shelf
def fine23 (L S : Int) (n : Nat) (E : Nat → Nat → Int) (m : Int) : Bool := !gGreatB S n && decide (gChk L S n E = 0) && decide (0 < S) && decide (1 ≤ m) && decide (m ≤ 256)
set_option maxRecDepth 100000 in
set_option maxHeartbeats 4000000 in
theorem fine23_any (L S : Int) (n : Nat) (E : Nat → Nat → Int) (p : Option Addr) (c : Nat) (m : Int) (w : World) (hE : EdgAt w p n E) :
    Calls Try.prog 19 #[.agg #[.int .i64 L, .int .i64 S, .slice p n c], .int .i64 m] w (RetB (fine23 L S n E m) w) := by
  obtain ⟨W0, hW0⟩ : ∃ W, w.alloc (.cells #[.int .i64 L, .int .i64 S, .slice p n c] 24) = W := ⟨_, rfl⟩
  have hb0 : Below w.heap.size w W0 := by rw [← hW0]; exact (Below.refl _ _).alloc (Nat.le_refl _) _
  have hbx : BoxAt3 W0 w.heap.size (.int .i64 L) (.int .i64 S) (.slice p n c) := by rw [← hW0]; exact BoxAt3.new w _ _ _ _
  have HGr := Lib.hid (gGreat_any L S n p c W0)
  have HG := Lib.hid (fun W (hW : Below W0.heap.size W0 W) => gcheck_any L S n E p c W ((hE.mono (Nat.le_refl _) hb0).mono (Nat.le_refl _) hW))
  have HB : Hid (∀ W, Below W0.heap.size W0 W → BoxAt3 W w.heap.size (.int .i64 L) (.int .i64 S) (.slice p n c) ∧ Below w.heap.size w W) := Lib.hid (fun W hW => ⟨hbx.below hW, hb0.trans (hW.mono hb0.size)⟩)
  obtain ⟨_, c0, c1, c2⟩ := hbx
  obtain ⟨r, hr⟩ : ∃ r, fine23 L S n E m = r := ⟨_, rfl⟩
  rw [hr]
  have HR := Lib.hid hr
  unfold fine23 at HR
  obtain ⟨b, hb⟩ : ∃ b, gGreatB S n = b := ⟨_, rfl⟩
  rw [hb] at HGr HR
  obtain ⟨g, hg⟩ : ∃ b, gChk L S n E = b := ⟨_, rfl⟩
  rw [hg] at HG HR
  clear hb hg hr hE hb0
  cases b
  rotate_left 1
  · have hr : false = r := by rw [← HR.out]; rfl
    have HR2 := Lib.hid hr
    clear hr HR
    go_enter Try.func19, Try.ntmps19
    go_wp2_with fail
    try rw [hW0]
    refine HGr.out.mono ?_
    rintro e W1 ⟨rfl, hb⟩
    dsimp only
    have Hb1 := Lib.hid (HB.out _ hb).2
    clear hb HGr HB HG c0 c1 c2 hW0
    go_wp2
    go_ret
    exact ⟨by rw [← HR2.out]; rfl, Hb1.out⟩
  by_cases h1 : g = 0
  rotate_left 1
  · have e1 : (g == 0) = false := by rw [beq_eq_false_iff_ne]; exact h1
    have hr : false = r := by rw [← HR.out, decide_eq_false h1]; rfl
    have HR2 := Lib.hid hr
    clear hr HR h1
    go_enter Try.func19, Try.ntmps19
    go_wp2_with fail
    try rw [hW0]
    refine HGr.out.mono ?_
    rintro e W1 ⟨rfl, hb⟩
    dsimp only
    obtain ⟨⟨_, z0, z1, z2⟩, _⟩ := HB.out _ hb
    have Hb := Lib.hid hb
    clear hb HGr c0 c1 c2 hW0
    go_wp2_with fail
    refine (HG.out _ Hb.out).mono ?_
    rintro e W2 ⟨rfl, hb2⟩
    dsimp only
    have Hb2 := Lib.hid (HB.out _ (Hb.out.trans (hb2.mono Hb.out.size))).2
    clear hb2 HG HB Hb z0 z1 z2
    go_wp2
    go_ret
    exact ⟨by rw [← HR2.out]; rfl, Hb2.out⟩
  have e1 : (g == 0) = true := by rw [h1]; rfl
  have hr : (decide (0 < S) && decide (1 ≤ m) && decide (m ≤ 256)) = r := by rw [← HR.out, decide_eq_true h1]; rfl
  have HR2 := Lib.hid hr
  clear hr HR h1
  go_enter Try.func19, Try.ntmps19
  go_wp2_with fail
  try rw [hW0]
  refine HGr.out.mono ?_
  rintro e W1 ⟨rfl, hb⟩
  dsimp only
  obtain ⟨⟨_, z0, z1, z2⟩, _⟩ := HB.out _ hb
  have Hb := Lib.hid hb
  clear hb HGr c0 c1 c2 hW0
  go_wp2_with fail
  refine (HG.out _ Hb.out).mono ?_
  rintro e W2 ⟨rfl, hb2⟩
  dsimp only
  obtain ⟨⟨_, z0, z1, z2⟩, hb3⟩ := HB.out _ (Hb.out.trans (hb2.mono Hb.out.size))
  have Hb2 := Lib.hid hb3
  clear hb2 hb3 HG HB Hb
  by_cases h2 : 0 < S
  · by_cases h3 : 1 ≤ m
    · by_cases h4 : m ≤ 256
      · have hr : true = r := by rw [← HR2.out, decide_eq_true h2, decide_eq_true h3, decide_eq_true h4]; rfl
        have HR3 := Lib.hid hr
        clear hr HR2
        go_wp2
        go_ret
        exact ⟨by rw [← HR3.out]; rfl, Hb2.out⟩
      · have hr : false = r := by rw [← HR2.out, decide_eq_true h2, decide_eq_true h3, decide_eq_false h4]; rfl
        have HR3 := Lib.hid hr
        clear hr HR2
        go_wp2
        go_ret
        exact ⟨by rw [← HR3.out]; rfl, Hb2.out⟩
    · have hr : false = r := by rw [← HR2.out, decide_eq_true h2, decide_eq_false h3]; rfl
      have HR3 := Lib.hid hr
      clear hr HR2
      go_wp2
      go_ret
      exact ⟨by rw [← HR3.out]; rfl, Hb2.out⟩
  · have hr : false = r := by rw [← HR2.out, decide_eq_false h2]; rfl
    have HR3 := Lib.hid hr
    clear hr HR2
    go_wp2
    go_ret
    exact ⟨by rw [← HR3.out]; rfl, Hb2.out⟩
theorem fine23_true {L S : Int} {n : Nat} {E : Nat → Nat → Int} {m : Int} (h : fine23 L S n E m = true) : gChk L S n E = 0 ∧ 1 ≤ S ∧ S ≤ 6 ∧ n ≤ 30 ∧ 1 ≤ m ∧ m ≤ 256 := by
  unfold fine23 gGreatB at h
  simp only [Bool.and_eq_true, Bool.not_eq_true', decide_eq_true_eq, decide_eq_false_iff_not] at h
  obtain ⟨⟨⟨⟨h1, h2⟩, h3⟩, h4⟩, h5⟩ := h
  obtain ⟨_, _, _, h6, h7, _⟩ := gChk_zero h2
  exact ⟨h2, by omega, by omega, by omega, h4, h5⟩
/-- The vector of a law. -/
def vecB (xs : List Nat) (s : Nat) : Int := if s < xs.length then ((xs.getD s 0 % 31 : Nat) : Int) else 0
theorem vecB_le (xs : List Nat) (s : Nat) : 0 ≤ vecB xs s ∧ vecB xs s ≤ 30 := by
  unfold vecB
  split <;> omega
set_option maxRecDepth 100000 in
set_option maxHeartbeats 4000000 in
theorem vector_any (LL : Int) (N n : Nat) (p : Option Addr) (c : Nat) (xs : List Nat) (px : Option Addr) (cx : Nat) (hN : N ≤ 1000000) (hx : ∀ x ∈ xs, x < 256) (w : World) (hX : ByteAt w px xs) :
    Calls Try.prog 21 #[.agg #[.int .i64 LL, .int .i64 (N : Int), .slice p n c], .slice px xs.length cx] w (RetVecB N (vecB xs) w) := by
  obtain ⟨W0, hW0⟩ : ∃ W, w.alloc (.cells #[.int .i64 LL, .int .i64 (N : Int), .slice p n c] 24) = W := ⟨_, rfl⟩
  have hb0 : Below w.heap.size w W0 := by rw [← hW0]; exact (Below.refl _ _).alloc (Nat.le_refl _) _
  have hbx : BoxAt3 W0 w.heap.size (.int .i64 LL) (.int .i64 (N : Int)) (.slice p n c) := by rw [← hW0]; exact BoxAt3.new w _ _ _ _
  have HX := Lib.hid (hX.below (Nat.le_refl _) hb0)
  have hmk := make_is N hN W0
  have Hz : Hid (VAt (W0.alloc (.cells (madeCells #[.int .i64 0] N) 3)) W0.heap.size N (fun s => if s < 0 then vecB xs s else 0)) := Lib.hid ((made_ints W0 N 3).congr fun s _ => (if_neg (Nat.not_lt_zero s)).symm)
  have Hb : Hid (Below W0.heap.size W0 (W0.alloc (.cells (madeCells #[.int .i64 0] N) 3))) := Lib.hid ((Below.refl _ _).alloc (Nat.le_refl _) _)
  obtain ⟨_, c0, c1, c2⟩ := hbx
  have hsz : w.heap.size ≤ W0.heap.size := hb0.size
  have Hb0 := Lib.hid hb0
  have Hx := Lib.hid hx
  clear hX hb0 hx
  go_enter Try.func21, Try.ntmps21
  go_wp2_with fail
  clear hmk c0 c1 c2
  obtain ⟨gr, hgr⟩ : ∃ g, W0.heap.size = g := ⟨_, rfl⟩
  rw [hgr] at Hz hsz Hb ⊢
  generalize W0.alloc (.cells (madeCells #[.int .i64 0] N) 3) = V at *
  have Hgr := Lib.hid hgr
  clear hW0 hgr
  go_loopw [12] (fun tv wr => ∃ i : Nat, i ≤ N ∧ tv = .int .i64 (i : Nat) ∧ Hid (VAt wr gr N (fun s => if s < i then vecB xs s else 0)) ∧ Hid (Below gr W0 wr)) (fun tv _ => N - (intOf tv).toNat)
  case atStart => exact ⟨0, by omega, by go_num, Hz, Hb⟩
  case round =>
    clear Hz Hb
    obtain ⟨i, hi, rfl, Hz, Hb⟩ := hrel
    by_cases hil : i < N
    · have i3 : (i : Int) < (N : Int) := by omega
      have i4 : (0 : Int) ≤ (i : Int) := by omega
      by_cases hix : i < xs.length
      · have i5 : (i : Int) < (xs.length : Int) := by omega
        obtain ⟨xb, xo, rfl, hxb, hxc⟩ := ByteAt.cells (HX.out.below (by rw [Hgr.out]; exact Nat.le_refl _) Hb.out) hix
        have y0 := hxc i hix
        have hxl := Hx.out _ (getD_mem xs i 0 hix)
        have hne : vecB xs i = ((xs.getD i 0 % 31 : Nat) : Int) := if_pos hix
        obtain ⟨z0, z1⟩ := Hz.out.2 i hil
        dsimp only at z0
        rw [if_neg (Nat.lt_irrefl i)] at z0
        obtain ⟨y, hy⟩ : ∃ y, xs.getD i 0 = y := ⟨_, rfl⟩
        rw [hy] at y0 hxl hne
        have Hne := Lib.hid hne
        have hyw : IntKind.i64.wrap (y : Int) = (y : Int) := IntWalk.i64_in _ (by omega)
        have hy0 : (0 : Int) ≤ (y : Int) := by omega
        have Hyr : Hid (((y % 31 : Nat) : Int) = (y : Int) % 31) := Lib.hid (by omega)
        have F1 := Lib.hid ((Hz.out.set (k := i) ((y : Int) % 31)).congr (h := fun s => if s < i + 1 then vecB xs s else 0) fun k _ => by
          by_cases e : k = i
          · rw [if_pos e, if_pos (by omega), e, Hne.out, Hyr.out]
          · rw [if_neg e]
            by_cases e2 : k < i
            · rw [if_pos e2, if_pos (by omega)]
            · rw [if_neg e2, if_neg (by omega)])
        have F2 := Lib.hid (Hb.out.setCell (p := ⟨gr, i, none⟩) (Nat.le_refl _) (.int .i64 ((y : Int) % 31)))
        clear hxc hne hy Hz Hb
        go_wp2_with fail
        go_roundw
        case rel => exact ⟨i + 1, by omega, by go_num, F1, F2⟩
        case measure => simp [intOf]; omega
      · have i5 : ¬ (i : Int) < (xs.length : Int) := by omega
        have F1 := Lib.hid (Hz.out.congr (h := fun s => if s < i + 1 then vecB xs s else 0) fun k _ => by
          by_cases e2 : k < i
          · rw [if_pos e2, if_pos (by omega)]
          · rw [if_neg e2]
            by_cases e : k = i
            · rw [if_pos (by omega), e]; exact (if_neg hix).symm
            · rw [if_neg (by omega)])
        clear Hz
        go_wp2_with fail
        go_roundw
        case rel => exact ⟨i + 1, by omega, by go_num, F1, Hb⟩
        case measure => simp [intOf]; omega
    · have i3 : ¬ (i : Int) < (N : Int) := by omega
      have hie : i = N := by omega
      rw [hie] at Hz
      have Hz2 := Lib.hid (Hz.out.congr (h := vecB xs) fun s hs => if_pos hs)
      clear hie Hz
      go_wp2
      go_ret
      exact ⟨gr, rfl, Hz2.out, hsz, Hb0.out.trans (Hb.out.mono hsz)⟩
set_option maxRecDepth 100000 in
theorem lawNz_any (x : Int) (w : World) : Calls Try.prog 61 #[.int .i64 x] w (RetB (x != 0) w) := by
  go_enter Try.func61, Try.ntmps61
  go_wp2
  go_ret
  exact ⟨rfl, Below.refl _ _⟩
set_option maxRecDepth 100000 in
theorem lawZero_any (n : Nat) (p : Option Addr) (c : Nat) (f : Nat → Int) (hn : n ≤ 1000000) (w : World) (hV : VRow w p n f) :
    Calls Try.prog 26 #[.slice p n c] w (RetB (!anyN (fun k => f k != 0) n) w) := by
  have HC := Lib.hid (containsFn_i n p c f 61 #[] (fun k => f k != 0) w (enters_of Try.func61 (by kernel_rfl) rfl) (by omega) hV (fun k W _ _ => lawNz_any (f k) W))
  obtain ⟨b, hb⟩ : ∃ b, anyN (fun k => f k != 0) n = b := ⟨_, rfl⟩
  rw [hb] at HC ⊢
  clear hb hV
  go_enter Try.func26, Try.ntmps26
  go_wp2_with fail
  refine HC.out.mono ?_
  rintro e w2 ⟨rfl, hb⟩
  dsimp only
  have Hb := Lib.hid hb
  clear hb
  go_wp2
  go_ret
  exact ⟨rfl, Hb.out⟩
set_option maxRecDepth 100000 in
set_option maxHeartbeats 4000000 in
theorem below_any (n : Nat) (f g : Nat → Int) (pa pb : Option Addr) (ca cb : Nat) (hn : n ≤ 1000000) (w : World) (hA : VRow w pa n f) (hB : VRow w pb n g) :
    Calls Try.prog 24 #[.slice pa n ca, .slice pb n cb] w (RetB (!anyN (fun k => decide (g k < f k)) n) w) := by
  have HA := Lib.hid hA
  have HB := Lib.hid hB
  have nn : ((n : Int) != (n : Int)) = false := by simp
  clear hA hB
  go_enter Try.func24, Try.ntmps24
  go_wp2
  go_loopw [13] (fun i wr => ∃ k : Nat, k ≤ n ∧ i = .int .i64 k ∧ Hid (Drawn w wr) ∧ Hid (∀ j, j < k → f j ≤ g j)) (fun i _ => n - (intOf i).toNat)
  case atStart => exact ⟨0, by omega, rfl, Lib.hid (Drawn.refl _), Lib.hid (fun j hj => by omega)⟩
  case round =>
    obtain ⟨k, hk, rfl, Hd, He⟩ := hrel
    by_cases hlt : k < n
    · obtain ⟨ab, ao, rfl, hab, hca⟩ := VRow.cells HA.out hlt
      obtain ⟨bb, bo, rfl, hbb, hcb⟩ := VRow.cells HB.out hlt
      have hxa := hca k hlt
      have hxb := hcb k hlt
      rw [← Hd.out.cell] at hxa hxb
      have i0 : (0 : Int) ≤ (k : Int) := by omega
      have i1 : (k : Int) < (n : Int) := by omega
      have HF := Lib.hid (fun (h : g k < f k) => show anyN (fun k => decide (g k < f k)) n = true from anyN_true.2 ⟨k, hlt, decide_eq_true h⟩)
      have HE := Lib.hid (fun (h : f k ≤ g k) (j : Nat) (hj : j < k + 1) => show f j ≤ g j from by
        by_cases e : j = k
        · rw [e]; exact h
        · exact He.out j (by omega))
      obtain ⟨x, hx⟩ : ∃ x, f k = x := ⟨_, rfl⟩
      obtain ⟨y, hy⟩ : ∃ x, g k = x := ⟨_, rfl⟩
      rw [hx, hy] at HE HF
      rw [hx] at hxa
      rw [hy] at hxb
      clear hca hcb hx hy He
      by_cases hc : y < x
      · have HF2 := Lib.hid (HF.out hc)
        clear HE HF
        go_wp2_with fail
        go_quiet (fail)
        go_wp2
        go_ret
        exact ⟨by rw [HF2.out]; rfl, (Hd.out.drewN _).below _⟩
      · have HE2 := Lib.hid (HE.out (by omega))
        clear HE HF
        go_wp2_with fail
        go_quiet (fail)
        go_wp2
        go_roundw
        case rel => exact ⟨k + 1, by omega, by go_num, Lib.hid (Hd.out.drewN _), HE2⟩
        case measure => simp [intOf]; omega
    · have HF : Hid (anyN (fun k => decide (g k < f k)) n = false) := Lib.hid (anyN_false.2 fun j hj => decide_eq_false (by have := He.out j (by omega); omega))
      go_wp2
      go_ret
      exact ⟨by rw [HF.out]; rfl, Hd.out.below _⟩
end Go.Proofs.Ytlaoijfphkhchaa
