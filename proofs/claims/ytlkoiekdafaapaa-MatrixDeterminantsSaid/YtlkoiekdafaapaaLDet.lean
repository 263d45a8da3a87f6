/- MatrixDeterminants: the walk. -/
import Derived.Test.YtlkoiekdafaapaaSms
import Derived.Test.YtlkoiekdafaapaaFin
import Derived.Test.YtlkoiekdafaapaaGdA
namespace Go.Proofs.Ytlkoiekdafaapaa
open Go.RowKit Go.Shelf

/-- The answer's number: 0 where there is an error. -/
def numE (E : Int) (n : Int) : ZI := if E = 0 then canon n else ⟨false, ⟨#[]⟩⟩
def RetN (E : Int) (z : ZI) (w : World) (e : Ending) (w' : World) : Prop := e = .returned (.tuple #[.agg #[.bool z.neg, .string z.mag], .int .i64 E]) ∧ Below w.heap.size w w'
theorem RetNumE.ans {E n m : Int} {w w' : World} {e : Ending} (h : RetNumE E n w e w') (hnm : E = 0 → n = m) : RetN E (numE E m) w e w' := by
  obtain ⟨hb, h⟩ := h
  rcases h with ⟨rfl, rfl⟩ | ⟨h0, rfl⟩
  · rw [hnm rfl]
    exact ⟨rfl, hb⟩
  · rw [show numE E m = ⟨false, ⟨#[]⟩⟩ from if_neg h0]
    exact ⟨rfl, hb⟩
theorem RetMatE.congr {E : Int} {r c : Nat} {F G : Nat → Nat → Int} {w w' : World} {e : Ending} (h : RetMatE E r c F w e w') (hg : E = 0 → ∀ i k, i < r → k < c → F i k = G i k) : RetMatE E r c G w e w' := by
  obtain ⟨hb, h⟩ := h
  rcases h with ⟨rfl, q, k, rfl, hM⟩ | h
  · exact ⟨hb, .inl ⟨rfl, q, k, rfl, hM.congr (hg rfl)⟩⟩
  · exact ⟨hb, .inr h⟩
theorem RetRowE.congr {E : Int} {n : Nat} {f g : Nat → Int} {w w' : World} {e : Ending} (h : RetRowE E n f w e w') (hg : E = 0 → ∀ k, k < n → f k = g k) : RetRowE E n g w e w' := by
  obtain ⟨hb, h⟩ := h
  rcases h with ⟨rfl, q, k, rfl, hM⟩ | h
  · exact ⟨hb, .inl ⟨rfl, q, k, rfl, hM.congr (hg rfl)⟩⟩
  · exact ⟨hb, .inr h⟩
theorem detC_of {n : Nat} (h1 : 0 < n) (h4 : n ≤ 4) (A : Nat → Nat → Int) : detC n A = detL n A := by
  unfold detC
  rw [chrP_zero h1, chr_det n h1 h4]
  unfold sgF
  split <;> omega
theorem adjC_of {n : Nat} (h1 : 0 < n) (h4 : n ≤ 4) (A : Nat → Nat → Int) (i k : Nat) (hi : i < n) (hk : k < n) : adjC n A i k = adjL n A i k := by
  unfold adjC
  rw [chr_adj n h1 h4 A i k hi hk]
  unfold sgF
  split <;> split <;> omega
set_option maxRecDepth 100000 in
set_option maxHeartbeats 8000000 in
theorem lawDet (a : GM) (pa : Option Addr) (ca : Nat) (w : World) (ha : a.In w pa) :
    Calls Try.prog 4 #[.slice pa a.r ca] w (RetB true w) := by
  have HGa := Lib.hid (fun (W : World) (hW : Below w.heap.size w W) => great_any a pa ca ha.r ha.z W (ha.at'.below (Nat.le_refl _) hW))
  have HB : Hid (∀ W, Below w.heap.size w W → a.At W pa) := Lib.hid (fun W hW => ha.at'.below (Nat.le_refl _) hW)
  clear ha
  by_cases fa : a.gt = false
  rotate_left 1
  · rw [Bool.not_eq_false] at fa
    rw [fa] at HGa
    clear HB fa
    generalize a.r = na at *
    have Hbb : Hid (Below w.heap.size w w) := Lib.hid (Below.refl _ _)
    go_enter Try.func4, Try.ntmps4
    go_wp2_with fail
    refine (HGa.out _ Hbb.out).mono ?_
    rintro e y1 ⟨rfl, hbc⟩
    dsimp only
    have Hbb := Lib.hid (Hbb.out.trans (hbc.mono Hbb.out.size))
    clear hbc
    go_wp2_with fail
    refine (awake_any _).mono ?_
    rintro e y2 ⟨rfl, hbc⟩
    dsimp only
    have Hbb := Lib.hid (Hbb.out.trans (hbc.mono Hbb.out.size))
    clear hbc
    go_wp2
    go_ret
    exact ⟨rfl, Hbb.out⟩
  rw [fa] at HGa
  obtain ⟨ffa, _, _⟩ := GM.gt_fit fa
  have hs : a.sq = 0 → 0 < a.r ∧ a.r ≤ 4 ∧ BnM a.r a.r a.F 24 := fun h => by
    obtain ⟨h4, h5, h6, h7⟩ := GM.sq_zero h
    obtain ⟨x0, x1, _, _, x2⟩ := gt_says fa h4
    rw [← h5] at x2
    exact ⟨x0, x1, x2⟩
  have hq : a.sq = 0 → DetQ a.r a.F := fun h => by
    obtain ⟨x0, x1, x2⟩ := hs h
    have h6 : a.r * (24 + 2) ≤ 4 * (24 + 2) := Nat.mul_le_mul_right _ x1
    have h7 : a.r * 2 ≤ 4 * 2 := Nat.mul_le_mul_right _ x1
    exact ⟨24, 2, two_pow x1, x2, by omega⟩
  have hc : a.sq = 0 → ChrOk a.r a.F := fun h => by
    obtain ⟨x0, x1, x2⟩ := hs h
    exact chr_sq x1 x2 (by decide)
  have HD1 := Lib.hid (fun W (hW : Below w.heap.size w W) => (det_any a pa ca ffa hc W (HB.out W hW)).mono fun _ _ h => h.ans (m := detL a.r a.F) (fun h0 => detC_of (hs h0).1 (hs h0).2.1 a.F))
  have HD2 := Lib.hid (fun W (hW : Below w.heap.size w W) => (refDet_m a pa ca ffa hq W (HB.out W hW)).mono fun _ _ h => h.ans (m := detL a.r a.F) (fun _ => rfl))
  have HA1 := Lib.hid (fun W (hW : Below w.heap.size w W) => (adj_any a pa ca ffa hc W (HB.out W hW)).mono fun _ _ h => (h.congr (G := adjL a.r a.F) (fun h0 => adjC_of (hs h0).1 (hs h0).2.1 a.F)).ans)
  have HA2 := Lib.hid (fun W (hW : Below w.heap.size w W) => (refAdj_m a pa ca ffa hq W (HB.out W hW)).mono fun _ _ h => h.ans)
  have HC1 := Lib.hid (fun W (hW : Below w.heap.size w W) => (charac_any a pa ca ffa hc W (HB.out W hW)).mono fun _ _ h => (h.congr (g := fun k => sgF (a.r - k) (minS a.r a.F (a.r - k) 0 [])) (fun h0 k hk => minS_top a.r (hs h0).1 (hs h0).2.1 a.F k (by omega))).ans)
  have HC2 := Lib.hid (fun W (hW : Below w.heap.size w W) => (refChr_m a pa ca ffa hq W (HB.out W hW)).mono fun _ _ h => h.ans)
  have z1 := rowsE_le (E := a.sq) (n := a.r) (fun h => by have := hs h; omega)
  have z2 := rowsE_le (E := a.sq) (n := a.r + 1) (fun h => by have := hs h; omega)
  clear HB fa ffa hs hq hc
  generalize numE a.sq (detL a.r a.F) = ZZ at *
  generalize rowsE a.sq a.r = r1 at *
  generalize rowsE a.sq (a.r + 1) = r2 at *
  generalize adjL a.r a.F = DA at *
  generalize (fun k => sgF (a.r - k) (minS a.r a.F (a.r - k) 0 [])) = DC at *
  generalize a.sq = E at *
  generalize a.r = na at *
  have Hbb : Hid (Below w.heap.size w w) := Lib.hid (Below.refl _ _)
  go_enter Try.func4, Try.ntmps4
  go_wp2_with fail
  refine (HGa.out _ Hbb.out).mono ?_
  rintro e y1 ⟨rfl, hbc⟩
  dsimp only
  have Hbb := Lib.hid (Hbb.out.trans (hbc.mono Hbb.out.size))
  clear hbc
  clear HGa
  go_wp2_with fail
  refine (HD1.out _ Hbb.out).mono ?_
  rintro e y2 ⟨rfl, hbc⟩
  dsimp only
  have Hbb := Lib.hid (Hbb.out.trans (hbc.mono Hbb.out.size))
  clear hbc
  have hbc := (Below.refl y2.heap.size y2).alloc (Nat.le_refl _) (.cells #[.bool ZZ.neg, .string ZZ.mag] 27)
  have BA := Lib.hid (BoxAt.new y2 (.bool ZZ.neg) (.string ZZ.mag) 27)
  have Hbb := Lib.hid (Hbb.out.trans (hbc.mono Hbb.out.size))
  clear hbc
  go_wp2_with fail
  obtain ⟨gA, hgg⟩ : ∃ g, y2.heap.size = g := ⟨_, rfl⟩
  rw [hgg] at BA ⊢
  clear hgg
  generalize y2.alloc (.cells #[.bool ZZ.neg, .string ZZ.mag] 27) = y3 at *
  refine (HD2.out _ Hbb.out).mono ?_
  rintro e y4 ⟨rfl, hbc⟩
  dsimp only
  have BA := Lib.hid (BA.out.below hbc BA.out.2.2.2.2)
  have Hbb := Lib.hid (Hbb.out.trans (hbc.mono Hbb.out.size))
  clear hbc
  have hbc := (Below.refl y4.heap.size y4).alloc (Nat.le_refl _) (.cells #[.bool ZZ.neg, .string ZZ.mag] 27)
  have BB := Lib.hid (BoxAt.new y4 (.bool ZZ.neg) (.string ZZ.mag) 27)
  have BA := Lib.hid (BA.out.below hbc BA.out.2.2.2.2)
  have Hbb := Lib.hid (Hbb.out.trans (hbc.mono Hbb.out.size))
  clear hbc
  go_wp2_with fail
  obtain ⟨gB, hgg⟩ : ∃ g, y4.heap.size = g := ⟨_, rfl⟩
  rw [hgg] at BB ⊢
  clear hgg
  generalize y4.alloc (.cells #[.bool ZZ.neg, .string ZZ.mag] 27) = y5 at *
  clear HD1 HD2
  refine (HA1.out _ Hbb.out).mono ?_
  rintro e y6 ⟨v3, rfl, hsc, hbc⟩
  dsimp only
  have BA := Lib.hid (BA.out.below hbc BA.out.2.2.2.2)
  have BB := Lib.hid (BB.out.below hbc BB.out.2.2.2.2)
  have Hbb := Lib.hid (Hbb.out.trans (hbc.mono Hbb.out.size))
  have S3 := Lib.hid hsc
  clear hbc hsc
  go_wp2_with fail
  refine (HA2.out _ Hbb.out).mono ?_
  rintro e y7 ⟨v4, rfl, hsc, hbc⟩
  dsimp only
  have BA := Lib.hid (BA.out.below hbc BA.out.2.2.2.2)
  have BB := Lib.hid (BB.out.below hbc BB.out.2.2.2.2)
  have S3 := Lib.hid (S3.out.below hbc)
  have Hbb := Lib.hid (Hbb.out.trans (hbc.mono Hbb.out.size))
  have S4 := Lib.hid hsc
  clear hbc hsc
  go_wp2_with fail
  refine (HC1.out _ Hbb.out).mono ?_
  rintro e y8 ⟨v5, rfl, hsc, hbc⟩
  dsimp only
  have BA := Lib.hid (BA.out.below hbc BA.out.2.2.2.2)
  have BB := Lib.hid (BB.out.below hbc BB.out.2.2.2.2)
  have S3 := Lib.hid (S3.out.below hbc)
  have S4 := Lib.hid (S4.out.below hbc)
  have Hbb := Lib.hid (Hbb.out.trans (hbc.mono Hbb.out.size))
  have S5 := Lib.hid hsc
  clear hbc hsc
  go_wp2_with fail
  refine (HC2.out _ Hbb.out).mono ?_
  rintro e y9 ⟨v6, rfl, hsc, hbc⟩
  dsimp only
  have BA := Lib.hid (BA.out.below hbc BA.out.2.2.2.2)
  have BB := Lib.hid (BB.out.below hbc BB.out.2.2.2.2)
  have S3 := Lib.hid (S3.out.below hbc)
  have S4 := Lib.hid (S4.out.below hbc)
  have S5 := Lib.hid (S5.out.below hbc)
  have Hbb := Lib.hid (Hbb.out.trans (hbc.mono Hbb.out.size))
  have S6 := Lib.hid hsc
  clear hbc hsc
  clear HA1 HA2 HC1 HC2
  obtain ⟨a1, a2, _, _, _⟩ := BA.out
  obtain ⟨b1, b2, _, _, _⟩ := BB.out
  go_wp2_with fail
  refine (ans_same S3.out S4.out z1 z1).mono ?_
  rintro e y10 ⟨rfl, hbc⟩
  dsimp only
  have BA := Lib.hid (BA.out.below hbc BA.out.2.2.2.2)
  have BB := Lib.hid (BB.out.below hbc BB.out.2.2.2.2)
  have S3 := Lib.hid (S3.out.below hbc)
  have S4 := Lib.hid (S4.out.below hbc)
  have S5 := Lib.hid (S5.out.below hbc)
  have S6 := Lib.hid (S6.out.below hbc)
  have Hbb := Lib.hid (Hbb.out.trans (hbc.mono Hbb.out.size))
  clear hbc S3 S4
  go_wp2_with fail
  refine (ans_sameRow S5.out S6.out z2).mono ?_
  rintro e y11 ⟨rfl, hbc⟩
  dsimp only
  have BA := Lib.hid (BA.out.below hbc BA.out.2.2.2.2)
  have BB := Lib.hid (BB.out.below hbc BB.out.2.2.2.2)
  have S5 := Lib.hid (S5.out.below hbc)
  have S6 := Lib.hid (S6.out.below hbc)
  have Hbb := Lib.hid (Hbb.out.trans (hbc.mono Hbb.out.size))
  clear hbc S5 S6
  go_wp2_with fail
  refine (awake_any _).mono ?_
  rintro e y12 ⟨rfl, hbc⟩
  dsimp only
  have BA := Lib.hid (BA.out.below hbc BA.out.2.2.2.2)
  have BB := Lib.hid (BB.out.below hbc BB.out.2.2.2.2)
  have Hbb := Lib.hid (Hbb.out.trans (hbc.mono Hbb.out.size))
  clear hbc
  go_wp2
  go_ret
  exact ⟨rfl, Hbb.out⟩
end Go.Proofs.Ytlkoiekdafaapaa
