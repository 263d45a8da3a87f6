/- groovetop.top31Sample, top31Awake, top31Fine. -/
import Derived.Test.YtcafeffgaokiaaaK33
import Derived.Test.YtcafeffgaokiaaaK42
namespace Go.Proofs.Ytcafeffgaokiaaa
open Go.RowKit Go.Maps Go.Lib Go.Sort
/-- The example: an encoder that writes its last input. -/
def mS : EM := { r := 2, L := fun _ => 2, T := fun _ k => (k : Int), D := fun s _ => if s = 0 then ⟨#[48]⟩ else ⟨#[49]⟩ }
theorem mS_fit : mS.Fit := ⟨by decide, fun i _ => ⟨by show 2 ≤ _; decide, fun k _ => by show (if i = 0 then (⟨#[48]⟩ : ByteArray) else ⟨#[49]⟩).size ≤ _; split <;> decide⟩⟩
theorem mS_check : encCheck 2 ((1 : Nat) : Int) ((2 : Nat) : Int) mS = 0 := by decide +kernel
theorem mS_small : manyP mS.r 2 1 = false ∧ manyP mS.r 2 2 = false := by decide +kernel
theorem mS_ok : mS.Ok 2 1 := (encCheck_ok mS_check).2.2.2.2.1
theorem mS_00 : ¬ Cons (pathE mS 0 1) := fun h => by
  have := h ⟨#[48]⟩ 0 1 ((pathE_mem mS_ok (by decide) _).2 ⟨0, [0], by decide, rfl, by decide, by decide +kernel⟩) ((pathE_mem mS_ok (by decide) _).2 ⟨0, [1], by decide, rfl, by decide, by decide +kernel⟩)
  cases this
theorem mS_10 : ¬ Cons (pathE mS 1 2) := fun h => by
  have := h ⟨#[48, 48]⟩ 0 1 ((pathE_mem mS_ok (by decide) _).2 ⟨0, [0, 0], by decide, rfl, by decide, by decide +kernel⟩) ((pathE_mem mS_ok (by decide) _).2 ⟨0, [0, 1], by decide, rfl, by decide, by decide +kernel⟩)
  cases this
theorem mS_01 : Cons (pathE mS 0 2) := by
  have h : ∀ x ∈ pathE mS 0 2, ∀ y ∈ pathE mS 0 2, x.1 = y.1 → x.2 = y.2 := by decide +kernel
  exact fun w i j hi hj => h _ hi _ hj rfl
theorem mS_search {lo : Nat} {e : Ending} {w' : World} (h : SearchPost lo 2 1 2 mS 2 e w') : ∃ (es : List Ent) (a : Option Addr) (cap : Nat), e = .returned (.tuple #[decV 2 1 2 0 1 (.slice a es.length cap), .int .i64 0]) ∧ EntsAt w' a es ∧ Built (pathE mS 0 2) es := by
  have hno : ∀ n f, NoneB 2 mS n f → (1 < n ∨ n = 1 ∧ 1 < f) → False := fun n f h hnf => by
    rcases hnf with hn | ⟨hn, hf⟩
    · exact (h.1 1 1 (by omega) (by omega)).2 mS_01
    · have := (h.2 1 (by omega)).2; rw [hn] at this; exact this mS_01
  rcases h with ⟨h1, _⟩ | ⟨n, f, hn, hf, h1, h2, _⟩ | ⟨n, f, hn, hf, h1, h2, h3, es, a, cap, rfl, hE, hB, _⟩
  · exact (hno _ _ h1 (.inl (by omega))).elim
  · have : n = 0 ∨ n = 1 ∨ n = 2 := by omega
    rcases this with rfl | rfl | rfl
    · rw [mS_small.1] at h2; cases h2
    · rw [mS_small.2] at h2; cases h2
    · exact (hno _ _ h1 (.inl (by omega))).elim
  · have : n = 0 ∨ n = 1 ∨ n = 2 := by omega
    rcases this with rfl | rfl | rfl
    · obtain rfl : f = 0 := by omega
      exact (mS_00 h3).elim
    · have : f = 0 ∨ f = 1 := by omega
      rcases this with rfl | rfl
      · exact (mS_10 h3).elim
      · exact ⟨es, a, cap, rfl, hE, hB⟩
    · exact (hno _ _ h1 (.inl (by omega))).elim
set_option maxHeartbeats 1000000 in
theorem sample_any (w : World) :
    Calls Try.prog 30 #[] w fun e w' => ∃ q, e = .returned (.agg #[.int .i64 2, .int .i64 1, .int .i64 2, .slice q 2 2]) ∧ mS.At w' q ∧ Below w.heap.size w w' := by
  go_enter Try.func30, Try.ntmps30
  go_wp2
  refine bodyPost_ret (v := .agg #[.int .i64 2, .int .i64 1, .int .i64 2, .slice (some ⟨w.heap.size + 1 + 1 + 1, 0, none⟩) 2 2]) (by simp [results, Try.results30, go_sem]) rfl ⟨some ⟨w.heap.size + 1 + 1 + 1, 0, none⟩, rfl, ?_, ?_⟩
  · obtain ⟨a1, a2, a3, a4⟩ := alloc3 (w.alloc (.cells #[.int .i64 2, .int .i64 1, .int .i64 2, .slice (some ⟨w.heap.size + 1 + 1 + 1, 0, none⟩) 2 2] 24)) (.cells #[.int .i64 0, .string ⟨#[48]⟩, .int .i64 1, .string ⟨#[48]⟩] 84) (.cells #[.int .i64 0, .string ⟨#[49]⟩, .int .i64 1, .string ⟨#[49]⟩] 84) (.cells #[.slice (some ⟨w.heap.size + 1, 0, none⟩) 2 2, .slice (some ⟨w.heap.size + 1 + 1, 0, none⟩) 2 2] 82)
    rw [World.size_alloc w] at a1 a2 a3 a4
    generalize ((((w.alloc _).alloc _).alloc _).alloc _ : World) = Z at a1 a2 a3 a4 ⊢
    refine ⟨fun i => if i = 0 then (some ⟨w.heap.size + 1, 0, none⟩, 2) else (some ⟨w.heap.size + 1 + 1, 0, none⟩, 2), .inr ⟨w.heap.size + 1 + 1 + 1, 0, rfl, by rw [a4]; omega, fun i hi j hj => ?_⟩, fun i hi => ?_⟩
    · have hi' : i < 2 := hi
      match i, j, hi', hj with
      | 0, 0, _, _ => exact (cell_of_row _ _ _ _ _ _ a3).trans rfl
      | 1, 0, _, _ => exact (cell_of_row _ _ _ _ _ _ a3).trans rfl
    · have hi' : i < 2 := hi
      match i, hi' with
      | 0, _ =>
        refine .inr ⟨w.heap.size + 1, 0, rfl, by rw [a4]; omega, fun k hk j hj => ?_⟩
        have hk' : k < 2 := hk
        match k, j, hk', hj with
        | 0, 0, _, _ => exact (cell_of_row _ _ _ _ _ _ a1).trans rfl
        | 0, 1, _, _ => exact (cell_of_row _ _ _ _ _ _ a1).trans rfl
        | 1, 0, _, _ => exact (cell_of_row _ _ _ _ _ _ a1).trans rfl
        | 1, 1, _, _ => exact (cell_of_row _ _ _ _ _ _ a1).trans rfl
      | 1, _ =>
        refine .inr ⟨w.heap.size + 1 + 1, 0, rfl, by rw [a4]; omega, fun k hk j hj => ?_⟩
        have hk' : k < 2 := hk
        match k, j, hk', hj with
        | 0, 0, _, _ => exact (cell_of_row _ _ _ _ _ _ a2).trans rfl
        | 0, 1, _, _ => exact (cell_of_row _ _ _ _ _ _ a2).trans rfl
        | 1, 0, _, _ => exact (cell_of_row _ _ _ _ _ _ a2).trans rfl
        | 1, 1, _, _ => exact (cell_of_row _ _ _ _ _ _ a2).trans rfl
  · exact ((((Below.refl _ _).alloc (Nat.le_refl _) _).alloc (by simp) _).alloc (by simp; omega) _).alloc (by simp; omega) _
theorem wins_small {es : List Ent} {m : EM} {P N : Nat} {l : Int} {B I : Nat} (he : encCheck l (B : Int) (I : Int) m = 0) (hPN : P < N) (hN : N ≤ 16) (hb : Built (pathE m P N) es) : WinsFit es := fun x hx => by
  obtain ⟨hl, hB, hI, hr, hok, hwd⟩ := encCheck_ok he
  rw [Int.toNat_natCast, Int.toNat_natCast] at hok
  obtain ⟨y, hy, rfl⟩ := (hb.1 x).1 hx
  have := (path_small hok hPN hN (by omega) (by omega) hy).1
  exact this
theorem mS_bound {es : List Ent} (hb : Built (pathE mS 0 2) es) : boundErr 2 1 2 0 1 es = 0 ∧ boundVal 2 1 2 0 1 es = 2 := by
  have h : decCheck 2 1 2 0 1 es = 0 := (built_check (P := 0) (F := 1) mS_check (by decide) hb mS_small.2).1
  unfold boundErr boundVal
  rw [h]
  decide
set_option maxRecDepth 100000 in
set_option maxHeartbeats 4000000 in
theorem awake3_any (w : World) : Calls Try.prog 8 #[] w fun e w' => e = .returned (.bool true) ∧ Below w.heap.size w w' := by
  go_enter Try.func8, Try.ntmps8
  go_wp2_with fail
  refine (sample_any _).mono ?_; rintro e w1 ⟨q1, rfl, hE1, hb1⟩
  have HE1 := Lib.hid hE1
  have Hb1 := Lib.hid hb1
  clear hE1 hb1
  dsimp only
  go_wp2_with fail
  refine (wsearch_any 2 1 2 mS q1 2 2 w1 HE1.out mS_fit mS_check (by decide)).mono ?_
  rintro e w2 ⟨hp, hb⟩
  obtain ⟨es, a, cap, rfl, hE, hB⟩ := mS_search hp
  unfold decV
  have HE2 := Lib.hid hE
  have HB2 := Lib.hid hB
  have Hb2 := Lib.hid (Hb1.out.trans (hb.mono Hb1.out.size))
  clear hp hE hB hb
  dsimp only
  go_upto_region 2 with (fail)
  obtain ⟨X, hX⟩ : ∃ X, w2.alloc (decO 2 1 2 0 1 (.slice a es.length cap)) = X := ⟨_, rfl⟩
  have hb : Below w2.heap.size w2 X := by rw [← hX]; exact (Below.refl _ _).alloc (Nat.le_refl _) _
  obtain ⟨u, hu⟩ : ∃ x, w2.heap.size = x := ⟨_, rfl⟩
  have hXu : X.heap[u]? = some (decO 2 1 2 0 1 (.slice a es.length cap)) := by rw [← hX, ← hu]; exact World.alloc_heap_new w2 _
  have HE3 := Lib.hid (SlAt.mono HE2.out (Nat.le_refl _) hb : EntsAt X a es)
  have Hb3 := Lib.hid (Hb2.out.trans (hb.mono Hb2.out.size))
  have HXu := Lib.hid hXu
  obtain ⟨⟨z0, z1, z2, z3, z4, z5⟩, _, _, _, _, _, _⟩ := cells_decO hXu
  unfold decO at hX
  rw [hX, hu]
  clear hX hb hXu
  obtain ⟨bd1, bd2⟩ := mS_bound HB2.out
  go_wp2_with fail
  refine (bound_any 2 1 2 0 1 es a cap X HE3.out (wins_small mS_check (by decide) (by decide) HB2.out)).mono ?_
  rintro e w3 ⟨rfl, hb⟩
  rw [bd1, bd2]
  have h3u := (hb.block u (Array.getElem?_eq_some_iff.1 HXu.out).1).trans HXu.out
  obtain ⟨⟨y0, y1, y2, y3, y4, y5⟩, _, _, _, _, _, _⟩ := cells_decO h3u
  have Hb4 := Lib.hid (Hb3.out.trans (hb.mono Hb3.out.size))
  clear hb h3u bd1 bd2 z0 z1 z2 z3 z4 z5
  go_wp2
  go_ret
  exact ⟨rfl, Hb4.out⟩
end Go.Proofs.Ytcafeffgaokiaaa
