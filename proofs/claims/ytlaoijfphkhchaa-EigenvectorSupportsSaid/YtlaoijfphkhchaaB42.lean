/- slices.Equal of two lists of numbers that read alike. groovelaw23: example, awake. -/
import Derived.Test.YtlaoijfphkhchaaB7
import Derived.Test.YtlaoijfphkhchaaB16
import Derived.Test.YtlaoijfphkhchaaB33
import Derived.Test.YtlaoijfphkhchaaB41
namespace Go.Proofs.Ytlaoijfphkhchaa
open Go.RowKit Go.Shelf
set_option maxRecDepth 100000 in
set_option maxHeartbeats 2000000 in
theorem sameZs_any (n : Nat) (f : Nat → Int) (pa pb : Option Addr) (ca cb : Nat) (w : World) (hA : RowF w pa n f) (hB : RowF w pb n f) (hn : n < 1000000000000) :
    Calls Try.prog 42 #[.slice pa n ca, .slice pb n cb] w fun e w' => e = .returned (.bool true) ∧ Below w.heap.size w w' := by
  have HA := Lib.hid hA
  have HB := Lib.hid hB
  clear hA hB
  go_enter Try.func42, Try.ntmps42
  go_wp2
  go_loopw [13] (fun i wr => ∃ k : Nat, k ≤ n ∧ i = .int .i64 k ∧ Hid (Below w.heap.size w wr)) (fun i _ => n - (intOf i).toNat)
  case atStart => exact ⟨0, by omega, rfl, Lib.hid (Below.refl _ _)⟩
  case round =>
    obtain ⟨k, hk, rfl, Hd⟩ := hrel
    by_cases hlt : k < n
    · obtain ⟨ab, ao, rfl, hab, hca⟩ := RowF.cells (HA.out.below (Nat.le_refl _) Hd.out) hlt
      obtain ⟨bb, bo, rfl, hbb, hcb⟩ := RowF.cells (HB.out.below (Nat.le_refl _) Hd.out) hlt
      obtain ⟨a1, a2⟩ := hca k hlt
      obtain ⟨b1, b2⟩ := hcb k hlt
      obtain ⟨x, hx⟩ : ∃ x, canon (f k) = x := ⟨_, rfl⟩
      rw [hx] at a1 a2 b1 b2
      have i0 : (0 : Int) ≤ (k : Int) := by omega
      have i1 : (k : Int) < (n : Int) := by omega
      clear hca hcb hx
      go_wp2_with fail
      go_quiet (fail)
      go_wp2
      go_roundw
      case rel => exact ⟨k + 1, by omega, by go_num, Lib.hid (below_dr Hd.out)⟩
      case measure => simp [intOf]; omega
    · have i1 : ¬ (k : Int) < (n : Int) := by omega
      go_wp2
      go_ret
      exact ⟨rfl, Hd.out⟩
end Go.Proofs.Ytlaoijfphkhchaa
namespace Go.Proofs.Ytlaoijfphkhchaa
open Go.RowKit Go.Shelf
/-- The edges of the example. -/
def exE (i j : Nat) : Int := ([[0, 0, 0], [0, 1, 0], [0, 2, 0], [0, 3, 1], [0, 4, 1], [1, 0, 0], [1, 1, 0], [1, 2, 1]].getD i []).getD j 0
def exV (s : Nat) : Int := if s = 0 then 2 else 1
def exR (s : Nat) : Int := if s = 0 then 6 else 4
theorem ex_cells (V : World) (i j : Nat) (hi : i < 8) (hj : j < 3) : (V.alloc (.cells #[.int .i64 0, .int .i64 0, .int .i64 0, .int .i64 0, .int .i64 1, .int .i64 0, .int .i64 0, .int .i64 2, .int .i64 0, .int .i64 0, .int .i64 3, .int .i64 1, .int .i64 0, .int .i64 4, .int .i64 1, .int .i64 1, .int .i64 0, .int .i64 0, .int .i64 1, .int .i64 1, .int .i64 0, .int .i64 1, .int .i64 2, .int .i64 1] 97)).cell? ⟨V.heap.size, i * 3 + j, none⟩ = some (edC exE i j) := by
  rw [World.cell?_alloc_new]
  have : ∀ i, i < 8 → ∀ j, j < 3 → (#[.int .i64 0, .int .i64 0, .int .i64 0, .int .i64 0, .int .i64 1, .int .i64 0, .int .i64 0, .int .i64 2, .int .i64 0, .int .i64 0, .int .i64 3, .int .i64 1, .int .i64 0, .int .i64 4, .int .i64 1, .int .i64 1, .int .i64 0, .int .i64 0, .int .i64 1, .int .i64 1, .int .i64 0, .int .i64 1, .int .i64 2, .int .i64 1] : Array Value)[i * 3 + j]? = some (edC exE i j) := by
    intro i hi j hj
    match i, hi with
    | 0, _ => match j, hj with | 0, _ => rfl | 1, _ => rfl | 2, _ => rfl
    | 1, _ => match j, hj with | 0, _ => rfl | 1, _ => rfl | 2, _ => rfl
    | 2, _ => match j, hj with | 0, _ => rfl | 1, _ => rfl | 2, _ => rfl
    | 3, _ => match j, hj with | 0, _ => rfl | 1, _ => rfl | 2, _ => rfl
    | 4, _ => match j, hj with | 0, _ => rfl | 1, _ => rfl | 2, _ => rfl
    | 5, _ => match j, hj with | 0, _ => rfl | 1, _ => rfl | 2, _ => rfl
    | 6, _ => match j, hj with | 0, _ => rfl | 1, _ => rfl | 2, _ => rfl
    | 7, _ => match j, hj with | 0, _ => rfl | 1, _ => rfl | 2, _ => rfl
  exact this i hi j hj
set_option maxRecDepth 100000 in
theorem example_any (w : World) : Calls Try.prog 56 #[] w fun e w' => ∃ g, e = .returned (.agg #[.int .i64 5, .int .i64 2, .slice (some ⟨g, 0, none⟩) 8 8]) ∧ EdgAt w' (some ⟨g, 0, none⟩) 8 exE ∧ Below w.heap.size w w' := by
  go_enter Try.func56, Try.ntmps56
  go_wp2
  refine bodyPost_ret (v := .agg #[.int .i64 5, .int .i64 2, .slice (some ⟨w.heap.size + 1, 0, none⟩) 8 8]) (by simp [results, Try.results56, go_sem]) rfl ?_
  refine ⟨w.heap.size + 1, rfl, .inr ⟨w.heap.size + 1, 0, rfl, by simp, fun i hi j hj => ?_⟩, ((Below.refl _ _).alloc (Nat.le_refl _) _).alloc (by simp) _⟩
  have h9 := ex_cells (w.alloc (.cells #[.int .i64 5, .int .i64 2, .slice (some ⟨w.heap.size + 1, 0, none⟩) 8 8] 24)) i j hi hj
  simpa using h9
theorem ex_chk : gChk 5 (2 : Nat) 8 exE = 0 := by decide +kernel
theorem ex_sm (v : Nat → Int) : smE (frE exE) (toE exE) v 8 0 = 3 * v 0 + 2 * v 1 ∧ smE (frE exE) (toE exE) v 8 1 = 2 * v 0 + v 1 := by
  have f : ∀ e, e < 8 → (frE exE e, toE exE e) = ([(0, 0), (0, 0), (0, 0), (0, 1), (0, 1), (1, 0), (1, 0), (1, 1)] : List (Nat × Nat)).getD e (0, 0) := by decide +kernel
  have f0 := f 0 (by omega); have f1 := f 1 (by omega); have f2 := f 2 (by omega); have f3 := f 3 (by omega)
  have f4 := f 4 (by omega); have f5 := f 5 (by omega); have f6 := f 6 (by omega); have f7 := f 7 (by omega)
  simp only [List.getD_eq_getElem?_getD, List.getElem?_cons_zero, List.getElem?_cons_succ, Option.getD_some, Prod.mk.injEq] at f0 f1 f2 f3 f4 f5 f6 f7
  simp only [smE, dotN, f0.1, f1.1, f2.1, f3.1, f4.1, f5.1, f6.1, f7.1, f0.2, f1.2, f2.2, f3.2, f4.2, f5.2, f6.2, f7.2]
  simp
  omega
theorem ex_hld {v : Nat → Int} (h : Hld (frE exE) (toE exE) 8 2 4 v) : 0 ≤ v 0 ∧ 0 ≤ v 1 ∧ v 0 ≤ 2 * v 1 ∧ 3 * v 1 ≤ 2 * v 0 := by
  have h0 := h 0 (by omega)
  have h1 := h 1 (by omega)
  rw [(ex_sm v).1] at h0
  rw [(ex_sm v).2] at h1
  omega
theorem ex_two : GrO (frE exE) (toE exE) 8 2 4 (fun _ => ((2 : Nat) : Int)) exV := by
  refine ⟨fun s hs => ?_, fun s hs => ?_, fun x hx hl s hs => ?_⟩
  · show exV s ≤ ((2 : Nat) : Int)
    unfold exV; split <;> omega
  · have h := ex_sm exV
    have e0 : exV 0 = 2 := rfl
    have e1 : exV 1 = 1 := rfl
    rw [e0, e1] at h
    match s, hs with
    | 0, _ => rw [h.1, e0]; omega
    | 1, _ => rw [h.2, e1]; omega
  · have h := ex_hld hx
    have l0 : x 0 ≤ ((2 : Nat) : Int) := hl 0 (by omega)
    have l1 : x 1 ≤ ((2 : Nat) : Int) := hl 1 (by omega)
    match s, hs with
    | 0, _ => show x 0 ≤ 2; omega
    | 1, _ => show x 1 ≤ 1; omega
theorem ex_one {u : Nat → Int} (h : GrO (frE exE) (toE exE) 8 2 4 (fun _ => ((1 : Nat) : Int)) u) (s : Nat) (hs : s < 2) : u s = 0 := by
  have h1 := ex_hld h.2.1
  have l0 : u 0 ≤ ((1 : Nat) : Int) := h.1 0 (by omega)
  have l1 : u 1 ≤ ((1 : Nat) : Int) := h.1 1 (by omega)
  match s, hs with
  | 0, _ => omega
  | 1, _ => omega
theorem ex_search {w w' : World} {e : Ending} (h : RetSrch (frE exE) (toE exE) 8 2 4 5 w e w') : Below w.heap.size w w' ∧ ∃ q cq, e = .returned (.tuple #[.slice q 2 cq, .int .i64 0]) ∧ VRow w' q 2 exV := by
  obtain ⟨hb, h⟩ := h
  refine ⟨hb, ?_⟩
  have hn : ¬ ∀ s, s < 2 → exV s = 0 := fun h => by have := h 0 (by omega); cases this
  rcases h with ⟨k, u, q, cq, k1, k2, hu, hz, hk, he, hq⟩ | ⟨hk, _⟩
  · refine ⟨q, cq, he, ?_⟩
    have hk2 : k = 2 := by
      have a1 : k ≠ 1 := fun e => by subst e; exact hz (ex_one hu)
      have a2 : ¬ 2 < k := fun e => hn (hk 2 (by omega) e exV ex_two)
      omega
    subst hk2
    exact hq.row.congr fun s hs => GrO.unique hu ex_two s hs
  · exact absurd (hk 2 (by omega) (by omega) exV ex_two) hn
theorem ex_least {w w' : World} {e : Ending} (h : RetLeast (frE exE) (toE exE) 8 2 4 exV w e w') : Below w.heap.size w w' ∧ ∃ q cq, e = .returned (.tuple #[.slice q 2 cq, .int .i64 0]) ∧ VRow w' q 2 exV := by
  obtain ⟨u, q, cq, hle, hu, ⟨s0, hs0, hne⟩, _, he, hq, hb⟩ := h
  refine ⟨hb, q, cq, he, hq.congr fun s hs => ?_⟩
  have h1 := ex_hld hu
  have l0 : u 0 ≤ 2 := hle 0 (by omega)
  have l1 : u 1 ≤ 1 := hle 1 (by omega)
  have hp : 0 < u 1 := by
    match s0, hs0 with
    | 0, _ => omega
    | 1, _ => omega
  match s, hs with
  | 0, _ => show u 0 = 2; omega
  | 1, _ => show u 1 = 1; omega
theorem ex_ck : ckV (frE exE) (toE exE) 8 2 4 exV = 0 := by decide +kernel
theorem ex_ck1 : ckV (frE exE) (toE exE) 8 2 4 (fun _ => 1) = 23 := by decide +kernel
theorem ex_vc : vChk 5 (2 : Nat) 8 exE (4 : Nat) 2 exV = 0 := by decide +kernel
theorem ex_vc1 : vChk 5 (2 : Nat) 8 exE (4 : Nat) 2 (fun _ => 1) = 0 := by decide +kernel
theorem ex_rf : ∀ s, s < 2 → rfX 2 8 5 exE s = exR s := by decide +kernel
theorem ex_rfs : rfsB (frE exE) (toE exE) 8 2 5 (rfX 2 8 5 exE) = true := by decide +kernel
theorem max3c {P : Program} (ts : Array TypeId) (t : TypeId) (w : World) : (Builtin.max_ ts t #[.int .i64 0, .int .i64 0, .int .i64 0]).run P w = .ok (.int .i64 0) w := by rfl
theorem two_ints (V : World) (a b : Int) (f : Nat → Int) (h0 : f 0 = a) (h1 : f 1 = b) : VRow (V.alloc (.cells #[.int .i64 a, .int .i64 b] 3)) (some ⟨V.heap.size, 0, none⟩) 2 f := by
  refine .inr ⟨_, 0, rfl, by simp, fun i hi j hj => ?_⟩
  have hj0 : j = 0 := by omega
  subst hj0
  match i, hi with
  | 0, _ => simp [h0]
  | 1, _ => simp [h1]
theorem two_zs (V : World) (a b : Int) (f : Nat → Int) (h0 : f 0 = a) (h1 : f 1 = b) : RowF (V.alloc (.cells #[.bool (canon a).neg, .string (canon a).mag, .bool (canon b).neg, .string (canon b).mag] 28)) (some ⟨V.heap.size, 0, none⟩) 2 f := by
  refine .inr ⟨_, 0, rfl, by simp, fun i hi j hj => ?_⟩
  match i, hi with
  | 0, _ =>
    match j, hj with
    | 0, _ => simp [zc, h0]
    | 1, _ => simp [zc, h0]
  | 1, _ =>
    match j, hj with
    | 0, _ => simp [zc, h1]
    | 1, _ => simp [zc, h1]
theorem eq_two {f : Nat → Int} : (!anyN (fun k => f k != f k) 2) = true := by
  rw [anyN_false.2 fun k _ => bne_self_eq_false _]; rfl
set_option maxRecDepth 100000 in
set_option maxHeartbeats 8000000 in
theorem evAwake_any (w : World) : Calls Try.prog 20 #[] w (RetB true w) := by
  have HE := Lib.hid (fun W => example_any W)
  have HS := Lib.hid (show ∀ (W : World) (g : Nat), EdgAt W (some ⟨g, 0, none⟩) 8 exE → Calls Try.prog 30 #[.agg #[.int .i64 5, .int .i64 2, .slice (some ⟨g, 0, none⟩) 8 8], .int .i64 4, .int .i64 5] W (RetSrch (frE exE) (toE exE) 8 2 4 5 W) from fun W g hE =>
    Search_ok 5 2 8 4 5 exE (some ⟨g, 0, none⟩) 8 ex_chk (by decide) (by decide) (by decide) (by decide) (by decide) W hE)
  have HL := Lib.hid (show ∀ (W : World) (g : Nat) (q : Option Addr) (cq : Nat), EdgAt W (some ⟨g, 0, none⟩) 8 exE → VRow W q 2 exV → Calls Try.prog 28 #[.agg #[.int .i64 5, .int .i64 2, .slice (some ⟨g, 0, none⟩) 8 8], .slice q 2 cq, .int .i64 4] W (RetLeast (frE exE) (toE exE) 8 2 4 exV W) from fun W g q cq hE hV =>
    Least_ok 5 2 8 4 exE (some ⟨g, 0, none⟩) 8 exV q cq ex_vc ex_ck W hE hV)
  have HR := Lib.hid (show ∀ (W : World) (g : Nat), EdgAt W (some ⟨g, 0, none⟩) 8 exE → Calls Try.prog 33 #[.agg #[.int .i64 5, .int .i64 2, .slice (some ⟨g, 0, none⟩) 8 8], .int .i64 5] W (RetRf (frE exE) (toE exE) 8 2 5 (rfX 2 8 5 exE) W) from fun W g hE =>
    Refute_ok 5 2 8 5 exE (some ⟨g, 0, none⟩) 8 ex_chk (by decide) (by decide) (by decide) (by decide) W hE)
  have HC := Lib.hid (show ∀ (W : World) (g : Nat) (q : Option Addr) (cq : Nat), EdgAt W (some ⟨g, 0, none⟩) 8 exE → VRow W q 2 (fun _ => 1) → Calls Try.prog 27 #[.agg #[.int .i64 5, .int .i64 2, .slice (some ⟨g, 0, none⟩) 8 8], .slice q 2 cq, .int .i64 4] W (RetInt (ckV (frE exE) (toE exE) 8 2 4 (fun _ => 1)) W) from fun W g q cq hE hV =>
    EvCheck_ok 5 2 8 4 exE (some ⟨g, 0, none⟩) 8 (fun _ => 1) q cq ex_vc1 W hE hV)
  rw [ex_ck1] at HC
  have HO6 := Lib.hid (fun W => of_any 6 (by decide) (by decide) W)
  have HO4 := Lib.hid (fun W => of_any 4 (by decide) (by decide) W)
  have Hb : Hid (Below w.heap.size w w) := Lib.hid (Below.refl _ _)
  have hmax := @max3c Try.prog
  go_enter Try.func20, Try.ntmps20
  go_wp2_with fail
  refine (HE.out _).mono ?_
  rintro e w1 ⟨g1, rfl, hE, hbc⟩
  dsimp only
  have HE1 := Lib.hid hE
  have Hb1 := Lib.hid (Hb.out.trans (hbc.mono Hb.out.size))
  clear hE hbc Hb
  go_wp2_with fail
  refine (HS.out _ g1 HE1.out).mono ?_
  rintro e w2 hr
  obtain ⟨hbc, q1, c1, rfl, hq⟩ := ex_search hr
  dsimp only
  have HQ := Lib.hid hq
  have Hb2 := Lib.hid (Hb1.out.trans (hbc.mono Hb1.out.size))
  clear hr hbc hq HS HE1 Hb1
  go_wp2_with fail
  refine (HE.out _).mono ?_
  rintro e w3 ⟨g2, rfl, hE, hbc⟩
  dsimp only
  have HE2 := Lib.hid hE
  have Hb3 := Lib.hid (Hb2.out.trans (hbc.mono Hb2.out.size))
  have HQ3 := Lib.hid (HQ.out.below (Nat.le_refl _) hbc)
  clear hE hbc Hb2 HQ
  go_wp2_with fail
  refine (HL.out _ g2 q1 c1 HE2.out HQ3.out).mono ?_
  rintro e w4 hr
  obtain ⟨hbc, q2, c2, rfl, hq⟩ := ex_least hr
  dsimp only
  have HL4 := Lib.hid hq
  have HQ4 := Lib.hid (HQ3.out.below (Nat.le_refl _) hbc)
  have Hb4 := Lib.hid (Hb3.out.trans (hbc.mono Hb3.out.size))
  clear hr hbc hq HL HE2 Hb3 HQ3
  go_wp2_with fail
  refine (HE.out _).mono ?_
  rintro e w5 ⟨g3, rfl, hE, hbc⟩
  dsimp only
  have HE3 := Lib.hid hE
  have Hb5 := Lib.hid (Hb4.out.trans (hbc.mono Hb4.out.size))
  have HQ5 := Lib.hid (HQ4.out.below (Nat.le_refl _) hbc)
  have HL5 := Lib.hid (HL4.out.below (Nat.le_refl _) hbc)
  clear hE hbc Hb4 HQ4 HL4
  go_wp2_with fail
  refine (HR.out _ g3 HE3.out).mono ?_
  rintro e w6 ⟨hbc, hr⟩
  rcases hr with ⟨_, gr, rfl, hrow⟩ | ⟨h0, _⟩
  rotate_left 1
  · rw [ex_rfs] at h0; cases h0
  dsimp only
  have HRow := Lib.hid (hrow.congr ex_rf)
  have Hb6 := Lib.hid (Hb5.out.trans (hbc.mono Hb5.out.size))
  have HQ6 := Lib.hid (HQ5.out.below (Nat.le_refl _) hbc)
  have HL6 := Lib.hid (HL5.out.below (Nat.le_refl _) hbc)
  clear hrow hbc Hb5 HQ5 HL5 HR HE3
  go_wp2_with fail
  clear hmax
  have hal := (Below.refl w6.heap.size w6).alloc (Nat.le_refl _) (.cells #[.int .i64 2, .int .i64 1] 3)
  have HEq := Lib.hid (sameV_any 2 exV exV q1 _ c1 2 _ (HQ6.out.below (Nat.le_refl _) hal) (two_ints w6 2 1 exV rfl rfl) (by decide))
  rw [eq_two] at HEq
  have Hal := Lib.hid hal
  clear hal
  refine HEq.out.mono ?_
  rintro e w7 ⟨rfl, hbc⟩
  dsimp only
  have hb67 := Hal.out.trans (hbc.mono Hal.out.size)
  have HQ7 := Lib.hid (HQ6.out.below (Nat.le_refl _) hb67)
  have HL7 := Lib.hid (HL6.out.below (Nat.le_refl _) hb67)
  have HRow7 := Lib.hid (HRow.out.below (Nat.le_refl _) hb67)
  have Hb7 := Lib.hid (Hb6.out.trans (hb67.mono Hb6.out.size))
  clear hbc hb67 HEq Hal HQ6 HL6 HRow Hb6
  have HEq := Lib.hid (sameV_any 2 exV exV q2 q1 c2 c1 _ HL7.out HQ7.out (by decide))
  rw [eq_two] at HEq
  go_wp2_with fail
  refine HEq.out.mono ?_
  rintro e w8 ⟨rfl, hbc⟩
  dsimp only
  have HRow8 := Lib.hid (HRow7.out.below (Nat.le_refl _) hbc)
  have Hb8 := Lib.hid (Hb7.out.trans (hbc.mono Hb7.out.size))
  clear hbc HEq HQ7 HL7 HRow7 Hb7
  go_wp2_with fail
  refine (HO6.out _).mono ?_
  rintro e w9 ⟨rfl, hbc⟩
  dsimp only
  have HRow9 := Lib.hid (HRow8.out.below (Nat.le_refl _) hbc)
  have Hb9 := Lib.hid (Hb8.out.trans (hbc.mono Hb8.out.size))
  clear hbc HRow8 Hb8
  go_wp2_with fail
  refine (HO4.out _).mono ?_
  rintro e w10 ⟨rfl, hbc⟩
  dsimp only
  have HRow10 := Lib.hid (HRow9.out.below (Nat.le_refl _) hbc)
  have Hb10 := Lib.hid (Hb9.out.trans (hbc.mono Hb9.out.size))
  clear hbc HRow9 Hb9
  have hal := (Below.refl w10.heap.size w10).alloc (Nat.le_refl _) (.cells #[.bool (canon 6).neg, .string (canon 6).mag, .bool (canon 4).neg, .string (canon 4).mag] 28)
  have HEq := Lib.hid (sameZs_any 2 exR (some ⟨gr, 0, none⟩) _ 2 2 _ (HRow10.out.below (Nat.le_refl _) hal) (two_zs w10 6 4 exR rfl rfl) (by decide))
  have Hal := Lib.hid hal
  obtain ⟨C6, hC6⟩ : ∃ Z, canon 6 = Z := ⟨_, rfl⟩
  obtain ⟨C4, hC4⟩ : ∃ Z, canon 4 = Z := ⟨_, rfl⟩
  rw [hC6, hC4] at HEq Hal
  try rw [hC6, hC4]
  clear hal hC6 hC4
  go_wp2_with fail
  refine HEq.out.mono ?_
  rintro e w11 ⟨rfl, hbc⟩
  dsimp only
  have hb67 := Hal.out.trans (hbc.mono Hal.out.size)
  have Hb11 := Lib.hid (Hb10.out.trans (hb67.mono Hb10.out.size))
  clear hbc hb67 HEq Hal HRow10 Hb10
  go_wp2_with fail
  refine (HE.out _).mono ?_
  rintro e w12 ⟨g4, rfl, hE, hbc⟩
  dsimp only
  have hal := (Below.refl w12.heap.size w12).alloc (Nat.le_refl _) (.cells #[.int .i64 1, .int .i64 1] 3)
  have HC1 := Lib.hid (HC.out _ g4 _ 2 (hE.mono (Nat.le_refl _) hal) (two_ints w12 1 1 (fun _ => 1) rfl rfl))
  have hb12 := Hb11.out.trans (hbc.mono Hb11.out.size)
  have Hb12 := Lib.hid (hb12.trans (hal.mono hb12.size))
  clear hE hbc hal hb12 HC HE Hb11
  go_wp2_with fail
  refine HC1.out.mono ?_
  rintro e w13 ⟨rfl, hbc⟩
  dsimp only
  have Hb13 := Lib.hid (Hb12.out.trans (hbc.mono Hb12.out.size))
  clear hbc HC1 Hb12
  go_wp2
  go_ret
  exact ⟨rfl, Hb13.out⟩
end Go.Proofs.Ytlaoijfphkhchaa
