/- grooveref03.Print: the walk. What every law's frame needs. What the frames of the tied cards need: a start that meets the condition. A list of numbers, and a list of lists of numbers, that came in. -/
import Derived.Test.YteoemijgdcpopaaDoorE44
import Derived.Test.YteoemijgdcpopaaDoorE41
import Derived.Test.YteoemijgdcpopaaDoorE32
import Derived.Test.YteoemijgdcpopaaDoorRows
import Derived.Test.YteoemijgdcpopaaDoorE0
import Derived.ProofKit
import Derived.OpenShut
import Derived.SizedLaws
import Derived.Deep.Slices
import Derived.Deep.Fields
import Derived.Carry
import Derived.Test.YteoemijgdcpopaaDoorTie
import Derived.Test.YteoemijgdcpopaaDoorCards
import Derived.LaidMore
import Derived.Stop.Joined
import Derived.Test.YteoemijgdcpopaaDoorE8
import Derived.Deep.SlicePairs
namespace Go.Proofs.YteoemijgdcpopaaDoor
open Go.RowKit Go.Shelf
theorem accP_len {m : Nat} {f : Nat → Int} (hm : m < 100) (hf : ∀ k, k < m → (canon (f k)).mag.size ≤ 1000000) : ∀ k, k ≤ m → (accP (desL f m k)).length ≤ (m - k) * 4000000 := by
  intro k hk
  obtain ⟨d, hd⟩ : ∃ d, m - k = d := ⟨_, rfl⟩
  rw [hd]
  induction d generalizing k with
  | zero =>
    obtain rfl : k = m := by omega
    rw [desL_top]; simp [accP]
  | succ d ih =>
    rw [desL_succ f (by omega : k < m), accP_snoc]
    have h1 := ih (k + 1) (by omega) (by omega)
    have h2 : (termL k (f k).natAbs).length ≤ 3 * 1000000 + 6 := by
      have h3 := termL_len (n := k) (v := (f k).natAbs) (k := (canon (f k)).mag.size) (by omega) (by have := absZ_lt (canon (f k)); rwa [absZ_canon] at this)
      have := hf k (by omega)
      omega
    unfold prStep
    split
    · exact Nat.le_trans h1 (Nat.mul_le_mul_right _ (Nat.le_succ d))
    · have h4 : (if accP (desL f m (k + 1)) = [] then (if f k < 0 then ([45] : List UInt8) else []) else (if f k < 0 then [32, 45, 32] else [32, 43, 32])).length ≤ 3 := by split <;> split <;> simp
      simp only [List.length_append]
      omega
set_option maxRecDepth 100000 in
set_option maxHeartbeats 8000000 in
theorem refPrint3_any (n : Nat) (Z : Nat → ZI) (p : Option Addr) (c : Nat) (hn : n ≤ 99) (hz : ∀ k, k < n → (Z k).mag.size ≤ 1000000) (w : World) (hX : GRow w p n Z) (f : Nat → Int) (hfe : (fun k => valZ (Z k)) = f) :
    Calls Tryd.prog 31 #[.slice p n c] w fun e w' => e = .returned (.string ⟨(polL f (dgN f n)).toArray⟩) ∧ Below w.heap.size w w' := by
  have hcz : ∀ k, k < n → (canon (f k)).mag.size ≤ 1000000 := fun k hk => by
    have := hz k hk
    rw [← hfe]
    exact Nat.le_trans (canon_size_le (Z k)) this
  have Hf : ∀ k, valZ (Z k) = f k := fun k => by rw [← hfe]
  have HX := Lib.hid hX
  have hdg := refDeg3_any n Z p c (by omega) (fun k hk => by have := hz k hk; omega) w hX
  have HZr := Lib.hid (fun k (hk : k < n) W => by
    have h := zero3_any (Z k) (by have := hz k hk; omega) W
    rw [Hf k] at h
    exact h)
  have HCm := Lib.hid (fun k (hk : k < n) W => refCmpZ_any (Z k) ⟨false, ⟨#[]⟩⟩ (by have := hz k hk; omega) (by decide) (f k) 0 (Hf k) rfl W)
  have HTm := Lib.hid (fun k (hk : k < n) W => by
    have h := refTerm_any k (by omega) (Z k) (hz k hk) W
    rw [Hf k] at h
    exact h)
  rw [hfe] at hdg
  obtain ⟨m, hm⟩ : ∃ m, dgN f n = m := ⟨_, rfl⟩
  have hmn : m ≤ n := by rw [← hm]; exact dgN_le f n
  rw [hm] at hdg ⊢
  have HAl := Lib.hid (accP_len (m := m) (f := f) (by omega) (fun k hk => hcz k (by omega)))
  have HTl : Hid (∀ k, k < m → (termL k (f k).natAbs).length ≤ 4000000) := Lib.hid (fun k hk => by
    have h3 := termL_len (n := k) (v := (f k).natAbs) (k := (canon (f k)).mag.size) (by omega) (by have := absZ_lt (canon (f k)); rwa [absZ_canon] at this)
    have := hcz k (by omega)
    omega)
  obtain ⟨RES, hRES⟩ : ∃ s : ByteArray, (⟨(polL f m).toArray⟩ : ByteArray) = s := ⟨_, rfl⟩
  rw [hRES]
  have HRS := Lib.hid hRES
  have HDg := Lib.hid hdg
  obtain ⟨dj, hdj⟩ : ∃ j : Int, (m : Int) - 1 = j := ⟨_, rfl⟩
  rw [hdj] at HDg
  have Hdj := Lib.hid hdj
  have hdb : -1 ≤ dj ∧ dj ≤ 1000000 := by omega
  clear hdg hcz hz hX hfe hm hRES hdj Hf
  go_enter Tryd.func31, Tryd.ntmps31
  go_wp2_with fail
  refine HDg.out.mono ?_
  rintro e V ⟨rfl, hb⟩
  dsimp only
  have HB := Lib.hid hb
  clear hb HDg
  go_wp2_with fail
  go_loopw [3, 4] (fun ov kv wr => ∃ j : Nat, j ≤ m ∧ kv = .int .i64 ((j : Int) - 1) ∧ ov = .string ⟨(accP (desL f m j)).toArray⟩ ∧ Hid (Below w.heap.size w wr)) (fun _ kv _ => (intOf kv + 1).toNat)
  case atStart => exact ⟨m, Nat.le_refl _, by rw [Hdj.out], by rw [desL_top]; rfl, HB⟩
  case round =>
    clear HB
    obtain ⟨j, hj, rfl, rfl, HB⟩ := hrel
    by_cases hj0 : 0 < j
    · obtain ⟨k, rfl⟩ : ∃ k, j = k + 1 := ⟨j - 1, by omega⟩
      rw [show ((k + 1 : Nat) : Int) - 1 = (k : Int) from by omega]
      have hlt : k < n := by omega
      have hRow := SlAt.mono HX.out (Nat.le_refl _) HB.out
      obtain ⟨bb, bo, hpe, _, hbc⟩ := GRow.cells hRow hlt
      obtain ⟨b3, b4⟩ := hbc k hlt
      have k0 : (0 : Int) ≤ (k : Int) := by omega
      have k2 : (k : Int) ≥ 0 := by omega
      have k1 : (k : Int) < (n : Int) := by omega
      have hzr := fun W => HZr.out k hlt W
      have hal := HAl.out (k + 1) hj
      have htl := HTl.out k (by omega)
      obtain ⟨L, hL⟩ : ∃ l, accP (desL f m (k + 1)) = l := ⟨_, rfl⟩
      have hal2 : L.length ≤ 400000000 := by
        rw [hL] at hal
        exact Nat.le_trans hal (Nat.le_trans (Nat.mul_le_mul_right _ (show m - (k + 1) ≤ 100 by omega)) (by decide))
      have hnx : accP (desL f m k) = prStep L (k, f k) := by rw [desL_succ f (by omega : k < m), accP_snoc, hL]
      rw [hL]
      by_cases h0 : f k = 0
      · rw [decide_eq_true h0] at hzr
        have HZ2 := Lib.hid hzr
        have HN : Hid (accP (desL f m k) = L) := Lib.hid (by rw [hnx]; unfold prStep; rw [if_pos h0])
        obtain ⟨z, hzz⟩ : ∃ z, Z k = z := ⟨_, rfl⟩
        rw [hzz] at b3 b4 HZ2
        subst hpe
        clear hbc hzr h0 hzz hal htl hL hnx hRow hal2
        go_wp2_with fail
        refine (HZ2.out _).mono ?_
        rintro e w4 ⟨rfl, hb4⟩
        dsimp only
        have Hb4 := Lib.hid (HB.out.trans (hb4.mono HB.out.size))
        clear hb4 HB b3 b4 HZ2
        go_wp2_with fail
        go_roundw
        case rel => exact ⟨k, by omega, by go_num, by rw [HN.out], Hb4⟩
        case measure => simp [intOf]
      · rw [decide_eq_false h0] at hzr
        have HZ2 := Lib.hid hzr
        have HC2 := Lib.hid (HCm.out k hlt)
        have HT2 := Lib.hid (HTm.out k hlt)
        obtain ⟨T, hT⟩ : ∃ T : ByteArray, (⟨(termL k (f k).natAbs).toArray⟩ : ByteArray) = T := ⟨_, rfl⟩
        have hTs : T.size ≤ 4000000 := by rw [← hT]; simpa [ByteArray.size] using htl
        obtain ⟨O, hO⟩ : ∃ O : ByteArray, (⟨L.toArray⟩ : ByteArray) = O := ⟨_, rfl⟩
        have hOs : O.size ≤ 400000000 := by rw [← hO]; simpa [ByteArray.size] using hal2
        have hOe : (O.toList == ({data := #[]} : ByteArray).toList) = decide (L = []) := by
          rw [ByteArray.toList_eq, ByteArray.toList_eq, ← hO, Bool.eq_iff_iff, beq_iff_eq, decide_eq_true_eq]
        have hOe2 : (O.toList == []) = decide (L = []) := by
          rw [ByteArray.toList_eq, ← hO, Bool.eq_iff_iff, beq_iff_eq, decide_eq_true_eq]
        have HR : Hid ((⟨(accP (desL f m k)).toArray⟩ : ByteArray) = if L = [] then (if f k < 0 then ⟨#[45]⟩ ++ T else O ++ T) else (if f k < 0 then O ++ ⟨#[32, 45, 32]⟩ ++ T else O ++ ⟨#[32, 43, 32]⟩ ++ T)) := Lib.hid (by
          rw [hnx, ← hT, ← hO]
          unfold prStep
          rw [if_neg h0]
          by_cases h1 : L = []
          · rw [if_pos h1, if_pos h1, h1]
            split <;> (apply ByteArray.ext; simp)
          · rw [if_neg h1, if_neg h1]
            split <;> (apply ByteArray.ext; simp))
        rw [hT] at HT2
        rw [hO]
        obtain ⟨RK, hRK⟩ : ∃ s : ByteArray, (⟨(accP (desL f m k)).toArray⟩ : ByteArray) = s := ⟨_, rfl⟩
        have HRK := Lib.hid hRK
        rw [hRK] at HR
        obtain ⟨c9, hcc, hc1, hc2⟩ : ∃ c : Int, cmpI (f k) 0 = c ∧ (f k < 0 → c < 0) ∧ (0 ≤ f k → ¬ c < 0) := ⟨_, rfl, fun h => by unfold cmpI; rw [if_pos h]; decide, fun h => by unfold cmpI; rw [if_neg (by omega)]; split <;> omega⟩
        rw [hcc] at HC2
        obtain ⟨y, hy⟩ : ∃ y, f k = y := ⟨_, rfl⟩
        rw [hy] at HR hc1 hc2
        obtain ⟨be, hbe⟩ : ∃ b, decide (L = []) = b := ⟨_, rfl⟩
        rw [hbe] at hOe hOe2
        have Hbe := Lib.hid hbe
        have HRow := Lib.hid hRow
        obtain ⟨z, hzz⟩ : ∃ z, Z k = z := ⟨_, rfl⟩
        have Hzz := Lib.hid hzz
        rw [hzz] at b3 b4 HZ2 HC2 HT2
        subst hpe
        clear hbc hzr h0 hzz hal htl hL hnx hRow hal2 hT hO hRK hcc hy hbe
        go_wp2_with fail
        refine (HZ2.out _).mono ?_
        rintro e w4 ⟨rfl, hb4⟩
        dsimp only
        have Hb4 := Lib.hid (HB.out.trans (hb4.mono HB.out.size))
        obtain ⟨e3, e4⟩ := (GRow.cells (SlAt.mono HRow.out (Nat.le_refl _) hb4) hlt).elim fun b1 h => h.elim fun b2 h => by
          obtain ⟨h1, _, h3⟩ := h
          cases h1
          exact h3 k hlt
        rw [Hzz.out] at e3 e4
        clear hb4 HB b3 b4 HZ2 HRow
        go_wp2_with fail
        refine (HC2.out _).mono ?_
        rintro e w5 ⟨rfl, hb5⟩
        dsimp only
        have Hb5 := Lib.hid (Hb4.out.trans (hb5.mono Hb4.out.size))
        obtain ⟨g3, g4⟩ := (GRow.cells (SlAt.mono HX.out (Nat.le_refl _) Hb5.out) hlt).elim fun b1 h => h.elim fun b2 h => by
          obtain ⟨h1, _, h3⟩ := h
          cases h1
          exact h3 k hlt
        rw [Hzz.out] at g3 g4
        clear hb5 Hb4 e3 e4 HC2
        have q1 : ({data := #[32, 45, 32]} : ByteArray).size = 3 := rfl
        have q2 : ({data := #[32, 43, 32]} : ByteArray).size = 3 := rfl
        have q3 : ({data := #[45]} : ByteArray).size = 1 := rfl
        have q4 : (({data := #[]} : ByteArray).toList) = [] := by rw [ByteArray.toList_eq]
        have s0 : ¬ 9223372036854775807 < O.size + T.size := by omega
        have s1 : ¬ 9223372036854775807 < ({data := #[45]} : ByteArray).size + T.size := by omega
        have s2 : ¬ 9223372036854775807 < O.size + ({data := #[32, 45, 32]} : ByteArray).size := by omega
        have s3 : ¬ 9223372036854775807 < (O ++ ({data := #[32, 45, 32]} : ByteArray)).size + T.size := by rw [ByteArray.size_append]; omega
        have s4 : ¬ 9223372036854775807 < O.size + ({data := #[32, 43, 32]} : ByteArray).size := by omega
        have s5 : ¬ 9223372036854775807 < (O ++ ({data := #[32, 43, 32]} : ByteArray)).size + T.size := by rw [ByteArray.size_append]; omega
        by_cases hneg : y < 0
        · have hcl := hc1 hneg
          have Hneg := Lib.hid hneg
          clear hc1 hc2 hneg
          cases be with
          | true =>
            go_wp2_with fail
            refine (HT2.out _).mono ?_
            rintro e w6 ⟨rfl, hb6⟩
            dsimp only
            have Hb6 := Lib.hid (Hb5.out.trans (hb6.mono Hb5.out.size))
            clear hb6 Hb5 g3 g4 HT2
            go_wp2_with fail
            go_roundw
            case rel =>
              refine ⟨k, by omega, by go_num, ?_, Hb6⟩
              rw [HRK.out, HR.out, if_pos (of_decide_eq_true Hbe.out), if_pos Hneg.out]
            case measure => simp [intOf]
          | false =>
            go_wp2_with fail
            refine (HT2.out _).mono ?_
            rintro e w6 ⟨rfl, hb6⟩
            dsimp only
            have Hb6 := Lib.hid (Hb5.out.trans (hb6.mono Hb5.out.size))
            clear hb6 Hb5 g3 g4 HT2
            go_wp2_with fail
            go_roundw
            case rel =>
              refine ⟨k, by omega, by go_num, ?_, Hb6⟩
              rw [HRK.out, HR.out, if_neg (of_decide_eq_false Hbe.out), if_pos Hneg.out]
            case measure => simp [intOf]
        · have hcl := hc2 (by omega)
          have Hneg := Lib.hid hneg
          clear hc1 hc2 hneg
          cases be with
          | true =>
            go_wp2_with fail
            refine (HT2.out _).mono ?_
            rintro e w6 ⟨rfl, hb6⟩
            dsimp only
            have Hb6 := Lib.hid (Hb5.out.trans (hb6.mono Hb5.out.size))
            clear hb6 Hb5 g3 g4 HT2
            go_wp2_with fail
            go_roundw
            case rel =>
              refine ⟨k, by omega, by go_num, ?_, Hb6⟩
              rw [HRK.out, HR.out, if_pos (of_decide_eq_true Hbe.out), if_neg (by have := Hneg.out; omega)]
            case measure => simp [intOf]
          | false =>
            go_wp2_with fail
            refine (HT2.out _).mono ?_
            rintro e w6 ⟨rfl, hb6⟩
            dsimp only
            have Hb6 := Lib.hid (Hb5.out.trans (hb6.mono Hb5.out.size))
            clear hb6 Hb5 g3 g4 HT2
            go_wp2_with fail
            go_roundw
            case rel =>
              refine ⟨k, by omega, by go_num, ?_, Hb6⟩
              rw [HRK.out, HR.out, if_neg (of_decide_eq_false Hbe.out), if_neg (by have := Hneg.out; omega)]
            case measure => simp [intOf]
    · obtain rfl : j = 0 := by omega
      rw [show ((0 : Nat) : Int) - 1 = -1 from rfl]
      obtain ⟨L, hL⟩ : ∃ l, accP (desL f m 0) = l := ⟨_, rfl⟩
      obtain ⟨O, hO⟩ : ∃ O : ByteArray, (⟨L.toArray⟩ : ByteArray) = O := ⟨_, rfl⟩
      have hR : RES = if L = [] then ⟨#[48]⟩ else O := by
        rw [← HRS.out]
        unfold polL
        rw [hL, ← hO]
        split <;> rfl
      rw [hL, hO]
      by_cases he : L = []
      · have hO0 : O = ⟨#[]⟩ := by rw [← hO, he]
        rw [if_pos he] at hR
        subst hO0
        have HR := Lib.hid hR
        clear he hR hO hL
        go_wp2_with fail
        go_ret
        exact ⟨by rw [HR.out]; rfl, HB.out⟩
      · have hOe : (O.toList == []) = false := by
          rw [beq_eq_false_iff_ne, ByteArray.toList_eq, ← hO]; exact he
        rw [if_neg he] at hR
        have HR := Lib.hid hR
        clear he hR hO hL
        go_wp2_with fail
        go_ret
        exact ⟨by rw [HR.out]; rfl, HB.out⟩
end Go.Proofs.YteoemijgdcpopaaDoor
namespace Go.Proofs.YteoemijgdcpopaaDoor
open Go.RowKit Go.ChangeShapes Go.WideShapes Go.ChangeAt Go.Deep

theorem own : ownKnob Tryd.prog.godebug = none := by kernel_rfl
theorem laidOut : laidOutB Tryd.prog = true := by kernel_rfl

section
variable {H : Type} {enc : TypeId × Value → H} {P : Program} {w : World} {base : Nat} {spare : Nat → Bool} {held : Bool}

/-- A struct whose fields are of one cell each, opened field by field. -/
theorem struct_fields {t : TypeId} {fs : Array Field} {fuel : Nat} {cs : List Value} {x : DataW H × List MemPlace} (ht : P.underlying t = some (.struct fs)) (hone : oneCellFields P fs = true) (hC : P.cellsOf t = fs.size)
    (h : DataW.trod enc P w base spare held fuel t cs = some x) :
    ∃ (ys : List (DataW H × List MemPlace)) (n : Nat), x = (.agg (ys.map (·.1)), ys.flatMap (·.2)) ∧ cs.length = fs.size ∧ ys.length = fs.size ∧
      ∀ (j : Nat) (f : Field), fs[j]? = some f → ∃ v y, cs[j]? = some v ∧ ys[j]? = some y ∧ DataW.trod enc P w base spare held n f.type [v] = some y := by
  obtain ⟨ys, n, _, hx, hlen, hyl, hf⟩ := DataW.trod_struct ht h
  rw [hC] at hlen
  refine ⟨ys, n, hx, hlen, hyl, fun j f hj => ?_⟩
  obtain ⟨ho, hk⟩ := hone_of hone j f hj
  have hjl : j < fs.size := (Array.getElem?_eq_some_iff.1 hj).1
  have h1 := hf j f hj
  rw [ho, hk, List.drop_eq_getElem_cons (by omega), List.take_succ_cons, List.take_zero] at h1
  have hys : ys[j]? = some (ys[j]'(by omega)) := List.getElem?_eq_getElem (by omega)
  exact ⟨cs[j]'(by omega), ys[j]'(by omega), List.getElem?_eq_getElem (by omega), hys, h1.trans hys⟩

/-- Every argument reads as it did where nothing below the old heap's end has turned. -/
theorem trodAll_below (hl : laidOutB P = true) {W W' : World} (hb : Below W.heap.size W W') : ∀ (ts : List TypeId) (vs : List Value) (ds : List (DataW H)) (ps : List MemPlace),
    (ts.all fun t => P.readableRec t && decide (t < P.types.size)) = true → DataW.TrodAll enc P W 0 (fun _ => true) true ts vs ds ps →
    DataW.TrodAll enc P W' 0 (fun b => decide (b < W.heap.size)) true ts vs ds ps
  | [], vs, ds, ps, _, h => by
    obtain ⟨rfl, rfl, rfl⟩ := trodAll_nil h
    exact trodAll_mk0
  | t :: ts, vs, ds, ps, hr, h => by
    obtain ⟨v, vs', d, ds', p, q, rfl, rfl, rfl, h0, r0⟩ := trodAll_cons h
    simp only [List.all_cons, Bool.and_eq_true, decide_eq_true_eq] at hr
    have lt : ∀ x ∈ p, x.block < W.heap.size := by obtain ⟨m, hm⟩ := h0; exact DataW.trod_lt m _ _ _ hm
    exact trodAll_cons_mk (Below.trod hl hr.1.1 hr.1.2 h0 hb lt) (trodAll_below hl hb ts vs' ds' q hr.2 r0)
end
end Go.Proofs.YteoemijgdcpopaaDoor
namespace Go.Proofs.YteoemijgdcpopaaDoor
open Go.ChangeShapes Go.WideShapes Go.ChangeAt Go.RowKit
set_option maxRecDepth 100000 in
theorem door_met (os : Os) (args : Array Value) : laidMetH Tryd.prog [("math/bits.deBruijn32tab", Rows.laid_math_bits_deBruijn32tab), ("math/bits.deBruijn64tab", Rows.laid_math_bits_deBruijn64tab), ("internal/strconv.uint64pow10", Rows.laid_internal_strconv_uint64pow10)] ((World.doorLaid Tryd.prog 24 os).forCall (fun _ _ => 0) ⟨#[], args, []⟩).memory :=
  laidMetH_of_parts3 (fuel := 8) (laidMet_of_run' 8 (by kernel_rfl) (by kernel_rfl)) (by kernel_rfl) (by kernel_rfl)
end Go.Proofs.YteoemijgdcpopaaDoor
namespace Go.Proofs.YteoemijgdcpopaaDoor
open Go Go.RowKit Go.ChangeShapes Go.WideShapes Go.ChangeAt Go.Deep
section
variable {H : Type} {enc : TypeId × Value → H} {w : World}
set_option maxRecDepth 100000 in
theorem open_zrow {fuel : Nat} {cs : List Value} {x : DataW H × List MemPlace} (h : DataW.trod enc Tryd.prog w 0 (fun _ => true) true fuel 22 cs = some x) :
    ∃ (q : Option Addr) (n c : Nat) (Z : Nat → ZI), cs = [.slice q n c] ∧ GRow w q n Z ∧ n ≤ c ∧ c ≤ maxLen ∧ ∀ k, k < n → (Z k).mag.size ≤ maxLen := by
  rcases open_slice_pairs Tryd.underlying22 Tryd.underlying35 (by kernel_rfl) (by rfl) (by rfl) (by kernel_rfl) (by kernel_rfl) h with ⟨hcs, _⟩ | ⟨a, len, cap, m, n, V0, V1, D0, D1, P0, P1, hcs, _, hl, hm, hmm, _, hi⟩
  · exact ⟨none, 0, 0, fun _ => canon 0, hcs, .inl rfl, Nat.le_refl _, by decide, fun k hk => by omega⟩
  · simp only [if_true] at hmm
    rw [hmm] at hi
    have he : ∀ i, i < cap → ∃ z : Bool × ByteArray, w.cell? (a.add (i * 2)) = some (.bool z.1) ∧ w.cell? (a.add (i * 2 + 1)) = some (.string z.2) ∧ z.2.size ≤ maxLen := by
      intro i hil
      obtain ⟨c0, c1, t0, t1⟩ := hi i hil
      obtain ⟨b, e0, _⟩ := DataW.trod_bool Tryd.underlying4 t0
      obtain ⟨s, e1, _, hs⟩ := DataW.trod_string Tryd.underlying9 t1
      simp only [List.cons.injEq, and_true] at e0 e1
      rw [e0] at c0
      rw [e1] at c1
      exact ⟨(b, s), c0, c1, hs⟩
    obtain ⟨E, hE⟩ := choose_lt he
    refine ⟨some a, len, cap, fun i => ⟨(E i).1, (E i).2⟩, hcs, ?_, hl, hm, fun k hk => (hE k (by omega)).2.2⟩
    rcases Nat.eq_zero_or_pos len with h0 | h0
    · exact .inl h0
    · obtain ⟨b, off, spot⟩ := a
      have h00 := (hE 0 (by omega)).1
      have hspot : spot = none := by simpa [Addr.add] using World.cell?_spot h00
      subst hspot
      refine .inr ⟨b, off, rfl, World.block_lt_of_cell? w _ (by simpa [Addr.add] using h00), fun i hi' j hj => ?_⟩
      have hc := hE i (by omega)
      rw [Addr.add_lit, Addr.add_lit] at hc
      have : j = 0 ∨ j = 1 := by omega
      rcases this with rfl | rfl
      · simpa [zg] using hc.1
      · simpa [zg, Nat.add_assoc] using hc.2.1
set_option maxRecDepth 100000 in
theorem open_vec {v : Value} {d : DataW H} {p : List MemPlace} {bb : Nat} (hv : Value.okWide Tryd.prog w .any bb 22 v) (h : DataW.Trod enc Tryd.prog w 0 (fun _ => true) true 22 v d p) :
    ∃ (q : Option Addr) (n c : Nat) (Z : Nat → ZI), v = .slice q n c ∧ GRow w q n Z ∧ n ≤ maxLen ∧ ∀ k, k < n → (Z k).mag.size ≤ maxLen := by
  obtain ⟨a0, l0, c0, rfl⟩ := okWide_slice Tryd.underlying22 hv
  obtain ⟨fuel, hf⟩ := h
  obtain ⟨q, n, c, Z, hcs, hr, h1, h2, h3⟩ := open_zrow hf
  simp only [Value.cells, List.cons.injEq, and_true] at hcs
  exact ⟨q, n, c, Z, hcs, hr, Nat.le_trans h1 h2, h3⟩
set_option maxRecDepth 100000 in
theorem open_mat {v : Value} {d : DataW H} {p : List MemPlace} {bb : Nat} (hv : Value.okWide Tryd.prog w .any bb 52 v) (h : DataW.Trod enc Tryd.prog w 0 (fun _ => true) true 52 v d p) :
    ∃ (q : Option Addr) (c : Nat) (m : GM), v = .slice q m.r c ∧ m.At w q ∧ m.r ≤ maxLen ∧ ∀ i, i < m.r → m.L i ≤ maxLen ∧ ∀ k, k < m.L i → (m.Z i k).mag.size ≤ maxLen := by
  obtain ⟨a0, l0, c0, rfl⟩ := okWide_slice Tryd.underlying52 hv
  obtain ⟨fuel, hf⟩ := h
  rcases open_slice1 Tryd.underlying52 (by kernel_rfl) hf with ⟨hcs, hx⟩ | ⟨a, len, cap, m, n, V, D, Pl, hcs, _, hl, hm, hmm, hx, hi⟩
  · refine ⟨none, 0, ⟨0, fun _ => 0, fun _ _ => canon 0⟩, by simpa [Value.cells] using hcs, ⟨fun _ => (none, 0), .inl rfl, fun i hi => ?_⟩, by decide, fun i hi => ?_⟩
    · exact absurd hi (Nat.not_lt_zero _)
    · exact absurd hi (Nat.not_lt_zero _)
  · simp only [if_true] at hmm
    rw [hmm] at hi
    have he : ∀ i, i < cap → ∃ z : (Option Addr × Nat × Nat) × (Nat → ZI), w.cell? (a.add i) = some (.slice z.1.1 z.1.2.1 z.1.2.2) ∧ GRow w z.1.1 z.1.2.1 z.2 ∧ z.1.2.1 ≤ maxLen ∧ ∀ k, k < z.1.2.1 → (z.2 k).mag.size ≤ maxLen := by
      intro i hil
      obtain ⟨c0, t0⟩ := hi i hil
      obtain ⟨q, n, c, Z, e0, hr, h1, h2, h3⟩ := open_zrow t0
      simp only [List.cons.injEq, and_true] at e0
      rw [e0] at c0
      exact ⟨((q, n, c), Z), c0, hr, Nat.le_trans h1 h2, h3⟩
    haveI : Inhabited ((Option Addr × Nat × Nat) × (Nat → ZI)) := ⟨((none, 0, 0), fun _ => canon 0)⟩
    obtain ⟨E, hE⟩ := choose_lt he
    refine ⟨some a, cap, ⟨len, fun i => (E i).1.2.1, fun i => (E i).2⟩, by simpa [Value.cells] using hcs, ⟨fun i => ((E i).1.1, (E i).1.2.2), ?_, fun i hi' => (hE i (Nat.lt_of_lt_of_le hi' hl)).2.1⟩, Nat.le_trans hl hm, fun i hi' => (hE i (Nat.lt_of_lt_of_le hi' hl)).2.2⟩
    rcases Nat.eq_zero_or_pos len with h0 | h0
    · exact .inl h0
    · obtain ⟨b, off, spot⟩ := a
      have h00 := (hE 0 (by omega)).1
      have hspot : spot = none := by simpa [Addr.add] using World.cell?_spot h00
      subst hspot
      refine .inr ⟨b, off, rfl, World.block_lt_of_cell? w _ (by simpa [Addr.add] using h00), fun i hi' j hj => ?_⟩
      have hc := (hE i (Nat.lt_of_lt_of_le hi' hl)).1
      rw [Addr.add_lit] at hc
      have : j = 0 := by omega
      subst this
      simpa using hc
end
end Go.Proofs.YteoemijgdcpopaaDoor
