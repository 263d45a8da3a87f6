/- The walk of marker.Search. -/
import Derived.Test.YtlkajmdcffemeaaVal
import Derived.Test.YtlkajmdcffemeaaMw
namespace Go.Proofs.Ytlkajmdcffemeaa
open Go.RowKit

/-- No marker ahead of number k of those of n letters is valid. -/
def NoneBefore (b : Nat) (ws : List ByteArray) (n k : Nat) : Prop := ∀ n' k', 1 ≤ n' → k' < 2 ^ n' → (n' < n ∨ n' = n ∧ k' < k) → ¬ ValidP b (mkW n' k') ws
/-- What Search gives, where its arguments are in order. -/
def SrchP (b most : Nat) (ws : List ByteArray) (s : ByteArray) (E : Int) : Prop :=
  (E = 0 ∧ ∃ n k, 1 ≤ n ∧ n ≤ most ∧ k < 2 ^ n ∧ s = mkW n k ∧ ValidP b (mkW n k) ws ∧ NoneBefore b ws n k) ∨ (E = 20 ∧ s = ⟨#[]⟩ ∧ NoneBefore b ws (most + 1) 0)
def srchErr (b most : Int) (ws : List ByteArray) : Int := if b < 1 ∨ 16 < b then 2 else if most < 1 ∨ 16 < most then 2 else wordsErr b.toNat most.toNat ws
def RetSrch (b most : Int) (ws : List ByteArray) (w : World) (e : Ending) (w' : World) : Prop :=
  ∃ s E, e = .returned (.tuple #[.string s, .int .i64 E]) ∧ (srchErr b most ws ≠ 0 → E = srchErr b most ws ∧ s = ⟨#[]⟩) ∧ (srchErr b most ws = 0 → SrchP b.toNat most.toNat ws s E) ∧ Below w.heap.size w w'
theorem NoneBefore.step {b : Nat} {ws : List ByteArray} {n k : Nat} (h : NoneBefore b ws n k) (hv : ¬ ValidP b (mkW n k) ws) : NoneBefore b ws n (k + 1) := by
  intro n' k' h1 h2 h3
  by_cases e : n' = n ∧ k' = k
  · rw [e.1, e.2]; exact hv
  · exact h n' k' h1 h2 (by omega)
theorem NoneBefore.next {b : Nat} {ws : List ByteArray} {n k : Nat} (h : NoneBefore b ws n k) (hk : 2 ^ n ≤ k) : NoneBefore b ws (n + 1) 0 := by
  intro n' k' h1 h2 h3
  refine h n' k' h1 h2 ?_
  rcases Nat.lt_or_ge n' n with h4 | h4
  · exact .inl h4
  · have e : n' = n := by omega
    subst e
    exact .inr ⟨rfl, by omega⟩
theorem NoneBefore.one (b : Nat) (ws : List ByteArray) : NoneBefore b ws 1 0 := by
  intro n' k' h1 h2 h3; omega
theorem srch_unique {b most : Nat} {ws : List ByteArray} {s s' : ByteArray} {E E' : Int} (h : SrchP b most ws s E) (h' : SrchP b most ws s' E') : s = s' ∧ E = E' := by
  rcases h with ⟨rfl, n, k, h1, h2, h3, rfl, h4, h5⟩ | ⟨rfl, rfl, h5⟩
  · rcases h' with ⟨rfl, n', k', g1, g2, g3, rfl, g4, g5⟩ | ⟨rfl, rfl, g5⟩
    · refine ⟨?_, rfl⟩
      rcases Nat.lt_trichotomy n n' with e | e | e
      · exact absurd h4 (g5 n k h1 h3 (.inl e))
      · subst e
        rcases Nat.lt_trichotomy k k' with e | e | e
        · exact absurd h4 (g5 n k h1 h3 (.inr ⟨rfl, e⟩))
        · rw [e]
        · exact absurd g4 (h5 n k' g1 g3 (.inr ⟨rfl, e⟩))
      · exact absurd g4 (h5 n' k' g1 g3 (.inl e))
    · exact absurd h4 (g5 n k h1 h3 (.inl (by omega)))
  · rcases h' with ⟨rfl, n', k', g1, g2, g3, rfl, g4, g5⟩ | ⟨rfl, rfl, g5⟩
    · exact absurd g4 (h5 n' k' g1 g3 (.inl (by omega)))
    · exact ⟨rfl, rfl⟩

theorem i64_and1 (n : Int) : bits .and .i64 n 1 = n % 2 := by
  have h1 : (BitVec.ofInt 64 1).toNat = 2 ^ 1 - 1 := by decide
  have key : (BitVec.ofInt 64 n &&& BitVec.ofInt 64 1).toNat = (n % ((2 ^ 64 : Nat) : Int)).toNat % 2 ^ 1 := by
    rw [BitVec.toNat_and, BitVec.toNat_ofInt, h1, Nat.and_two_pow_sub_one_eq_mod]
  show IntKind.i64.wrap ((BitVec.ofInt 64 n &&& BitVec.ofInt 64 1).toNat : Nat) = n % 2
  rw [key, IntKind.wrap_i64]
  omega
/-- The cells of n bytes, byte j being F j. -/
def bytCells (F : Nat → Nat) (n : Nat) : Array Value := ((List.range n).map fun j => Value.int .u8 (F j : Nat)).toArray
def BytBlk (w : World) (g : Nat) (F : Nat → Nat) (n : Nat) : Prop := w.heap[g]? = some (.cells (bytCells F n) 5 (0, 0))
theorem BytBlk.lt {w : World} {g n : Nat} {F : Nat → Nat} (h : BytBlk w g F n) : g < w.heap.size := (Array.getElem?_eq_some_iff.1 h).1
theorem BytBlk.cell {w : World} {g n : Nat} {F : Nat → Nat} (h : BytBlk w g F n) {j : Nat} (hj : j < n) : w.cell? ⟨g, j, none⟩ = some (.int .u8 (F j : Nat)) := by
  rw [cell_of_row w g j _ _ _ h]
  simp [bytCells, hj]
theorem BytBlk.frozen {w : World} {g n : Nat} {F : Nat → Nat} (h : BytBlk w g F n) (j : Nat) : w.frozen? ⟨g, j, none⟩ = false := by
  unfold BytBlk at h
  simp [World.frozen?, h]
theorem BytBlk.below {w w' : World} {g n B : Nat} {F : Nat → Nat} (h : BytBlk w g F n) (hb : Below B w w') (hg : g < B) : BytBlk w' g F n := (hb.block g hg).trans h
theorem BytBlk.new (w : World) (n : Nat) : BytBlk (w.alloc (.cells (madeCells #[.int .u8 0] n) 5)) w.heap.size (fun _ => 0) n := by
  unfold BytBlk
  rw [heap_alloc_new]
  congr 2
  apply Array.ext'
  simp [bytCells, madeCells, Nat.mod_one, List.map_const']
theorem BytBlk.set {w : World} {g n : Nat} {F : Nat → Nat} (h : BytBlk w g F n) {j : Nat} (v : Nat) : BytBlk (w.setCell ⟨g, j, none⟩ (.int .u8 v)) g (fun i => if i = j then v else F i) n := by
  unfold BytBlk at h ⊢
  simp only [World.setCell, Array.getElem?_modify, h]
  simp only [if_true, Option.map_some, Option.isSome_none, Bool.false_eq_true, if_false]
  congr 2
  apply Array.ext'
  apply List.ext_getElem?
  intro i
  simp only [bytCells, Array.toList_setIfInBounds, List.getElem?_set, List.getElem?_map, List.length_map, List.length_range]
  by_cases hi : i < n
  · by_cases hij : j = i
    · subst hij; simp [hi]
    · rw [if_neg hij]; simp [hi, Ne.symm hij]
  · by_cases hij : j = i
    · subst hij; simp [hi]
    · rw [if_neg hij]; simp [hi]
theorem BytBlk.congr {w : World} {g n : Nat} {F G : Nat → Nat} (h : BytBlk w g F n) (e : ∀ j, j < n → F j = G j) : BytBlk w g G n := by
  unfold BytBlk at h ⊢
  rw [h]
  congr 2
  unfold bytCells
  congr 1
  exact List.map_congr_left fun j hj => by rw [e j (List.mem_range.1 hj)]
theorem bytInfo : (Try.prog.info? 5).map (fun i => (i.zero, i.size, i.bytes)) = some (some (.int .u8 0), 1, 1) := by kernel_rfl
/-- make([]byte, n). -/
theorem make_byts (kl kc : IntKind) (n : Nat) (h : n ≤ 1000000) (w : World) :
    (Instr.makeSlice 40 (.int kl (n : Int)) (.int kc (n : Int))).run Try.prog w = .ok (.slice (some ⟨w.heap.size, 0, none⟩) n n) (w.alloc (.cells (madeCells #[.int .u8 0] n) 5)) :=
  run_make_row' 40 5 (.int .u8 0) 1 Try.underlying40 bytInfo rfl kl kc n (by omega) (by omega) w
/-- string(b) of a block of bytes. -/
theorem byts_string {w : World} {g n cap : Nat} {F : Nat → Nat} (h : BytBlk w g F n) (l : List UInt8) (hl : l.length = n) (hF : ∀ j (hj : j < l.length), F j = l[j].toNat) :
    (convert 40 9 (.slice (some ⟨g, 0, none⟩) n cap)).run Try.prog w = .ok (.string ⟨l.toArray⟩) w := by
  subst hl
  refine run_convert_bytes_back (P := Try.prog) w 40 9 5 ⟨g, 0, none⟩ cap l Try.underlying40 Try.underlying5 Try.underlying9 (fun j hj => ?_)
  have := h.cell hj
  rw [hF j hj] at this
  rw [Addr.add_lit]; simpa using this
theorem mkL_byte {n k j : Nat} (hj : j < (mkL n k).length) : 48 + bitN n k j = (mkL n k)[j].toNat := by
  have h := mkL_get (n := n) (k := k) (t := j) (by rw [mkL_len] at hj; exact hj)
  rw [List.getElem?_eq_getElem hj] at h
  have h2 := Option.some.inj h
  rw [h2]
  have := bitN_lt n k j
  simp
  omega

set_option maxRecDepth 100000 in
set_option maxHeartbeats 4000000 in
theorem Search_any (b most : Int) (ws : List ByteArray) (p : Option Addr) (c : Nat) (hl : ws.length ≤ 100000) (hx : ∀ x ∈ ws, x.size ≤ maxLen) (w : World) (hS : StrsAt w p ws) :
    Calls Try.prog 36 #[.int .i64 b, .int .i64 most, .slice p ws.length c] w (RetSrch b most ws w) := by
  have HS := Lib.hid hS
  have Hcs := Lib.hid (checkSize_any b)
  have hE : srchErr b most ws = if b < 1 ∨ 16 < b then 2 else if most < 1 ∨ 16 < most then 2 else wordsErr b.toNat most.toNat ws := rfl
  unfold RetSrch
  generalize srchErr b most ws = E at *
  clear hS
  by_cases h1 : b < 1 ∨ 16 < b
  · rw [if_pos h1] at hE Hcs
    have HE := Lib.hid hE
    clear hE h1
    go_enter Try.func36, Try.ntmps36
    go_wp2_with (go_at_call 60; go_fit (Hcs.out _); rintro e w' ⟨rfl, rfl⟩)
    go_ret2
    exact ⟨_, _, rfl, fun _ => ⟨HE.out.symm, rfl⟩, fun h => (by rw [HE.out] at h; cases h), Below.refl _ _⟩
  · rw [if_neg h1] at hE Hcs
    by_cases h2 : most < 1 ∨ 16 < most
    · rw [if_pos h2] at hE
      have HE := Lib.hid hE
      clear hE h1
      by_cases h3 : most < 1
      · clear h2
        go_enter Try.func36, Try.ntmps36
        go_wp2_with (go_at_call 60; go_fit (Hcs.out _); rintro e w' ⟨rfl, rfl⟩)
        go_ret2
        exact ⟨_, _, rfl, fun _ => ⟨HE.out.symm, rfl⟩, fun h => (by rw [HE.out] at h; cases h), Below.refl _ _⟩
      · have h4 : 16 < most := by omega
        clear h2
        go_enter Try.func36, Try.ntmps36
        go_wp2_with (go_at_call 60; go_fit (Hcs.out _); rintro e w' ⟨rfl, rfl⟩)
        go_ret2
        exact ⟨_, _, rfl, fun _ => ⟨HE.out.symm, rfl⟩, fun h => (by rw [HE.out] at h; cases h), Below.refl _ _⟩
    · rw [if_neg h2] at hE
      obtain ⟨n, rfl⟩ : ∃ n : Nat, b = n := ⟨b.toNat, by omega⟩
      obtain ⟨M, rfl⟩ : ∃ M : Nat, most = M := ⟨most.toNat, by omega⟩
      rw [Int.toNat_natCast, Int.toNat_natCast] at hE
      rw [Int.toNat_natCast, Int.toNat_natCast]
      have hn1 : 1 ≤ n := by omega
      have hn2 : n ≤ 16 := by omega
      have hM1 : 1 ≤ M := by omega
      have hM2 : M ≤ 16 := by omega
      have HW := Lib.hid (checkWords_any n M ws p c (by omega) (by omega) hl hx w HS.out)
      have hwok := @wordsErr_ok n M ws
      have g1 : ¬ ((M : Int) < 1) := by omega
      have g2 : ¬ ((16 : Int) < (M : Int)) := by omega
      have HE := Lib.hid hE
      clear hE h1 h2 hx
      generalize wordsErr n M ws = e1 at *
      by_cases h3 : e1 = 0
      · obtain ⟨hs1, hs2⟩ := hwok h3
        have h3b : (e1 != 0) = false := by rw [h3]; rfl
        have HE0 : Hid (E = 0) := Lib.hid (HE.out.trans h3)
        have HV : Hid (∀ (N k : Nat), 1 ≤ N → N ≤ M → ∀ W, StrsAt W p ws → Calls Try.prog 57 #[.int .i64 (n : Int), .string (mkW N k), .slice p ws.length c] W (RetIff (ValidP n (mkW N k) ws) W)) := Lib.hid (fun N k h1 h2 W hW =>
          valid_any n (mkW N k) ws p c hn1 (by omega) (by rw [mkW_size]; exact h1) (by rw [mkW_size]; omega) hs1 (by rw [mkW_size]; exact Nat.le_trans (Nat.mul_le_mul_left _ (show n + N ≤ n + M by omega)) hs2) W hW)
        clear hwok h3 hs1 hs2 HE
        go_enter Try.func36, Try.ntmps36
        go_wp2_with first
          | (go_at_call 60; go_fit (Hcs.out _); rintro e w' ⟨rfl, rfl⟩)
          | (go_at_call 56; go_fit HW.out; rintro e w2 ⟨rfl, hd⟩; have HS2 := Lib.hid (HS.out.below (Nat.le_refl _) (Drawn.below hd _)); have Hb2 := Lib.hid (Drawn.below hd w.heap.size); clear hd)
        have HS2 := Lib.hid (HS2.out)
        go_loopw [10] (fun v wr => ∃ N : Nat, 1 ≤ N ∧ N ≤ M + 1 ∧ v = .int .i64 N ∧ Hid (Below w.heap.size w wr) ∧ Hid (NoneBefore n ws N 0)) (fun v _ => M + 1 - (intOf v).toNat)
        case atStart => exact ⟨1, by omega, by omega, rfl, Hb2, Lib.hid (NoneBefore.one _ _)⟩
        case round =>
          obtain ⟨N, hN1, hN2, rfl, Hb, HNB⟩ := hrel
          by_cases hNM : N ≤ M
          · have hNI : (N : Int) ≤ (M : Int) := by omega
            have hN0 : (0 : Int) ≤ (N : Int) := by omega
            have hN64 : N < 64 := by omega
            obtain ⟨P, hP⟩ : ∃ P, 2 ^ N = P := ⟨_, rfl⟩
            have hPb : P ≤ 65536 := by rw [← hP]; exact Nat.pow_le_pow_right (by decide) (show N ≤ 16 by omega)
            have hP64 : wrap64 ((2 : Int) ^ N) = (P : Int) := by rw [show (2 : Int) ^ N = (P : Int) from by rw [← hP]; simp]; exact IntWalk.wrap64_in _ (by omega)
            go_wp2
            rw [hP64]
            go_loopw [39] (fun v wr => ∃ k : Nat, k ≤ P ∧ v = .int .i64 k ∧ Hid (Below w.heap.size w wr) ∧ Hid (NoneBefore n ws N k)) (fun v _ => P - (intOf v).toNat)
            case atStart => exact ⟨0, by omega, by go_num, Hb, HNB⟩
            case round =>
              clear Hb HNB
              obtain ⟨k, hk, rfl, Hb, HNB⟩ := hrel
              by_cases hkP : k < P
              · have hkI : (k : Int) < (P : Int) := by omega
                have hk0 : (0 : Int) ≤ (k : Int) := by omega
                obtain ⟨wk, hwk⟩ : ∃ wk : World, wk = wr := ⟨_, rfl⟩
                subst hwk
                have hmk : (Instr.makeSlice 40 (.int .i64 (N : Int)) (.int .i64 (N : Int))).run Try.prog wk = .ok _ _ := make_byts .i64 .i64 N (by omega) wk
                have hB0 := BytBlk.new wk N
                have hb0 := (Below.refl wk.heap.size wk).alloc (Nat.le_refl _) (.cells (madeCells #[.int .u8 0] N) 5)
                generalize wk.alloc (.cells (madeCells #[.int .u8 0] N) 5) = w3 at *
                have HB0 := Lib.hid hB0
                have Hb0 := Lib.hid hb0
                have HS3 := Lib.hid (HS.out.below (Nat.le_refl _) Hb.out)
                have Hwk := Hb.out.size
                obtain ⟨g, hg⟩ : ∃ g, wk.heap.size = g := ⟨_, rfl⟩
                rw [hg] at hmk
                have HB0 : Hid (BytBlk w3 g (fun t => if t < 0 then 48 + bitN N k t else 0) N) := Lib.hid (by rw [← hg]; exact hB0.congr (fun j _ => by rw [if_neg (by omega)]))
                clear hB0 hb0
                go_wp2
                go_loopw [46] (fun v wr => ∃ i : Nat, i ≤ N ∧ v = .int .i64 i ∧ Hid (Below g wk wr) ∧ Hid (BytBlk wr g (fun t => if t < i then 48 + bitN N k t else 0) N)) (fun v _ => N - (intOf v).toNat)
                case atStart => exact ⟨0, by omega, by go_num, Lib.hid (by rw [← hg]; exact Hb0.out), HB0⟩
                case round =>
                  obtain ⟨i, hi, rfl, Hbi, HBi⟩ := hrel
                  by_cases hiN : i < N
                  · have hiI : (i : Int) < (N : Int) := by omega
                    have hi0 : (0 : Int) ≤ (i : Int) := by omega
                    have ci := HBi.out.cell hiN
                    have cf := HBi.out.frozen i
                    have hand : bits .and .i64 ((k : Int) / 2 ^ (N - 1 - i)) 1 = ((bitN N k i : Nat) : Int) := by
                      rw [i64_and1]; unfold bitN; simp
                    have hbl := bitN_lt N k i
                    have hval : (48 + ((bitN N k i : Nat) : Int)) % 256 = ((48 + bitN N k i : Nat) : Int) := by omega
                    have HBn : Hid (BytBlk (wr.setCell ⟨g, i, none⟩ (.int .u8 ((48 + bitN N k i : Nat) : Int))) g (fun t => if t < i + 1 then 48 + bitN N k t else 0) N) := Lib.hid ((HBi.out.set (j := i) (48 + bitN N k i)).congr (fun j hj => by
                      by_cases e : j = i
                      · rw [if_pos e, e, if_pos (by omega)]
                      · rw [if_neg e]
                        by_cases h : j < i
                        · rw [if_pos h, if_pos (by omega)]
                        · rw [if_neg h, if_neg (by omega)]))
                    have Hbn : Hid (Below g wk (wr.setCell ⟨g, i, none⟩ (.int .u8 ((48 + bitN N k i : Nat) : Int)))) := Lib.hid (Hbi.out.setCell (Nat.le_refl _) _)
                    rw [← hval, ← hand] at HBn Hbn
                    clear hval hand hbl
                    go_wp2
                    go_roundw
                    case rel => exact ⟨i + 1, by omega, by go_num, Hbn, HBn⟩
                    case measure => simp [intOf]; omega
                  · have hiI : ¬ (i : Int) < (N : Int) := by omega
                    have hiN2 : i = N := by omega
                    have hcv := byts_string (cap := N) HBi.out (mkL N k) (mkL_len N k) (fun j hj => by
                      rw [mkL_len] at hj
                      rw [if_pos (by omega)]; exact mkL_byte (by rw [mkL_len]; exact hj))
                    have hmw : (⟨(mkL N k).toArray⟩ : ByteArray) = mkW N k := rfl
                    rw [hmw] at hcv
                    have HVk := Lib.hid (HV.out N k hN1 hNM)
                    have Hcv := Lib.hid (fun W (hW : BytBlk W g (fun t => if t < i then 48 + bitN N k t else 0) N) => byts_string (cap := N) hW (mkL N k) (mkL_len N k) (fun j hj => by
                      rw [mkL_len] at hj
                      rw [if_pos (by omega)]; exact mkL_byte (by rw [mkL_len]; exact hj)))
                    have HbW : Hid (Below w.heap.size w wr) := Lib.hid (Hb.out.trans (Hbi.out.mono (by omega)))
                    have HSW := Lib.hid (HS.out.below (Nat.le_refl _) HbW.out)
                    have hNv : ∀ s, mkW N k = s → True := fun _ _ => trivial
                    clear hmw hiN2 hNv
                    generalize hs : mkW N k = s at *
                    have Hs := Lib.hid hs
                    clear hs
                    go_wp2_with fail
                    refine (HVk.out _ HSW.out).mono ?_
                    rintro e w5 ⟨v, rfl, hv, hb5⟩
                    have Hv := Lib.hid hv
                    have Hb5 := Lib.hid (HbW.out.trans (hb5.mono HbW.out.size))
                    have hg5 : g < wr.heap.size := HBi.out.lt
                    have hB5 := HBi.out.below hb5 hg5
                    have hcv5 := Hcv.out _ hB5
                    rw [show (⟨(mkL N k).toArray⟩ : ByteArray) = s from Hs.out] at hcv5
                    clear hv hb5 hB5 hcv
                    cases v
                    · have HNB2 := Lib.hid (HNB.out.step (fun h => by
                        rw [← Hs.out] at Hv
                        exact absurd (Hv.out.2 h) (by decide)))
                      go_wp2
                      go_roundw
                      case rel => exact ⟨k + 1, by omega, by go_num, Hb5, HNB2⟩
                      case measure => simp [intOf]; omega
                    · have HVV := Lib.hid (Hv.out.1 rfl)
                      clear Hv
                      go_wp2
                      go_ret2
                      refine ⟨s, 0, rfl, fun h => absurd HE0.out h, fun _ => .inl ⟨rfl, N, k, hN1, hNM, by rw [hP]; exact hkP, Hs.out.symm, by rw [Hs.out]; exact HVV.out, HNB.out⟩, Hb5.out⟩
              · have hkI : ¬ (k : Int) < (P : Int) := by omega
                have HNB2 := Lib.hid (HNB.out.next (by rw [hP]; omega))
                go_wp2
                go_roundw
                case rel => exact ⟨N + 1, by omega, by omega, by go_num, Hb, HNB2⟩
                case measure => simp [intOf]; omega
          · have hNI : ¬ (N : Int) ≤ (M : Int) := by omega
            have HNB2 : Hid (NoneBefore n ws (M + 1) 0) := Lib.hid (by rw [show M + 1 = N from by omega]; exact HNB.out)
            go_wp2
            go_ret2
            exact ⟨_, _, rfl, fun h => absurd HE0.out h, fun _ => .inr ⟨rfl, rfl, HNB2.out⟩, Hb.out⟩
      · have h3b : (e1 != 0) = true := by rw [bne_iff_ne]; exact h3
        have HE0 : Hid (E = e1) := HE
        have H3 := Lib.hid h3
        clear hwok h3 HE
        go_enter Try.func36, Try.ntmps36
        go_wp2_with first
          | (go_at_call 60; go_fit (Hcs.out _); rintro e w' ⟨rfl, rfl⟩)
          | (go_at_call 56; go_fit HW.out; rintro e w2 ⟨rfl, hd⟩; have Hb2 := Lib.hid (Drawn.below hd w.heap.size); clear hd)
        go_ret2
        exact ⟨_, _, rfl, fun _ => ⟨HE0.out.symm, rfl⟩, fun h => absurd (HE0.out.symm.trans h) H3.out, Hb2.out⟩
end Go.Proofs.Ytlkajmdcffemeaa
