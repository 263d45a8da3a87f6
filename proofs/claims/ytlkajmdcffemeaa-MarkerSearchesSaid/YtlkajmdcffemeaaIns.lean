/- The walks of marker.cut, track, Insert. -/
import Derived.Test.YtlkajmdcffemeaaStrs
import Derived.Test.YtlkajmdcffemeaaBld
import Derived.Test.YtlkajmdcffemeaaChk
import Derived.Test.YtlkajmdcffemeaaLocate
import Derived.Outline
import Derived.Deep.DeepFit
namespace Go.Proofs.Ytlkajmdcffemeaa
open Go.RowKit

/-- A word in parts of n letters. -/
def chunks (n : Nat) : Nat → ByteArray → List ByteArray
  | 0, _ => []
  | f + 1, s => if s.size = 0 then [] else s.extract 0 n :: chunks n f (s.extract n s.size)
theorem chunks_fuel (n : Nat) (hn : 0 < n) : ∀ f g s, s.size ≤ f → s.size ≤ g → chunks n f s = chunks n g s
  | 0, g, s, h, _ => by
    have : s.size = 0 := by omega
    cases g <;> simp [chunks, this]
  | f + 1, 0, s, _, h => by
    have : s.size = 0 := by omega
    simp [chunks, this]
  | f + 1, g + 1, s, h1, h2 => by
    simp only [chunks]
    split
    · rfl
    · rw [chunks_fuel n hn f g _ (by rw [ByteArray.size_extract]; omega) (by rw [ByteArray.size_extract]; omega)]
def chunksW (n : Nat) (s : ByteArray) : List ByteArray := chunks n s.size s
theorem chunksW_nil {n : Nat} {s : ByteArray} (h : s.size = 0) : chunksW n s = [] := by unfold chunksW; rw [h]; rfl
theorem chunksW_step {n : Nat} {s : ByteArray} (hn : 0 < n) (h : s.size ≠ 0) : chunksW n s = s.extract 0 n :: chunksW n (s.extract n s.size) := by
  unfold chunksW
  obtain ⟨k, hk⟩ : ∃ k, s.size = k + 1 := ⟨s.size - 1, by omega⟩
  rw [show chunks n s.size s = chunks n (k + 1) s from by rw [hk]]
  simp only [chunks]
  rw [if_neg h]
  congr 1
  exact chunks_fuel n hn _ _ _ (by rw [ByteArray.size_extract]; omega) (Nat.le_refl _)
theorem chunks_len (n : Nat) (hn : 0 < n) : ∀ f s, (chunks n f s).length ≤ f
  | 0, s => by simp [chunks]
  | f + 1, s => by
    simp only [chunks]
    split
    · simp
    · have := chunks_len n hn f (s.extract n s.size)
      simp only [List.length_cons]; omega
/-- What cut gives. -/
def RetStrs (xs : List ByteArray) (w : World) (e : Ending) (w' : World) : Prop := ∃ v, e = .returned v ∧ OwnStrs w' w.heap.size v xs ∧ Below w.heap.size w w'

set_option maxRecDepth 100000 in
set_option maxHeartbeats 4000000 in
theorem cut_any (n : Nat) (s : ByteArray) (hn : 0 < n) (hn2 : n ≤ 1000000) (hs : s.size ≤ 1000000000) (hd : s.size % n = 0) (w : World) :
    Calls Try.prog 43 #[.string s, .int .i64 (n : Int)] w (RetStrs (chunksW n s) w) := by
  have Hlen := Lib.hid (show (chunksW n s).length ≤ s.size from chunks_len n hn _ _)
  go_enter Try.func43, Try.ntmps43
  go_wp2
  go_loopw [0, 5] (fun t v wr => ∃ (pre : List ByteArray) (r : ByteArray), t = .string r ∧ r.size ≤ 1000000000 ∧ Hid (r.size % n = 0) ∧ Hid (chunksW n s = pre ++ chunksW n r) ∧ Hid (OwnStrs wr w.heap.size v pre) ∧ Below w.heap.size w wr) (fun t _ _ => match t with | .string r => r.size | _ => 0)
  case atStart => exact ⟨[], s, rfl, hs, Lib.hid hd, Lib.hid rfl, Lib.hid (OwnStrs.nil _ _), Below.refl _ _⟩
  case round =>
    have Hs := Lib.hid hs
    clear hs hd
    obtain ⟨pre, r, rfl, hrs, hrd, hL, Hown, hb⟩ := hrel
    by_cases h0 : r.size = 0
    · have h0I : ¬ (0 : Int) < (r.size : Int) := by omega
      have hfin := Lib.hid (show pre = chunksW n s by rw [hL.out, chunksW_nil h0, List.append_nil])
      have Hb := Lib.hid hb
      clear hb h0 hL hrd
      go_wp2
      go_ret
      exact ⟨_, rfl, by rw [← hfin.out]; exact Hown.out, Hb.out⟩
    · have h0I : (0 : Int) < (r.size : Int) := by omega
      have hle : n ≤ r.size := by
        have := hrd.out
        apply Nat.le_of_dvd (by omega)
        exact Nat.dvd_of_mod_eq_zero this
      have hle2 : (n : Int) ≤ (r.size : Int) := by omega
      have hst := Lib.hid (show chunksW n s = (pre ++ [r.extract 0 n]) ++ chunksW n (r.extract n r.size) by rw [hL.out, chunksW_step hn h0]; simp)
      have hpl : pre.length < 1000000000000 := by
        have h1 := Hlen.out
        rw [hL.out, List.length_append] at h1
        have h2 := Hs.out
        omega
      have hsz := hb.size
      have Hb := Lib.hid hb
      clear hb h0
      go_wp2_with (at_builtin; refine wpList_append_str rfl _ _ rfl w.heap.size _ _ rfl (Hown.out.alloc _) wr.heap.size 1 (r.extract 0 n) rfl ?_ ?_ ?_ ?_)
      · exact cell_new0 _ _ _
      · exact hpl
      · simp; omega
      intro v' w2 hown' hgrow
      have hb2 := Lib.hid (below_append (Hb.out.alloc hsz _) (Hown.out.alloc _) hgrow (by simp; omega) (Nat.le_refl _))
      have Hown' := Lib.hid hown'
      clear hown' hgrow
      go_wp2
      go_roundw
      case rel => exact ⟨pre ++ [r.extract 0 n], r.extract n r.size, rfl, by rw [ByteArray.size_extract]; omega, Lib.hid (by rw [ByteArray.size_extract, Nat.min_self]; exact (Nat.sub_mod_eq_zero_of_mod_eq (by rw [hrd.out, Nat.mod_self]))), hst, Hown', hb2.out⟩
      case measure => simp only [ByteArray.size_extract]; omega

/-- The track of words. -/
def trackL (m : ByteArray) (xs : List ByteArray) : List UInt8 := xs.flatMap fun x => (x ++ m).data.toList
theorem trackL_succ {m : ByteArray} {xs : List ByteArray} {k : Nat} (h : k < xs.length) : trackL m (xs.take (k + 1)) = trackL m (xs.take k) ++ (xs.getD k ByteArray.empty ++ m).data.toList := by
  unfold trackL
  rw [List.take_succ_eq_append_getElem h, List.flatMap_append]
  simp [List.getD_eq_getElem?_getD, h]
theorem trackL_take_le (m : ByteArray) (xs : List ByteArray) (k : Nat) : (trackL m (xs.take k)).length ≤ (trackL m xs).length := by
  have : trackL m xs = trackL m (xs.take k) ++ trackL m (xs.drop k) := by
    unfold trackL
    rw [← List.flatMap_append, List.take_append_drop]
  rw [this, List.length_append]; omega

set_option maxRecDepth 100000 in
set_option maxHeartbeats 4000000 in
theorem track_any (m : ByteArray) (xs : List ByteArray) (p : Option Addr) (c : Nat) (w : World) (hX : StrsAt w p xs) (hl : xs.length ≤ 1000000000) (ht : (trackL m xs).length ≤ 1000000000000) :
    Calls Try.prog 42 #[.string m, .slice p xs.length c] w fun e w' => e = .returned (.string ⟨(trackL m xs).toArray⟩) ∧ Below w.heap.size w w' := by
  have HX := Lib.hid hX
  clear hX
  go_enter Try.func42, Try.ntmps42
  go_wp2
  go_loopw [10] (fun i wr => ∃ k : Nat, k ≤ xs.length ∧ i = .int .i64 k ∧ Below w.heap.size w wr ∧ Hid (Lib.IsBuilder 71 5 w.heap.size w.heap.size (Lib.byteCells (trackL m (xs.take k))) wr)) (fun i _ => xs.length - (intOf i).toNat)
  case atStart => exact ⟨0, by omega, rfl, (Below.refl _ _).alloc (Nat.le_refl _) _, Lib.hid (Lib.fresh_isBuilder 71 5 w)⟩
  case round =>
    obtain ⟨k, hk, rfl, hb, hI⟩ := hrel
    by_cases hlt : k < xs.length
    · obtain ⟨b, off, rfl, hbl, hcell⟩ := StrsAt.cells HX.out hlt
      have hx := hcell k hlt
      rw [← hb.cell (p := ⟨b, _, none⟩) hbl] at hx
      obtain ⟨x, hxe⟩ : ∃ x, xs.getD k ByteArray.empty = x := ⟨_, rfl⟩
      rw [hxe] at hx
      have htk := Lib.hid (trackL_succ (m := m) hlt)
      have hlen : (trackL m (xs.take k)).length + (x ++ m).size ≤ 1000000000000 := by
        have h1 := trackL_take_le m xs (k + 1)
        rw [htk.out, List.length_append, hxe] at h1
        have : (x ++ m).data.toList.length = (x ++ m).size := by simp
        omega
      have hsum : x.size + m.size ≤ 1000000000000 := by have := ByteArray.size_append (a := x) (b := m); omega
      have hsum2 : x.size + m.size ≤ maxLen := by unfold maxLen; omega
      have hiI : (k : Int) < (xs.length : Int) := by omega
      have hsz := hb.size
      have Hxe := Lib.hid hxe
      have Hb := Lib.hid hb
      clear hcell hxe hb
      go_wp2_with fail
      refine (writeString_any w.heap.size w.heap.size (Lib.byteCells (trackL m (xs.take k))) (x ++ m) _ hI.out (by rw [Lib.byteCells_length]; omega) hsz).mono ?_
      rintro e w2 ⟨rfl, hI2, hb2⟩
      have HI2 := Lib.hid hI2
      have Hb2 := Lib.hid (Hb.out.trans hb2)
      clear hI2 hb2
      go_wp2
      go_roundw
      case rel => exact ⟨k + 1, by omega, by go_num, Hb2.out, Lib.hid (by rw [htk.out, Hxe.out]; simpa [Lib.byteCells, Lib.strCells] using HI2.out)⟩
      case measure => simp [intOf]; omega
    · have hkI : ¬ (k : Int) < (xs.length : Int) := by omega
      have hk2 : k = xs.length := by omega
      have Hk := Lib.hid hk2
      have hsz := hb.size
      have Hb := Lib.hid hb
      have HI : Hid (Lib.IsBuilder 71 5 w.heap.size w.heap.size (Lib.byteCells (trackL m xs)) wr) := Lib.hid (by have := hI.out; rwa [hk2, List.take_of_length_le (Nat.le_refl _)] at this)
      clear hk2 hb hI
      go_wp2_with (go_at_call 47; go_fit (Try.Builder_String_any w.heap.size w.heap.size (trackL m xs) _ HI.out hsz); rintro e w2 ⟨rfl, hb2⟩; have Hb2 := Lib.hid (Hb.out.trans hb2); clear hb2)
      go_ret
      exact ⟨rfl, Hb2.out⟩
end Go.Proofs.Ytlkajmdcffemeaa
