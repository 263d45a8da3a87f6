/- The walks of groovelaw49.joined and blocks. -/
import Derived.Test.YtlkajmdcffemeaaStrs
import Derived.Test.YtlkajmdcffemeaaIns
import Derived.Laws.BitsAllLaws
import Derived.Laws.IdiomStrings
namespace Go.Proofs.Ytlkajmdcffemeaa
open Go.RowKit

/-- Words one behind the other. -/
def joinL (xs : List ByteArray) : List UInt8 := xs.flatMap fun x => x.data.toList
theorem joinL_succ {xs : List ByteArray} {k : Nat} (h : k < xs.length) : joinL (xs.take (k + 1)) = joinL (xs.take k) ++ (xs.getD k ByteArray.empty).data.toList := by
  unfold joinL
  rw [List.take_succ_eq_append_getElem h, List.flatMap_append]
  simp [List.getD_eq_getElem?_getD, h]
theorem joinL_take_le (xs : List ByteArray) (k : Nat) : (joinL (xs.take k)).length ≤ (joinL xs).length := by
  have : joinL xs = joinL (xs.take k) ++ joinL (xs.drop k) := by
    unfold joinL
    rw [← List.flatMap_append, List.take_append_drop]
  rw [this, List.length_append]; omega
theorem bytes_append (l r : List UInt8) : (⟨(l ++ r).toArray⟩ : ByteArray) = ⟨l.toArray⟩ ++ ⟨r.toArray⟩ := by
  apply ByteArray.ext
  rw [ByteArray.data_append]
  simp

set_option maxRecDepth 100000 in
set_option maxHeartbeats 4000000 in
theorem joined_any (xs : List ByteArray) (p : Option Addr) (c : Nat) (w : World) (hX : StrsAt w p xs) (hl : xs.length ≤ 1000000000) (ht : (joinL xs).length ≤ 1000000000000) :
    Calls Try.prog 21 #[.slice p xs.length c] w fun e w' => e = .returned (.string ⟨(joinL xs).toArray⟩) ∧ w = w' := by
  have HX := Lib.hid hX
  clear hX
  go_enter Try.func21, Try.ntmps21
  go_wp2
  go_loop [3, 8] (fun v i => ∃ (k : Nat) (a : ByteArray), k ≤ xs.length ∧ i = .int .i64 k ∧ v = .string a ∧ Hid (a = ⟨(joinL (xs.take k)).toArray⟩)) (fun _ i => xs.length - (intOf i).toNat)
  case atStart => exact ⟨0, _, by omega, rfl, rfl, Lib.hid rfl⟩
  case round =>
    obtain ⟨k, a, hk, rfl, rfl, ha⟩ := hrel
    by_cases hlt : k < xs.length
    · obtain ⟨b, off, rfl, hbl, hcell⟩ := StrsAt.cells HX.out hlt
      have hx := hcell k hlt
      obtain ⟨x, hxe⟩ : ∃ x, xs.getD k ByteArray.empty = x := ⟨_, rfl⟩
      rw [hxe] at hx
      have htk := Lib.hid (joinL_succ hlt)
      have hsum : a.size + x.size ≤ 1000000000000 := by
        have h1 := joinL_take_le xs (k + 1)
        rw [htk.out, List.length_append, hxe] at h1
        have e1 : x.data.toList.length = x.size := by simp
        have e2 : a.size = (joinL (xs.take k)).length := by rw [ha.out]; rfl
        omega
      have hsum2 : a.size + x.size ≤ maxLen := by unfold maxLen; omega
      have hiI : (k : Int) < (xs.length : Int) := by omega
      have Hxe := Lib.hid hxe
      clear hcell hxe
      go_wp2
      go_round
      case rel =>
        refine ⟨k + 1, _, by omega, by go_num, rfl, Lib.hid ?_⟩
        rw [htk.out, bytes_append, ← ha.out, Hxe.out]
      case measure => simp [intOf]; omega
    · have hkI : ¬ (k : Int) < (xs.length : Int) := by omega
      have Ha : Hid (a = ⟨(joinL xs).toArray⟩) := Lib.hid (by rw [ha.out, List.take_of_length_le (by omega)])
      clear ha
      go_wp2
      go_ret
      exact ⟨by rw [← Ha.out]; rfl, rfl⟩

/-- A word of the bits of a number. -/
def blkW (b n : Nat) : ByteArray := ⟨((List.range b).map fun i => UInt8.ofNat (48 + n / 2 ^ i % 2)).toArray⟩
def blkWs (b : Nat) (l : List Nat) : List ByteArray := l.map (blkW b)
/-- A slice header at p reads as these bytes. -/
def ByteAt (w : World) (p : Option Addr) (xs : List Nat) : Prop := SlAt 1 w p xs.length (fun i _ => .int .u8 (xs.getD i 0 : Nat))
theorem ByteAt.below {w w' : World} {p : Option Addr} {xs : List Nat} (h : ByteAt w p xs) {B : Nat} (hB : w.heap.size ≤ B) (hb : Below B w w') : ByteAt w' p xs := h.mono hB hb
theorem ByteAt.cells {w : World} {p : Option Addr} {xs : List Nat} (h : ByteAt w p xs) {k : Nat} (hk : k < xs.length) :
    ∃ b off, p = some ⟨b, off, none⟩ ∧ b < w.heap.size ∧ ∀ i, i < xs.length → w.cell? ⟨b, off + i, none⟩ = some (.int .u8 (xs.getD i 0 : Nat)) := by
  rcases h with h | ⟨b, off, rfl, hlt, hc⟩
  · omega
  · exact ⟨b, off, rfl, hlt, fun i hi => by simpa using hc i hi 0 (by omega)⟩

set_option maxRecDepth 100000 in
set_option maxHeartbeats 4000000 in
theorem blocksL_any (b : Nat) (hb : b ≤ 8) (xs : List Nat) (hx : ∀ x ∈ xs, x < 256) (p : Option Addr) (c : Nat) (w : World) (hX : ByteAt w p xs) (hl : xs.length ≤ 1000000) :
    Calls Try.prog 22 #[.int .i64 (b : Int), .slice p xs.length c] w (RetStrs (blkWs b xs) w) := by
  have HX := Lib.hid hX
  have Hx := Lib.hid hx
  clear hX hx
  go_enter Try.func22, Try.ntmps22
  go_wp2
  go_loopw [5, 12] (fun v i wr => ∃ k : Nat, k ≤ xs.length ∧ i = .int .i64 k ∧ Hid (OwnStrs wr w.heap.size v (blkWs b (xs.take k))) ∧ Below w.heap.size w wr) (fun _ i _ => xs.length - (intOf i).toNat)
  case atStart => exact ⟨0, by omega, rfl, Lib.hid (OwnStrs.nil _ _), Below.refl _ _⟩
  case round =>
    obtain ⟨k, hk, rfl, Hown, hbl⟩ := hrel
    by_cases hlt : k < xs.length
    · obtain ⟨bb, off, rfl, hbb, hcell⟩ := ByteAt.cells HX.out hlt
      have hx1 := hcell k hlt
      rw [← hbl.cell (p := ⟨bb, _, none⟩) hbb] at hx1
      obtain ⟨x, hxe⟩ : ∃ x, xs.getD k 0 = x := ⟨_, rfl⟩
      rw [hxe] at hx1
      have hx256 : x < 256 := by
        rw [← hxe, List.getD_eq_getElem?_getD, List.getElem?_eq_getElem hlt]
        exact Hx.out _ (List.getElem_mem hlt)
      have hiI : (k : Int) < (xs.length : Int) := by omega
      have Hxe := Lib.hid hxe
      have Hbl := Lib.hid hbl
      clear hcell hxe hbl
      obtain ⟨wo, rfl⟩ : ∃ wo : World, wo = wr := ⟨_, rfl⟩
      go_wp2
      go_loopw [8, 17] (fun v i wr => ∃ (j : Nat) (a : ByteArray), j ≤ b ∧ i = .int .i64 j ∧ v = .string a ∧ Hid (a = blkW j x) ∧ Below wo.heap.size wo wr) (fun _ i _ => b - (intOf i).toNat)
      case atStart => exact ⟨0, ⟨#[]⟩, by omega, rfl, rfl, Lib.hid rfl, Below.refl _ _⟩
      case round =>
        obtain ⟨j, a, hj, rfl, rfl, ha, hbw⟩ := hrel
        have Hbw := Lib.hid hbw
        have hsz := hbw.size
        by_cases hjb : j < b
        · have hjI : (j : Int) < (b : Int) := by omega
          have hx2 : x / 2 ^ j < 256 := Nat.lt_of_le_of_lt (Nat.div_le_self _ _) hx256
          obtain ⟨y, hy⟩ : ∃ y : UInt8, UInt8.ofNat (48 + x / 2 ^ j % 2) = y := ⟨_, rfl⟩
          have hyn : y.toNat = 48 + x / 2 ^ j % 2 := by rw [← hy]; simp; omega
          have hd2 : (x : Int) / 2 ^ j = ((x / 2 ^ j : Nat) : Int) := by simp
          have hand : bits .and .u8 ((x : Int) / 2 ^ j) 1 = ((x / 2 ^ j % 2 : Nat) : Int) := by
            rw [hd2]
            have := u8_and_nat (x / 2 ^ j) 1 hx2 (by decide)
            rw [Nat.and_one_is_mod] at this
            exact this
          obtain ⟨t, ht⟩ : ∃ t, x / 2 ^ j % 2 = t := ⟨_, rfl⟩
          rw [ht] at hand hyn
          have htl : t < 2 := by omega
          have hsum : (48 : Int) + (t : Int) = (y.toNat : Int) := by omega
          have hcv := fun (W0 : World) (hc : W0.cell? ⟨wr.heap.size, 0, none⟩ = some (.int .u8 (y.toNat : Int))) => run_convert_bytes_back (P := Try.prog) W0 40 9 5 ⟨wr.heap.size, 0, none⟩ 1 [y] Try.underlying40 Try.underlying5 Try.underlying9 (fun j hj => by
            match j, (show j < 1 from hj) with
            | 0, _ => simpa [Addr.add] using hc)
          have hcv2 : (convert 40 9 (.slice (some ⟨wr.heap.size, 0, none⟩) 1 1)).run Try.prog (wr.alloc (.cells #[.int .u8 (y.toNat : Int)] 5)) = .ok (.string ⟨#[y]⟩) (wr.alloc (.cells #[.int .u8 (y.toNat : Int)] 5)) := hcv (wr.alloc (.cells #[.int .u8 (y.toNat : Int)] 5)) (cell_new0 _ _ _)
          have hal : a.size + 1 ≤ maxLen := by
            have : a.size = j := by rw [ha.out]; show (((List.range j).map fun i => UInt8.ofNat (48 + x / 2 ^ i % 2)).toArray).size = j; simp
            unfold maxLen; omega
          have hal2 : ¬ 9223372036854775807 < a.size + (⟨#[y]⟩ : ByteArray).size := by
            have e1 : (⟨#[y]⟩ : ByteArray).size = 1 := rfl
            unfold maxLen at hal; omega
          have Hy := Lib.hid hy
          have Ht := Lib.hid ht
          clear hbw hcv hyn hd2 hy ht
          go_wp2
          go_roundw
          case rel =>
            refine ⟨j + 1, _, by omega, by go_num, rfl, Lib.hid ?_, (Hbw.out.alloc hsz _)⟩
            rw [ha.out]
            unfold blkW
            rw [List.range_succ, List.map_append, bytes_append, List.map_cons, List.map_nil, Hy.out]
          case measure => simp [intOf]; omega
        · have hjI : ¬ (j : Int) < (b : Int) := by omega
          have hjb2 : j = b := by omega
          have Ha : Hid (a = blkW b x) := Lib.hid (by rw [ha.out, hjb2])
          have hW : wo.heap.size ≤ wr.heap.size := hsz
          clear hbw hjb2
          have Hb2 := Lib.hid (Hbl.out.trans (Hbw.out.mono Hbl.out.size))
          have Hown2 := Lib.hid (Hown.out.below (Nat.le_refl _) Hbw.out)
          have hs2 := Hb2.out.size
          have hpl : (blkWs b (xs.take k)).length < 1000000000000 := by unfold blkWs; rw [List.length_map, List.length_take]; omega
          go_wp2_with (at_builtin; refine wpList_append_str rfl _ _ rfl w.heap.size _ _ rfl (Hown2.out.alloc _) wr.heap.size 1 a rfl ?_ ?_ ?_ ?_)
          any_goals (first | exact cell_new0 _ _ _ | exact hpl | omega)
          intro v' w2 hown' hgrow
          have hb3 := Lib.hid (below_append (Hb2.out.alloc hs2 _) (Hown2.out.alloc _) hgrow (by simp; omega) (Nat.le_refl _))
          have Hown3 : Hid (OwnStrs w2 w.heap.size v' (blkWs b (xs.take (k + 1)))) := Lib.hid (by
            have e : blkWs b (xs.take (k + 1)) = blkWs b (xs.take k) ++ [a] := by
              unfold blkWs
              rw [List.take_succ_eq_append_getElem hlt, List.map_append, Ha.out, ← Hxe.out, List.getD_eq_getElem?_getD, List.getElem?_eq_getElem hlt]
              rfl
            rw [e]; exact hown')
          clear hown' hgrow
          go_wp2
          go_roundw
          case rel => exact ⟨k + 1, by omega, by go_num, Hown3, hb3.out⟩
          case measure => simp [intOf]; omega
    · have hkI : ¬ (k : Int) < (xs.length : Int) := by omega
      have Hown2 : Hid (OwnStrs wr w.heap.size u5 (blkWs b xs)) := Lib.hid (by have := Hown.out; rwa [List.take_of_length_le (by omega)] at this)
      have Hbl := Lib.hid hbl
      clear hbl Hown
      go_wp2
      go_ret
      exact ⟨_, rfl, Hown2.out, Hbl.out⟩
end Go.Proofs.Ytlkajmdcffemeaa
