/- The walk of word.Next at words of zeros and ones. -/
import Derived.Test.YtlkajmdcffemeaaSrc
import Derived.Test.YtlkajmdcffemeaaRnd
namespace Go.Proofs.Ytlkajmdcffemeaa
open Go.RowKit

theorem okL_mk (n k : Nat) : okL (mkL n k) := by
  intro c hc
  obtain ⟨t, _, rfl⟩ := List.mem_map.1 hc
  have := bitN_lt n k t
  have h : bitN n k t = 0 ∨ bitN n k t = 1 := by omega
  rcases h with h | h <;> rw [h] <;> decide
theorem check_mkW (n k : Nat) (hn : n ≤ 65536) : wordCheck 2 (mkW n k).data.toList = 0 := (wordCheck_two (by show (mkL n k).length ≤ _; rw [mkL_len]; exact hn)).2 (okL_mk n k)
/-- Block g begins with these n bytes. -/
def BytAt (w : World) (g : Nat) (F : Nat → Nat) (n : Nat) : Prop := g < w.heap.size ∧ ∀ j, j < n → w.cell? ⟨g, j, none⟩ = some (.int .u8 (F j : Nat)) ∧ w.frozen? ⟨g, j, none⟩ = false
theorem BytAt.set {w : World} {g n : Nat} {F : Nat → Nat} (h : BytAt w g F n) {j : Nat} (v : Nat) : BytAt (w.setCell ⟨g, j, none⟩ (.int .u8 v)) g (fun i => if i = j then v else F i) n := by
  refine ⟨by simpa using h.1, fun i hi => ⟨?_, by rw [World.frozen?_setCell]; exact (h.2 i hi).2⟩⟩
  by_cases e : i = j
  · subst e
    show _ = some (Value.int .u8 ((if i = i then v else F i : Nat) : Int))
    rw [if_pos rfl]
    exact World.cell?_setCell_same w _ _ (h.2 i hi).1
  · show _ = some (Value.int .u8 ((if i = j then v else F i : Nat) : Int))
    rw [if_neg e, World.cell?_setCell_other w _ _ _ (by intro hh; cases hh; exact e rfl)]
    exact (h.2 i hi).1
theorem BytAt.congr {w : World} {g n : Nat} {F G : Nat → Nat} (h : BytAt w g F n) (e : ∀ j, j < n → F j = G j) : BytAt w g G n :=
  ⟨h.1, fun j hj => by rw [← e j hj]; exact h.2 j hj⟩
theorem BytAt.below {w w' : World} {g n B : Nat} {F : Nat → Nat} (h : BytAt w g F n) (hb : Below B w w') (hg : g < B) : BytAt w' g F n :=
  ⟨Nat.lt_of_lt_of_le h.1 hb.size, fun j hj => ⟨(hb.cell (p := ⟨g, j, none⟩) hg).trans (h.2 j hj).1, (hb.frozen (p := ⟨g, j, none⟩) hg).trans (h.2 j hj).2⟩⟩
theorem bytsAt_string {w : World} {g n cap : Nat} {F : Nat → Nat} (h : BytAt w g F n) (l : List UInt8) (hl : l.length = n) (hF : ∀ j (hj : j < l.length), F j = l[j].toNat) :
    (convert 40 9 (.slice (some ⟨g, 0, none⟩) n cap)).run Try.prog w = .ok (.string ⟨l.toArray⟩) w := by
  subst hl
  refine run_convert_bytes_back (P := Try.prog) w 40 9 5 ⟨g, 0, none⟩ cap l Try.underlying40 Try.underlying5 Try.underlying9 (fun j hj => ?_)
  have := (h.2 j hj).1
  rw [hF j hj] at this
  rw [Addr.add_lit]; simpa using this
/-- []byte(s) of a marker. -/
theorem bytes_mkW (n k : Nat) (w : World) :
    ∃ cap w', (convert 9 40 (.string (mkW n k))).run Try.prog w = .ok (.slice (some ⟨w.heap.size, 0, none⟩) n cap) w' ∧ BytAt w' w.heap.size (fun t => 48 + bitN n k t) n ∧ Below w.heap.size w w' := by
  have h := run_bytes_of_string (P := Try.prog) w 9 40 5 (mkW n k) Try.underlying9 Try.underlying40 Try.underlying5
  rw [mkW_size] at h
  refine ⟨_, _, h, ?_, (Below.refl _ w).drew.alloc (Nat.le_refl _) _⟩
  obtain ⟨cap, hcap⟩ : ∃ cap, grownCap w n 0 5 = cap := ⟨_, rfl⟩
  rw [hcap]
  have hsz : n ≤ (bytesRow (mkW n k) cap).size := by
    unfold bytesRow
    rw [Array.size_append, Array.size_map]
    show n ≤ (mkL n k).toArray.size + _
    rw [List.size_toArray, mkL_len]; omega
  have hblk : (w.drew.alloc (.cells (bytesRow (mkW n k) cap) 5 ((bytesRow (mkW n k) cap).size, (bytesRow (mkW n k) cap).size + 1))).heap[w.heap.size]? = some (.cells (bytesRow (mkW n k) cap) 5 ((bytesRow (mkW n k) cap).size, (bytesRow (mkW n k) cap).size + 1)) := heap_alloc_new w.drew _
  refine ⟨by simp, fun j hj => ⟨?_, ?_⟩⟩
  · unfold World.cell?
    simp only [hblk]
    have : (bytesRow (mkW n k) cap)[j]? = some (.int .u8 ((48 + bitN n k j : Nat) : Int)) := by
      unfold bytesRow
      rw [Array.getElem?_append_left (by rw [Array.size_map]; show j < (mkL n k).toArray.size; rw [List.size_toArray, mkL_len]; exact hj), Array.getElem?_map]
      have h2 := mkL_get (n := n) (k := k) hj
      show Option.map _ ((mkL n k).toArray[j]?) = _
      rw [List.getElem?_toArray, h2]
      simp only [Option.map_some]
      have hb := bitN_lt n k j
      have h3 : bitN n k j = 0 ∨ bitN n k j = 1 := by omega
      rcases h3 with h3 | h3 <;> rw [h3] <;> rfl
    simpa using this
  · unfold World.frozen?
    simp only [hblk]
    rw [Bool.and_eq_false_iff]
    left
    rw [decide_eq_false_iff_not]
    show ¬ (bytesRow (mkW n k) cap).size ≤ j
    omega
theorem idx_bit (n k t : Nat) (w : World) :
    Calls Try.prog 62 #[.string (({ data := #[48, 49, 50, 51, 52, 53, 54, 55, 56, 57, 97, 98, 99, 100, 101, 102] } : ByteArray)), .int .u8 ((48 + bitN n k t : Nat) : Int)] w fun e w' => e = .returned (.int .i64 (bitN n k t : Nat)) ∧ w' = w := by
  have h := Try.strings_IndexByte (({ data := #[48, 49, 50, 51, 52, 53, 54, 55, 56, 57, 97, 98, 99, 100, 101, 102] } : ByteArray)) ((48 + bitN n k t : Nat) : Int) w
  have hb := bitN_lt n k t
  have h2 : bitN n k t = 0 ∨ bitN n k t = 1 := by omega
  rcases h2 with h2 | h2 <;> rw [h2] at h ⊢ <;> exact h

set_option maxRecDepth 100000 in
set_option maxHeartbeats 4000000 in
theorem Next_any (n k : Nat) (hn1 : 1 ≤ n) (hn2 : n ≤ 100) (hk : k < 2 ^ n) (w : World) :
    Calls Try.prog 38 #[.int .i64 2, .string (mkW n k)] w fun e w' => e = .returned (.tuple #[.string (nextW n k), .int .i64 0]) ∧ Below w.heap.size w w' := by
  have Hc := Lib.hid (wordCheck_any 2 (mkW n k) (by rw [mkW_size]; unfold maxLen; omega))
  rw [check_mkW n k (by omega)] at Hc
  have Hcv := Lib.hid (bytes_mkW n k)
  go_enter Try.func38, Try.ntmps38
  go_wp2_with fail
  refine (Hc.out _).mono ?_
  rintro e w1 ⟨rfl, hd⟩
  obtain ⟨cap, w2, hcv, hB, hb⟩ := Hcv.out w1
  have Hb2 := Lib.hid ((Drawn.below hd w.heap.size).trans (hb.mono (by rw [hd.heap]; exact Nat.le_refl _)))
  have hgw : w.heap.size ≤ w1.heap.size := by rw [hd.heap]; exact Nat.le_refl _
  obtain ⟨g, hg⟩ : ∃ g, w1.heap.size = g := ⟨_, rfl⟩
  rw [hg] at hcv hB hgw
  have HB := Lib.hid hB
  clear hd hb hB
  go_wp2_with fail
  go_loopw [8] (fun v wr => ∃ m : Nat, m ≤ n ∧ v = .int .i64 ((m : Int) - 1) ∧ Hid (BytAt wr g (fun t => if t < m then 48 + bitN n k t else 48) n) ∧ Hid (Below w.heap.size w wr) ∧ Hid (1 ≤ m → Tail1 n k (m - 1)) ∧ Hid (m = 0 → k + 1 = 2 ^ n)) (fun v _ => (intOf v + 1).toNat)
  case atStart => exact ⟨n, by omega, by go_num, Lib.hid (HB.out.congr (fun j hj => by rw [if_pos hj])), Hb2, Lib.hid (fun _ => tail1_last n k), Lib.hid (fun h => by omega)⟩
  case round =>
    obtain ⟨m, hm, rfl, HBm, Hbm, HT, HA⟩ := hrel
    by_cases hm0 : m = 0
    · subst hm0
      have hneg : ¬ ((0 : Int) ≤ ((0 : Nat) : Int) - 1) := by omega
      have HS := Lib.hid (bytsAt_string (cap := cap) HBm.out (List.replicate n 48) List.length_replicate (fun j hj => by rw [if_neg (by omega)]; simp))
      have HN : Hid ((⟨(List.replicate n 48).toArray⟩ : ByteArray) ++ ⟨#[48]⟩ = nextW n k) := Lib.hid (by
        have : nextW n k = mkW (n + 1) 0 := by unfold nextW; rw [if_neg (by have := HA.out rfl; omega)]
        rw [this]
        unfold mkW
        rw [mkL_zero]
        apply ByteArray.ext
        rw [ByteArray.data_append]
        apply Array.ext'
        rw [List.replicate_succ']
        simp)
      have hcvs := HS.out
      have hz : (⟨(List.replicate n 48).toArray⟩ : ByteArray).size = n := by show ((List.replicate n 48).toArray).size = n; simp
      have hs1 : ¬ 9223372036854775807 < n + 1 := by omega
      have hl0 : ((n : Int) == 65536) = false := by rw [beq_eq_false_iff_ne]; omega
      generalize (⟨(List.replicate n 48).toArray⟩ : ByteArray) = z at *
      go_wp2
      go_ret2
      exact ⟨by rw [← HN.out]; rfl, Hbm.out⟩
    · obtain ⟨i, rfl⟩ : ∃ i, m = i + 1 := ⟨m - 1, by omega⟩
      have hii : ((i + 1 : Nat) : Int) - 1 = (i : Int) := by omega
      rw [hii]
      have hi0 : (0 : Int) ≤ (i : Int) := by omega
      have hi1 : (i : Int) < (n : Int) := by omega
      obtain ⟨ci, cf⟩ := HBm.out.2 i (by omega)
      dsimp only at ci
      rw [if_pos (by omega)] at ci
      have HI := Lib.hid (idx_bit n k i)
      have hbl := bitN_lt n k i
      have HT1 := Lib.hid (HT.out (by omega))
      by_cases hb0 : bitN n k i = 0
      · rw [hb0] at ci HI
        have HN := Lib.hid (nextW_at (n := n) (k := k) (i := i) (by omega) HT1.out hb0 hk)
        clear hb0 hbl
        have hBs : BytAt (wr.setCell ⟨g, i, none⟩ (.int .u8 49)) g (fun t => if t = i then 49 else if t < i + 1 then 48 + bitN n k t else 48) n := HBm.out.set (j := i) 49
        have HS := Lib.hid (bytsAt_string (cap := cap) hBs ((mkL n k).take i ++ 49 :: List.replicate (n - 1 - i) 48) (by rw [List.length_append, List.length_take, mkL_len, List.length_cons, List.length_replicate]; omega) (fun j hj => by
          have hj2 : j < n := by rw [List.length_append, List.length_take, mkL_len, List.length_cons, List.length_replicate] at hj; omega
          rcases Nat.lt_trichotomy j i with h | h | h
          · rw [if_neg (by omega), if_pos (by omega)]
            rw [List.getElem_append_left (by rw [List.length_take, mkL_len]; omega), List.getElem_take]
            exact mkL_byte (by rw [mkL_len]; exact hj2)
          · subst h
            rw [if_pos rfl, List.getElem_append_right (by rw [List.length_take, mkL_len]; omega)]
            simp [mkL_len, Nat.min_eq_left (show j ≤ n by omega)]
          · rw [if_neg (by omega), if_neg (by omega)]
            rw [List.getElem_append_right (by rw [List.length_take, mkL_len]; omega)]
            have hidx : j - ((mkL n k).take i).length = (j - i - 1) + 1 := by rw [List.length_take, mkL_len]; omega
            simp only [hidx, List.getElem_cons_succ, List.getElem_replicate]
            rfl))
        rw [← HN.out] at HS
        have Hbs := Lib.hid (Hbm.out.setCell (p := ⟨g, i, none⟩) hgw (.int .u8 49))
        have hcvs := HS.out
        have h49 : (({ data := #[48, 49, 50, 51, 52, 53, 54, 55, 56, 57, 97, 98, 99, 100, 101, 102] } : ByteArray)[1]).toNat = 49 := rfl
        clear hBs
        go_wp2_with (go_at_call 62; go_fit (HI.out _); rintro e w5 ⟨rfl, rfl⟩)
        go_ret2
        exact ⟨rfl, Hbs.out⟩
      · have hb1 : bitN n k i = 1 := by omega
        rw [hb1] at ci HI
        have hBs : BytAt (wr.setCell ⟨g, i, none⟩ (.int .u8 48)) g (fun t => if t = i then 48 else if t < i + 1 then 48 + bitN n k t else 48) n := HBm.out.set (j := i) 48
        have HBs : Hid (BytAt (wr.setCell ⟨g, i, none⟩ (.int .u8 48)) g (fun t => if t < i then 48 + bitN n k t else 48) n) := Lib.hid (hBs.congr (fun j hj => by
          by_cases e : j = i
          · rw [if_pos e, if_neg (by omega)]
          · rw [if_neg e]
            by_cases h : j < i
            · rw [if_pos h, if_pos (by omega)]
            · rw [if_neg h, if_neg (by omega)]))
        have Hbs := Lib.hid (Hbm.out.setCell (p := ⟨g, i, none⟩) hgw (.int .u8 48))
        have HT2 : Hid (1 ≤ i → Tail1 n k (i - 1)) := Lib.hid (fun h => tail1_step (by omega) (by rw [Nat.sub_add_cancel h]; exact HT1.out) (by rw [Nat.sub_add_cancel h]; exact hb0))
        have HA2 : Hid (i = 0 → k + 1 = 2 ^ n) := Lib.hid (fun h => by subst h; exact tail1_all (by omega) hk HT1.out hb0)
        clear hBs hb1 hb0 hbl
        go_wp2_with (go_at_call 62; go_fit (HI.out _); rintro e w5 ⟨rfl, rfl⟩)
        go_roundw
        case rel => exact ⟨i, by omega, by go_num, HBs, Hbs, HT2, HA2⟩
        case measure => simp [intOf]
end Go.Proofs.Ytlkajmdcffemeaa
