/- Plain laws: the blocks of a track have the shift 0. -/
import Derived.Test.YtlkajmdcffemeaaRnd2
import Derived.Test.YtlkajmdcffemeaaQ8
namespace Go.Proofs.Ytlkajmdcffemeaa

theorem track_cons (m x : ByteArray) (ws : List ByteArray) : (trackOf m (x :: ws)).data.toList = x.data.toList ++ (m.data.toList ++ (trackOf m ws).data.toList) := by
  show joinL ((x :: ws).map (· ++ m)) = _
  have e : joinL ((x :: ws).map (· ++ m)) = (x ++ m).data.toList ++ joinL (ws.map (· ++ m)) := rfl
  rw [e, append_list, List.append_assoc]; rfl
theorem size_list (s : ByteArray) : s.data.toList.length = s.size := by simp
theorem bytes_eq {a b : ByteArray} (h : a.data.toList = b.data.toList) : a = b := ByteArray.ext (Array.ext' h)
theorem fits_track {b : Nat} {m x : ByteArray} {ws : List ByteArray} (hx : x.size = b) : fitsB b m (trackOf m (x :: ws)) 0 = true := by
  unfold fitsB
  rw [Int.add_zero, Int.toNat_natCast]
  have hl := congrArg List.length (track_cons m x ws)
  rw [size_list, List.length_append, size_list, hx] at hl
  rw [Bool.and_eq_true, decide_eq_true_eq]
  refine ⟨by omega, ?_⟩
  unfold Lib.hasPrefix
  rw [List.isPrefixOf_iff_prefix, rest_list, track_cons, ← hx, ← size_list x, List.drop_left']
  · exact List.prefix_append _ _
  · rfl
theorem blks_track {b : Nat} {m : ByteArray} (hm : 0 < m.size) : ∀ {ws : List ByteArray}, (∀ x ∈ ws, x.size = b) → blksW b m (trackOf m ws) = ws.map fun x => (x, 0)
  | [], _ => by rw [blksW_nil (by rfl)]; rfl
  | x :: ws, h => by
    have hx := h x (List.mem_cons_self ..)
    have ih := blks_track hm (fun y hy => h y (List.mem_cons_of_mem _ hy))
    have hsh : shiftB b m (trackOf m (x :: ws)) = 0 := by
      unfold shiftB; rw [if_pos (fits_track hx)]
    have hl := congrArg List.length (track_cons m x ws)
    rw [size_list, List.length_append, List.length_append, size_list, size_list, size_list, hx] at hl
    rw [blksW_step hm (by omega) (by rw [hsh]; decide), hsh, Int.add_zero, Int.toNat_natCast, List.map_cons]
    congr 1
    · congr 1
      apply bytes_eq
      rw [cut_list, List.drop_zero, Nat.sub_zero, track_cons, ← hx, ← size_list x, List.take_left']
      rfl
    · rw [← ih]
      congr 1
      apply bytes_eq
      rw [rest_list, track_cons, ← List.drop_drop, ← hx, ← size_list x, List.drop_left' rfl, ← size_list m, List.drop_left' rfl]
theorem ok_track (ws : List ByteArray) : okB (ws.map fun x => (x, (0 : Int))) = true := by
  unfold okB; rw [List.all_eq_true]; intro y hy
  obtain ⟨x, _, rfl⟩ := List.mem_map.1 hy
  rfl
theorem recW_track (ws : List ByteArray) : recW (ws.map fun x => (x, (0 : Int))) = ws := by
  unfold recW; rw [List.map_map]
  conv => rhs; rw [← List.map_id ws]
  rfl
theorem loc_track {b : Nat} {m : ByteArray} {ws : List ByteArray} (hm : 0 < m.size) (hw : ∀ x ∈ ws, x.size = b) (hmk : mkErr (b : Int) m.data.toList (trackOf m ws).data.toList = 0) :
    locErr (b : Int) m (trackOf m ws) = 0 ∧ locOut (b : Int) m (trackOf m ws) = ws.map (fun _ => 0) ∧ recOutW (b : Int) m (trackOf m ws) = ws ∧ recOutG (b : Int) m (trackOf m ws) = ws.map (fun _ => true) := by
  have hb := blks_track hm hw
  have hle : locErr (b : Int) m (trackOf m ws) = 0 := by
    unfold locErr
    rw [if_neg (fun h => h hmk), Int.toNat_natCast, hb, ok_track]; rfl
  refine ⟨hle, ?_, ?_, ?_⟩
  · unfold locOut; rw [if_pos hle, Int.toNat_natCast, hb, List.map_map]; rfl
  · unfold recOutW; rw [if_pos hle, Int.toNat_natCast, hb, recW_track]
  · unfold recOutG; rw [if_pos hle, Int.toNat_natCast, hb]; unfold recG; rw [List.map_map]; rfl
theorem map_getD_int (ws : List ByteArray) (k : Nat) (hk : k < (ws.map fun _ => (0 : Int)).length) : (ws.map fun _ => (0 : Int)).getD k 0 = 0 := by
  rw [List.getD_eq_getElem?_getD, List.getElem?_eq_getElem hk]; simp
theorem map_getD_bool (ws : List ByteArray) (k : Nat) (hk : k < (ws.map fun _ => true).length) : (ws.map fun _ => true).getD k false = true := by
  rw [List.getD_eq_getElem?_getD, List.getElem?_eq_getElem hk]; simp
end Go.Proofs.Ytlkajmdcffemeaa
