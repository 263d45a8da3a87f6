/- Plain laws of tracks: a track's markers leave its word; its rate. -/
import Derived.Test.YtlkajmdcffemeaaRnd
import Derived.Test.YtlkajmdcffemeaaFine
import Derived.Test.YtlkajmdcffemeaaRate
namespace Go.Proofs.Ytlkajmdcffemeaa

theorem mkErr_fine {b : Nat} {m : ByteArray} {l : List UInt8} (hb : 1 ≤ b ∧ b ≤ 6) (hm : fineB m = true) (hl : l.length ≤ 65536) (hok : okL l) : mkErr (b : Int) m.data.toList l = 0 := by
  unfold fineB at hm
  simp only [Bool.and_eq_true, decide_eq_true_eq] at hm
  have hml : m.data.toList.length = m.size := by simp
  have h0 : mkErr0 (b : Int) m.data.toList = 0 := by
    unfold mkErr0
    rw [if_neg (by omega), hml, if_neg hm.1.1, if_neg (by omega), hm.2]
  unfold mkErr
  rw [if_neg (by rw [h0]; exact fun h => h rfl)]
  exact (wordCheck_two hl).2 hok
theorem fine_marker {m : ByteArray} (hm : fineB m = true) : 0 < m.size ∧ m.size ≤ 8 ∧ okL m.data.toList := by
  unfold fineB at hm
  simp only [Bool.and_eq_true, decide_eq_true_eq] at hm
  refine ⟨by omega, hm.1.2, (wordCheck_two (by have : m.data.toList.length = m.size := by simp
                                               omega)).1 hm.2⟩
/-- Words of b letters, up to eight. -/
structure Wds (b : Nat) (ws : List ByteArray) : Prop where
  len : ws.length ≤ 8
  size : ∀ x ∈ ws, x.size = b
  ok : ∀ x ∈ ws, okL x.data.toList
def wordOf (ws : List ByteArray) : ByteArray := ⟨(joinL ws).toArray⟩
def trackOf (m : ByteArray) (ws : List ByteArray) : ByteArray := ⟨(joinL (ws.map (· ++ m))).toArray⟩
theorem toList_mk (l : List UInt8) : (⟨l.toArray⟩ : ByteArray).data.toList = l := rfl
theorem size_mk (l : List UInt8) : (⟨l.toArray⟩ : ByteArray).size = l.length := rfl
theorem append_list (x m : ByteArray) : (x ++ m).data.toList = x.data.toList ++ m.data.toList := by rw [ByteArray.data_append]; simp
theorem remL_marked {b : Nat} {m : ByteArray} : ∀ {ws : List ByteArray}, (∀ x ∈ ws, x.size = b) → remL b (ws.map (· ++ m)) = joinL ws
  | [], _ => rfl
  | y :: ws, h => by
    have ih := remL_marked (m := m) (fun x hx => h x (List.mem_cons_of_mem _ hx))
    have e : remL b ((y :: ws).map (· ++ m)) = ((y ++ m).extract 0 b).data.toList ++ remL b (ws.map (· ++ m)) := rfl
    have e1 : joinL (y :: ws) = y.data.toList ++ joinL ws := rfl
    have e2 : y.data.size = b := h y (List.mem_cons_self ..)
    rw [e, ih, e1]
    congr 1
    rw [ByteArray.data_extract, ByteArray.data_append]
    simp [← e2]
    exact List.take_of_length_le (by rw [Array.length_toList]; exact Nat.le_refl _)
section
variable {b : Nat} {m : ByteArray} {ws : List ByteArray} (hb : 1 ≤ b ∧ b ≤ 6) (hm : fineB m = true) (hw : Wds b ws)
include hw in
theorem word_size : (wordOf ws).size = ws.length * b := by rw [wordOf, size_mk, joinL_len hw.size]
include hw in
theorem marked_size : ∀ x ∈ ws.map (· ++ m), x.size = b + m.size := by
  intro x hx
  obtain ⟨y, hy, rfl⟩ := List.mem_map.1 hx
  rw [ByteArray.size_append, hw.size y hy]
include hw in
theorem track_size : (trackOf m ws).size = ws.length * (b + m.size) := by rw [trackOf, size_mk, joinL_len (marked_size hw), List.length_map]
include hb hm hw in
theorem word_ok : mkErr (b : Int) m.data.toList (wordOf ws).data.toList = 0 := by
  refine mkErr_fine hb hm ?_ ?_
  · have h1 := word_size hw
    have h2 : (wordOf ws).data.toList.length = (wordOf ws).size := by simp
    have := Nat.mul_le_mul hw.len hb.2
    omega
  · rw [wordOf, toList_mk]; exact okL_flat hw.ok
include hb hm hw in
theorem track_ok : mkErr (b : Int) m.data.toList (trackOf m ws).data.toList = 0 := by
  obtain ⟨h1, h2, h3⟩ := fine_marker hm
  refine mkErr_fine hb hm ?_ ?_
  · have e1 := track_size (m := m) hw
    have e2 : (trackOf m ws).data.toList.length = (trackOf m ws).size := by simp
    have := Nat.mul_le_mul hw.len (show b + m.size ≤ 14 by omega)
    omega
  · rw [trackOf, toList_mk]
    refine okL_flat fun x hx => ?_
    obtain ⟨y, hy, rfl⟩ := List.mem_map.1 hx
    rw [append_list]; exact okL_append (hw.ok y hy) h3
include hb hm hw in
theorem insert_track : insErr (b : Int) m (wordOf ws) = 0 ∧ insOut (b : Int) m (wordOf ws) = trackOf m ws := by
  obtain ⟨h1, h2, _⟩ := fine_marker hm
  have h0 := word_ok hb hm hw
  have hs := word_size hw
  have hd : (wordOf ws).size / b = ws.length := by rw [hs]; exact Nat.mul_div_cancel _ (by omega)
  have he : insErr (b : Int) m (wordOf ws) = 0 := by
    unfold insErr
    rw [if_neg (fun h => h h0), Int.toNat_natCast, if_neg (by rw [hs, Nat.mul_mod_left]; exact fun h => h rfl), hd, if_neg]
    have := Nat.mul_le_mul hw.len (show b + m.size ≤ 14 by omega)
    omega
  refine ⟨he, ?_⟩
  unfold insOut
  rw [if_pos he, Int.toNat_natCast, show chunksW b (wordOf ws) = ws from chunks_join (by omega) hw.size, trackL_join]
  rfl
include hb hm hw in
theorem remove_track : remErr (b : Int) m (trackOf m ws) = 0 ∧ remOut (b : Int) m (trackOf m ws) = wordOf ws := by
  have h0 := track_ok hb hm hw
  have hs := track_size (m := m) hw
  have hc : chunksW (b + m.size) (trackOf m ws) = ws.map (· ++ m) := chunks_join (by omega) (marked_size hw)
  have hr : remOk b m (ws.map (· ++ m)) = true := by
    unfold remOk
    rw [List.all_eq_true]
    intro x hx
    obtain ⟨y, hy, rfl⟩ := List.mem_map.1 hx
    rw [decide_eq_true_eq]
    apply ByteArray.ext
    rw [ByteArray.data_extract, ByteArray.data_append]
    apply Array.ext'
    have e : y.data.toList.length = b := by rw [← hw.size y hy]; simp
    have e2 : y.data.size = b := by rw [← e]; simp
    have e3 : (y ++ m).size = b + m.size := by rw [ByteArray.size_append, hw.size y hy]
    rw [e3]
    simp [← e2]
    rw [List.drop_of_length_le (by rw [Array.length_toList]; exact Nat.le_refl _), List.take_nil, List.nil_append, List.take_of_length_le (by rw [Array.length_toList]; exact Nat.le_refl _)]
  have he : remErr (b : Int) m (trackOf m ws) = 0 := by
    unfold remErr
    rw [if_neg (fun h => h h0), Int.toNat_natCast, if_neg (by rw [hs, Nat.mul_mod_left]; exact fun h => h rfl), hc, hr]; rfl
  refine ⟨he, ?_⟩
  unfold remOut
  rw [if_pos he, Int.toNat_natCast, hc]
  rw [remL_marked hw.size]
  rfl
end
end Go.Proofs.Ytlkajmdcffemeaa
