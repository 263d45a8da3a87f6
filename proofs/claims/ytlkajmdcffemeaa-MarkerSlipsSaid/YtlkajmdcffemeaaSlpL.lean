/- Plain laws: with a valid marker a slip is located in its block; all other blocks are recovered. -/
import Derived.Test.YtlkajmdcffemeaaRst
import Derived.Test.YtlkajmdcffemeaaVal
namespace Go.Proofs.Ytlkajmdcffemeaa

theorem trackL_of (m : ByteArray) (ys : List ByteArray) : (⟨(trackL m ys).toArray⟩ : ByteArray) = trackOf m ys := by
  show _ = (⟨(joinL (ys.map (· ++ m))).toArray⟩ : ByteArray)
  rw [trackL_join]
theorem extract_head {m x : ByteArray} {ws : List ByteArray} {n : Nat} (h : x.size = n) : (trackOf m (x :: ws)).extract 0 n = x := by
  apply bytes_eq
  rw [cut_list, List.drop_zero, Nat.sub_zero, track_cons, ← h, ← size_list x, List.take_left']
  rfl
theorem extract_tail {m x : ByteArray} {ws : List ByteArray} {n : Nat} (h : x.size = n) : (trackOf m (x :: ws)).extract (n + m.size) (trackOf m (x :: ws)).size = trackOf m ws := by
  apply bytes_eq
  rw [rest_list, track_cons, ← List.drop_drop, ← h, ← size_list x, List.drop_left' rfl, ← size_list m, List.drop_left' rfl]
/-- Where each shift is the true one, the blocks are the words. -/
theorem true_blks {b : Nat} {m : ByteArray} (hm : 0 < m.size) : ∀ {ys : List ByteArray}, (∀ y ∈ ys, (y.size : Int) - b ≠ 2) → (blksW b m (trackOf m ys)).map (·.2) = ys.map (fun y => (y.size : Int) - b) → blksW b m (trackOf m ys) = ys.map fun y => (y, (y.size : Int) - b)
  | [], _, _ => by rw [blksW_nil (by rfl)]; rfl
  | y :: ys, h, hs => by
    have hl := congrArg List.length (track_cons m y ys)
    rw [size_list, List.length_append, List.length_append, size_list, size_list, size_list] at hl
    have hne : (trackOf m (y :: ys)).size ≠ 0 := by omega
    by_cases h2 : shiftB b m (trackOf m (y :: ys)) = 2
    · exfalso
      rw [blksW_bad hne h2] at hs
      simp only [List.map_cons, List.cons.injEq] at hs
      exact h y (List.mem_cons_self ..) hs.1.symm
    · have hst := blksW_step hm hne h2
      rw [hst] at hs ⊢
      simp only [List.map_cons, List.cons.injEq] at hs
      obtain ⟨hs1, hs2⟩ := hs
      rw [hs1] at hs2 ⊢
      have hn : ((b : Int) + ((y.size : Int) - b)).toNat = y.size := by omega
      rw [hn] at hs2 ⊢
      rw [extract_tail rfl] at hs2 ⊢
      rw [extract_head rfl, List.map_cons]
      congr 1
      exact true_blks hm (fun z hz => h z (List.mem_cons_of_mem _ hz)) hs2

theorem slip_sz {b : Nat} {ws : List ByteArray} {x : Nat × Int × ByteArray} (hz : ∀ x ∈ ws, x.size = b) (h : SlipOf ws x) : (x.2.2.size : Int) - b = x.2.1 ∧ (x.2.1 = 1 ∨ x.2.1 = -1) := by
  have hs := hz _ (getD_mem ws x.1 ByteArray.empty h.1)
  rcases h.2 with ⟨k, hk, he⟩ | ⟨k, j, hk, hj, he⟩
  · rw [he]
    refine ⟨?_, .inr rfl⟩
    show ((dropAt _ _).size : Int) - b = -1
    unfold dropAt
    rw [ByteArray.size_append, ByteArray.size_extract, ByteArray.size_extract]; omega
  · rw [he]
    refine ⟨?_, .inl rfl⟩
    show ((insAt _ _ _).size : Int) - b = 1
    unfold insAt
    rw [ByteArray.size_append, ByteArray.size_append, ByteArray.size_extract, ByteArray.size_extract]
    have : (bitC j).size = 1 := by unfold bitC; split <;> rfl
    omega
theorem set_sizes {b : Nat} {ws : List ByteArray} {k : Nat} {sh : Int} {u : ByteArray} (hz : ∀ x ∈ ws, x.size = b) (hu : (u.size : Int) - b = sh) : (ws.set k u).map (fun y => (y.size : Int) - b) = (List.replicate ws.length (0 : Int)).set k sh := by
  rw [List.map_set, hu]
  congr 1
  rw [List.eq_replicate_iff]
  refine ⟨by simp, fun x hx => ?_⟩
  obtain ⟨y, hy, rfl⟩ := List.mem_map.1 hx
  have := hz y hy; omega
theorem okL_part {l : List UInt8} (h : okL l) (n : Nat) : okL (l.take n) ∧ okL (l.drop n) := ⟨fun c hc => h c (List.mem_of_mem_take hc), fun c hc => h c (List.mem_of_mem_drop hc)⟩
theorem okL_slip {b : Nat} {ws : List ByteArray} (hw : Wds b ws) {x : Nat × Int × ByteArray} (h : SlipOf ws x) : okL x.2.2.data.toList := by
  have hs := hw.ok _ (getD_mem ws x.1 ByteArray.empty h.1)
  have hb : ∀ j, okL (bitC j).data.toList := fun j => by
    unfold bitC
    split
    · intro c hc; have : c = 48 := by simpa using hc
      rw [this]; decide
    · intro c hc; have : c = 49 := by simpa using hc
      rw [this]; decide
  have hpre : ∀ k, okL (((ws.getD x.1 ByteArray.empty).extract 0 k).data.toList) := fun k => by
    rw [cut_list, List.drop_zero]; exact (okL_part hs _).1
  have hsuf : ∀ k, okL (((ws.getD x.1 ByteArray.empty).extract k (ws.getD x.1 ByteArray.empty).size).data.toList) := fun k => by
    rw [rest_list]; exact (okL_part hs _).2
  rcases h.2 with ⟨k, hk, he⟩ | ⟨k, j, hk, hj, he⟩
  · rw [he]
    show okL (dropAt _ _).data.toList
    unfold dropAt
    rw [append_list]
    exact okL_append (hpre k) (hsuf _)
  · rw [he]
    show okL (insAt _ _ _).data.toList
    unfold insAt
    rw [append_list, append_list]
    exact okL_append (okL_append (hpre k) (hb j)) (hsuf _)
/-- What Locate and Recover give of a track with one slip. -/
theorem slip_law {b : Nat} {m : ByteArray} {ws : List ByteArray} (hb : 1 ≤ b ∧ b ≤ 6) (hm : fineB m = true) (hw : Wds b ws) (hv : ValidP b m ws) {k : Nat} {sh : Int} {u : ByteArray} (hx : SlipOf ws (k, sh, u)) :
    locErr (b : Int) m (trackOf m (ws.set k u)) = 0 ∧ locOut (b : Int) m (trackOf m (ws.set k u)) = (List.replicate ws.length (0 : Int)).set k sh ∧
      recOutW (b : Int) m (trackOf m (ws.set k u)) = (List.map (fun x => x) ws).set k ⟨#[]⟩ ∧ recOutG (b : Int) m (trackOf m (ws.set k u)) = (List.replicate ws.length true).set k false := by
  obtain ⟨hm1, hm2, hm3⟩ := fine_marker hm
  obtain ⟨g1, g2⟩ := hv _ hx
  unfold slipL at g1 g2
  rw [trackL_of] at g1 g2
  obtain ⟨s1, s2⟩ := slip_sz hw.size hx
  have hu : (u.size : Int) - b = sh := s1
  have hne : ∀ y ∈ ws.set k u, (y.size : Int) - b ≠ 2 := fun y hy => by
    rcases List.mem_or_eq_of_mem_set hy with h | h
    · have := hw.size y h; omega
    · rw [h, hu]
      have : sh = 1 ∨ sh = -1 := s2
      omega
  have hL := true_blks hm1 hne (by rw [set_sizes hw.size hu]; exact g2)
  have hlen : (trackOf m (ws.set k u)).size ≤ 65536 := by
    have h1 := trackL_len m 7 (ws.set k u) (fun x hx2 => by
      rcases List.mem_or_eq_of_mem_set hx2 with h | h
      · have := hw.size x h; omega
      · rw [h]; have : sh = 1 ∨ sh = -1 := s2
        omega)
    rw [List.length_set] at h1
    have h2 : (trackOf m (ws.set k u)).size = (trackL m (ws.set k u)).length := by rw [← trackL_of]; rfl
    have h3 := hw.len
    have h4 := Nat.mul_le_mul h3 (show 7 + m.size ≤ 15 by omega)
    omega
  have hok : okL (trackOf m (ws.set k u)).data.toList := by
    rw [trackOf, toList_mk]
    refine okL_flat fun x hx2 => ?_
    obtain ⟨y, hy, rfl⟩ := List.mem_map.1 hx2
    rw [append_list]
    refine okL_append ?_ hm3
    rcases List.mem_or_eq_of_mem_set hy with h | h
    · exact hw.ok y h
    · rw [h]; exact okL_slip hw hx
  have hmk : mkErr (b : Int) m.data.toList (trackOf m (ws.set k u)).data.toList = 0 := mkErr_fine hb hm (by rw [size_list]; exact hlen) hok
  have hle : locErr (b : Int) m (trackOf m (ws.set k u)) = 0 := by
    unfold locErr
    rw [if_neg (fun h => h hmk), Int.toNat_natCast, g1]; rfl
  have hne2 : ¬ sh = 0 := by
    have : sh = 1 ∨ sh = -1 := s2
    omega
  refine ⟨hle, ?_, ?_, ?_⟩
  · unfold locOut; rw [if_pos hle, Int.toNat_natCast]; exact g2
  · unfold recOutW; rw [if_pos hle, Int.toNat_natCast, hL]; unfold recW
    rw [List.map_map, List.map_set]
    rw [show ((fun x : ByteArray × Int => if x.2 = 0 then x.1 else ⟨#[]⟩) ∘ fun y => (y, (y.size : Int) - b)) u = (⟨#[]⟩ : ByteArray) from by show (if (u.size : Int) - b = 0 then u else ⟨#[]⟩) = _; rw [hu, if_neg hne2]]
    congr 1
    apply List.map_congr_left
    intro x hx2
    show (if (x.size : Int) - b = 0 then x else ⟨#[]⟩) = x
    rw [if_pos (by have := hw.size x hx2; omega)]
  · unfold recOutG; rw [if_pos hle, Int.toNat_natCast, hL]; unfold recG
    rw [List.map_map, List.map_set]
    rw [show ((fun x : ByteArray × Int => x.2 == 0) ∘ fun y => (y, (y.size : Int) - b)) u = false from by show ((u.size : Int) - b == 0) = _; rw [hu]; exact beq_eq_false_iff_ne.2 hne2]
    congr 1
    rw [List.eq_replicate_iff]
    refine ⟨by simp, fun z hz => ?_⟩
    obtain ⟨x, hx2, rfl⟩ := List.mem_map.1 hz
    show ((x.size : Int) - b == 0) = true
    rw [beq_iff_eq]
    have := hw.size x hx2; omega
end Go.Proofs.Ytlkajmdcffemeaa
