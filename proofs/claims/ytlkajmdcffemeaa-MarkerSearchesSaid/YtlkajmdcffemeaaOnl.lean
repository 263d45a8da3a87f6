/- The walk of grooveref49.only. -/
import Derived.Test.YtlkajmdcffemeaaVld
import Derived.Test.YtlkajmdcffemeaaQ6
namespace Go.Proofs.Ytlkajmdcffemeaa
open Go.RowKit

def onlyB (L : List (ByteArray × Int)) (n k : Nat) (sh : Int) : Bool := okB L && (L.map (·.2) == (List.replicate n (0 : Int)).set k sh)
theorem set_getD (n k i : Nat) (sh : Int) (hi : i < n) : ((List.replicate n (0 : Int)).set k sh).getD i 0 = if i = k then sh else 0 := by
  rw [List.getD_eq_getElem?_getD, List.getElem?_set]
  by_cases e : i = k
  · rw [if_pos e, if_pos e.symm, if_pos (by rw [List.length_replicate]; omega)]; rfl
  · rw [if_neg e, if_neg (fun h => e h.symm), List.getElem?_replicate, if_pos hi]; rfl
theorem list_ext_getD {l r : List Int} (hl : l.length = r.length) (h : ∀ i, i < l.length → l.getD i 0 = r.getD i 0) : l = r := by
  apply List.ext_getElem hl
  intro i h1 h2
  have := h i h1
  rw [List.getD_eq_getElem?_getD, List.getD_eq_getElem?_getD, List.getElem?_eq_getElem h1, List.getElem?_eq_getElem h2] at this
  exact this

set_option maxRecDepth 100000 in
set_option maxHeartbeats 4000000 in
theorem only_any (b n k : Nat) (sh : Int) (m s : ByteArray) (hb1 : 1 ≤ b) (hb2 : b ≤ 100000) (hm : 0 < m.size) (hm2 : m.size ≤ 100000) (hs : s.size ≤ 100000000) (hn : n ≤ 100000000) (w : World) :
    Calls Try.prog 77 #[.int .i64 (b : Int), .string m, .string s, .int .i64 (n : Int), .int .i64 (k : Int), .int .i64 sh] w fun e w' => e = .returned (.bool (onlyB (blksW b m s) n k sh)) ∧ Below w.heap.size w w' := by
  have HL := Lib.hid (refLocate_any b m s hb1 hb2 hm hm2 hs)
  have hLl := blksW_len b m s hm
  obtain ⟨L, hL⟩ : ∃ L, blksW b m s = L := ⟨_, rfl⟩
  rw [hL] at HL hLl ⊢
  have hB : onlyB L n k sh = (okB L && (L.map (·.2) == (List.replicate n (0 : Int)).set k sh)) := rfl
  generalize onlyB L n k sh = R at *
  unfold RetLoc at HL
  have hll : (L.map (·.2)).length = L.length := List.length_map ..
  generalize L.map (·.2) = LI at *
  cases hok : okB L
  · rw [hok] at HL
    have HR : Hid (R = false) := Lib.hid (by rw [hB, hok]; rfl)
    clear hB hok hL
    go_enter Try.func77, Try.ntmps77
    go_wp2_with fail
    refine (HL.out _).mono ?_
    rintro e w2 ⟨v, rfl, _, _, hb⟩
    have Hb := Lib.hid hb
    clear hb
    go_wp2
    go_ret
    exact ⟨ret_bool HR.out.symm, Hb.out⟩
  · rw [hok] at HL
    rw [hok, Bool.true_and] at hB
    have HB := Lib.hid hB
    clear hB hok hL
    go_enter Try.func77, Try.ntmps77
    go_wp2_with fail
    refine (HL.out _).mono ?_
    rintro e w2 ⟨v, rfl, _, ho, hb⟩
    have ho2 : OwnInts w2 w.heap.size v LI := ho
    obtain ⟨p, c, rfl, _, hI, _⟩ := ho2.form
    have HI := Lib.hid hI
    have Hb := Lib.hid hb
    clear hb ho ho2 hI
    by_cases hln : LI.length = n
    · have hlb : ((LI.length : Int) != (n : Int)) = false := by rw [bne_eq_false_iff_eq]; omega
      rw [hln] at hlb
      rw [hln]
      have Hln := Lib.hid hln
      clear hln hll
      go_wp2
      go_loop [15] (fun v => ∃ i : Nat, i ≤ n ∧ v = .int .i64 i ∧ Hid (∀ j, j < i → LI.getD j 0 = if j = k then sh else 0)) (fun v => n - (intOf v).toNat)
      case atStart => exact ⟨0, by omega, rfl, Lib.hid (fun j h => by omega)⟩
      case round =>
        obtain ⟨i, hi, rfl, HJ⟩ := hrel
        by_cases hin : i < n
        · obtain ⟨ab, ao, rfl, _, hca⟩ := IntsAt.cells HI.out (k := i) (by rw [Hln.out]; exact hin)
          have ca := hca i (by rw [Hln.out]; exact hin)
          obtain ⟨y, hy⟩ : ∃ y, LI.getD i 0 = y := ⟨_, rfl⟩
          rw [hy] at ca
          have Hy := Lib.hid hy
          have i0 : (0 : Int) ≤ (i : Int) := by omega
          have i1 : (i : Int) < (n : Int) := by omega
          clear hca hy
          have Hbad : Hid (y ≠ (if i = k then sh else 0) → R = false) := Lib.hid (fun h => by
            rw [HB.out, beq_eq_false_iff_ne]
            intro e
            apply h
            rw [← Hy.out, e, set_getD n k i sh hin])
          have Hgood : Hid (y = (if i = k then sh else 0) → ∀ j, j < i + 1 → LI.getD j 0 = if j = k then sh else 0) := Lib.hid (fun h j hj => by
            by_cases e : j = i
            · rw [e, Hy.out]; exact h
            · exact HJ.out j (by omega))
          by_cases hik : i = k
          · have hikI : ((i : Int) == (k : Int)) = true := by rw [hik]; exact beq_self_eq_true _
            have hikJ : ((i : Int) != (k : Int)) = false := by rw [hik]; exact bne_self_eq_false _
            rw [if_pos hik] at Hbad Hgood
            clear hik
            cases hyb : (y != sh)
            · have HG := Lib.hid (Hgood.out (by simpa using hyb))
              go_wp2
              go_round
              case rel => exact ⟨i + 1, by omega, by go_num, HG⟩
              case measure => simp [intOf]; omega
            · have HR := Lib.hid (Hbad.out (by simpa using hyb))
              go_wp2
              go_ret
              exact ⟨ret_bool HR.out.symm, Hb.out⟩
          · have hikI : ((i : Int) == (k : Int)) = false := by rw [beq_eq_false_iff_ne]; omega
            have hikJ : ((i : Int) != (k : Int)) = true := by rw [bne_iff_ne]; omega
            rw [if_neg hik] at Hbad Hgood
            clear hik
            cases hyb : (y != 0)
            · have HG := Lib.hid (Hgood.out (by simpa using hyb))
              go_wp2
              go_round
              case rel => exact ⟨i + 1, by omega, by go_num, HG⟩
              case measure => simp [intOf]; omega
            · have HR := Lib.hid (Hbad.out (by simpa using hyb))
              go_wp2
              go_ret
              exact ⟨ret_bool HR.out.symm, Hb.out⟩
        · have i1 : ¬ (i : Int) < (n : Int) := by omega
          have HR : Hid (R = true) := Lib.hid (by
            rw [HB.out, beq_iff_eq]
            refine list_ext_getD (by rw [Hln.out, List.length_set, List.length_replicate]) (fun j hj => ?_)
            rw [Hln.out] at hj
            rw [set_getD n k j sh hj]
            exact HJ.out j (by omega))
          go_wp2
          go_ret
          exact ⟨ret_bool HR.out.symm, Hb.out⟩
    · have hlb : ((LI.length : Int) != (n : Int)) = true := by rw [bne_iff_ne]; omega
      have HR : Hid (R = false) := Lib.hid (by
        rw [HB.out, beq_eq_false_iff_ne]
        intro e
        apply hln
        rw [e, List.length_set, List.length_replicate])
      clear hln hll
      go_wp2
      go_ret
      exact ⟨ret_bool HR.out.symm, Hb.out⟩
end Go.Proofs.Ytlkajmdcffemeaa
