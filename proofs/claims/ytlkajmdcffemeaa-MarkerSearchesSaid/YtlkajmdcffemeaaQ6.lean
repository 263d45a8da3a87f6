/- grooveref49.locate. -/
import Derived.Test.YtlkajmdcffemeaaQ5
namespace Go.Proofs.Ytlkajmdcffemeaa
open Go.RowKit

theorem shiftB_none {b : Nat} {m r : ByteArray} (h : ∀ j, j < 3 → fitsB b m r (shiftK j) = false) : shiftB b m r = 2 := by
  unfold shiftB
  have h0 := h 0 (by decide)
  have h1 := h 1 (by decide)
  have h2 := h 2 (by decide)
  simp only [shiftK] at h0 h1 h2
  simp at h0 h1 h2
  rw [h0, h1, h2]; rfl
theorem shiftB_first {b : Nat} {m r : ByteArray} {k : Nat} (hk : k < 3) (h : ∀ j, j < k → fitsB b m r (shiftK j) = false) (hf : fitsB b m r (shiftK k) = true) : shiftB b m r = shiftK k := by
  unfold shiftB
  match k, hk with
  | 0, _ => rw [show shiftK 0 = 0 from rfl] at hf; rw [hf]; rfl
  | 1, _ =>
    have h0 := h 0 (by decide)
    rw [show shiftK 0 = 0 from rfl] at h0
    rw [show shiftK 1 = -1 from rfl] at hf
    rw [h0, hf]; rfl
  | 2, _ =>
    have h0 := h 0 (by decide)
    have h1 := h 1 (by decide)
    rw [show shiftK 0 = 0 from rfl] at h0
    rw [show shiftK 1 = -1 from rfl] at h1
    rw [show shiftK 2 = 1 from rfl] at hf
    rw [h0, h1, hf]; rfl

theorem shifts_cell (w : World) (k : Nat) (hk : k < 3) : (w.alloc (.cells #[.int .i64 0, .int .i64 (-1), .int .i64 1] 3)).cell? ⟨w.heap.size, k, none⟩ = some (.int .i64 (shiftK k)) := by
  have h := World.alloc_heap_new w (.cells #[.int .i64 0, .int .i64 (-1), .int .i64 1] 3)
  unfold World.cell?
  simp only [h]
  match k, hk with
  | 0, _ => rfl
  | 1, _ => rfl
  | 2, _ => rfl
/-- Between two rounds of the outer loop. -/
def LocR (b : Nat) (m s : ByteArray) (w : World) (pre : List (ByteArray × Int)) (p : Nat) (v : Value) (wr : World) : Prop :=
  p ≤ s.size ∧ blksW b m s = pre ++ blksW b m (s.extract p s.size) ∧ (∀ x ∈ pre, x.2 ≠ 2) ∧ OwnInts wr (w.heap.size + 1) v (pre.map (·.2)) ∧ Below (w.heap.size + 1) (w.alloc (.cells #[.int .i64 0, .int .i64 (-1), .int .i64 1] 3)) wr
theorem LocR.step {b : Nat} {m s : ByteArray} {w : World} {pre : List (ByteArray × Int)} {p k : Nat} {v : Value} {wr : World} (h : LocR b m s w pre p v wr) (hlt : p < s.size) (hm : 0 < m.size) (hb : 1 ≤ b) (hk : k < 3)
    (hn : ∀ j, j < k → fitsB b m (s.extract p s.size) (shiftK j) = false) (hf : fitsB b m (s.extract p s.size) (shiftK k) = true) {v' : Value} {wr' : World}
    (ho : OwnInts wr' (w.heap.size + 1) v' (pre.map (·.2) ++ [shiftK k])) (hb' : Below (w.heap.size + 1) (w.alloc (.cells #[.int .i64 0, .int .i64 (-1), .int .i64 1] 3)) wr') :
    ∃ (pre' : List (ByteArray × Int)) (p' : Nat), (p : Int) + ((b : Int) + shiftK k + (m.size : Int)) = (p' : Int) ∧ p < p' ∧ LocR b m s w pre' p' v' wr' := by
  obtain ⟨h1, h2, h3, h4, h5⟩ := h
  have hbd := shiftK_bd k
  have hsh := shiftB_first hk hn hf
  have hst := blksW_step (b := b) (m := m) (w := s.extract p s.size) hm (by rw [rest_size]; omega) (by rw [hsh]; omega)
  rw [hsh] at hst
  have hle := fitsB_le hf
  rw [rest_size] at hle
  refine ⟨pre ++ [((s.extract p s.size).extract 0 ((b : Int) + shiftK k).toNat, shiftK k)], p + (((b : Int) + shiftK k).toNat + m.size), by omega, by omega, by omega, ?_, ?_, ?_, hb'⟩
  · rw [h2, hst, rest_rest]; simp
  · intro x hx
    rcases List.mem_append.1 hx with hx | hx
    · exact h3 x hx
    · rw [List.mem_singleton.1 hx]; show shiftK k ≠ 2; omega
  · simpa using ho

set_option maxRecDepth 100000 in
set_option maxHeartbeats 8000000 in
theorem refLocate_any (b : Nat) (m s : ByteArray) (hb1 : 1 ≤ b) (hb2 : b ≤ 100000) (hm : 0 < m.size) (hm2 : m.size ≤ 100000) (hs : s.size ≤ 100000000) (w : World) :
    Calls Try.prog 52 #[.int .i64 (b : Int), .string m, .string s] w (RetLoc (blksW b m s) w) := by
  have Hlen := Lib.hid (blksW_len b m s hm)
  have Hst := Lib.hid (fun n (hn : n ≤ 1000000000) => refStands_any m s n hn (by omega))
  go_enter Try.func52, Try.ntmps52
  go_wp2
  go_loopw [9, 10, 11, 12] (fun v pv _ _ wr => ∃ pre p, pv = .int .i64 (p : Nat) ∧ p ≤ s.size ∧ Hid (LocR b m s w pre p v wr)) (fun _ pv _ _ _ => s.size - (intOf pv).toNat)
  case atStart => exact ⟨[], 0, rfl, Nat.zero_le _, Lib.hid ⟨Nat.zero_le _, by rw [ByteArray.extract_zero_size]; rfl, by simp, OwnInts.nil _ _, Below.refl _ _⟩⟩
  case round =>
    obtain ⟨pre, p, rfl, hp, HR⟩ := hrel
    by_cases hlt : p < s.size
    · have hltI : (p : Int) < (s.size : Int) := by omega
      go_wp2
      go_loopw [9, 10, 11, 12] (fun v pv fv iv wr' => ∃ i : Nat, i ≤ 3 ∧ iv = .int .i64 i ∧ ((fv = .bool false ∧ v = u9 ∧ pv = .int .i64 (p : Nat) ∧ Hid (LocR b m s w pre p u9 wr') ∧ Hid (∀ j, j < i → fitsB b m (s.extract p s.size) (shiftK j) = false)) ∨ (fv = .bool true ∧ ∃ pre' p', pv = .int .i64 (p' : Nat) ∧ p < p' ∧ Hid (LocR b m s w pre' p' v wr')))) (fun _ _ _ iv _ => 3 - (intOf iv).toNat)
      case atStart => exact ⟨0, by omega, rfl, .inl ⟨rfl, rfl, rfl, HR, Lib.hid (fun j hj => by omega)⟩⟩
      case round =>
        obtain ⟨i, hi, rfl, (⟨rfl, rfl, rfl, HR1, hno⟩ | ⟨rfl, pre', p', rfl, hpp, HR1⟩)⟩ := hrel
        · by_cases hi3 : i < 3
          · have hi3I : (i : Int) < 3 := by omega
            have hsc := shifts_cell w i hi3
            have hbel := HR1.out.2.2.2.2
            rw [← hbel.cell (p := ⟨w.heap.size, i, none⟩) (by simp)] at hsc
            have hfs := fits_stands (b := b) (m := m) (sh := shiftK i) (Nat.le_of_lt hlt)
            have hbd := shiftK_bd i
            obtain ⟨n, hn⟩ : ∃ n : Nat, p + ((b : Int) + shiftK i).toNat = n := ⟨_, rfl⟩
            have hnI : (p : Int) + (b : Int) + shiftK i = (n : Int) := by omega
            rw [hn] at hfs
            have Hs2 := Lib.hid (Hst.out n (by omega))
            obtain ⟨x, hx⟩ : ∃ x, shiftK i = x := ⟨_, rfl⟩
            have Hx := Lib.hid hx
            rw [hx] at hsc hbd hnI hfs
            obtain ⟨hbd1, hbd2⟩ := hbd
            have hbs := hbel.size
            rw [World.size_alloc] at hbs
            have hpl : (pre.map (·.2)).length < 1000000000000 := by
              have h1 := Hlen.out
              rw [HR1.out.2.1, List.length_append] at h1
              rw [List.length_map]; omega
            have Hbel := Lib.hid hbel
            have ho := HR1.out.2.2.2.1
            clear hbel hx hn
            cases hc : standsB m s n
            · have Hf := Lib.hid (show fitsB b m (s.extract p s.size) (shiftK i) = false by rw [Hx.out, hfs, hc])
              rw [hc] at Hs2
              clear hc hfs ho
              go_wp2_with (go_at_call 71; go_fit (Hs2.out _); rintro e w' ⟨rfl, rfl⟩)
              go_roundw
              case rel => exact ⟨i + 1, by omega, by go_num, .inl ⟨rfl, rfl, rfl, HR1, Lib.hid (fun j hj => by
                rcases Nat.lt_or_ge j i with h | h
                · exact hno.out j h
                · have : j = i := by omega
                  rw [this]; exact Hf.out)⟩⟩
              case measure => simp [intOf]; omega
            · have Hf := Lib.hid (show fitsB b m (s.extract p s.size) (shiftK i) = true by rw [Hx.out, hfs, hc])
              rw [hc] at Hs2
              clear hc hfs
              have Ho := Lib.hid ho
              clear ho
              obtain ⟨p1, hp1⟩ : ∃ p1 : Nat, (p : Int) + ((b : Int) + x + (m.size : Int)) = (p1 : Int) := ⟨((p : Int) + ((b : Int) + x + (m.size : Int))).toNat, by omega⟩
              go_wp2_with first
                | (go_at_call 71; go_fit (Hs2.out _); rintro e w' ⟨rfl, rfl⟩)
                | (at_builtin; refine wpList_append_int rfl _ _ rfl (w.heap.size + 1) _ _ rfl (Ho.out.alloc _) wr.heap.size 1 x rfl ?_ ?_ ?_ ?_)
              · exact cell_new0 _ _ _
              · exact hpl
              · simp; omega
              intro v' w2 hown' hgrow
              have hb2 := Lib.hid (below_append (Hbel.out.alloc hbs _) (Ho.out.alloc _) hgrow (by simp; omega) (Nat.le_refl _))
              have hstep := HR1.out.step hlt hm hb1 hi3 hno.out Hf.out (by rw [Hx.out]; exact hown') hb2.out
              rw [Hx.out, hp1] at hstep
              obtain ⟨pre', p', he, hpp, hR⟩ := hstep
              have he2 : p1 = p' := by omega
              subst he2
              have HR2 := Lib.hid hR
              have hsc2 := shifts_cell w i hi3
              rw [Hx.out, ← hb2.out.cell (p := ⟨w.heap.size, i, none⟩) (by simp)] at hsc2
              clear hR hown' hgrow hsc he
              go_wp2
              go_roundw
              case rel => exact ⟨i + 1, by omega, by go_num, .inr ⟨rfl, pre', p1, rfl, hpp, HR2⟩⟩
              case measure => simp [intOf]; omega
          · have hi3I : ¬ (i : Int) < 3 := by omega
            have hL : okB (blksW b m s) = false := by
              rw [HR1.out.2.1, blksW_bad (by rw [rest_size]; omega) (shiftB_none (fun j hj => hno.out j (by omega)))]
              simp [okB]
            have HL := Lib.hid hL
            clear hL hno
            go_wp2
            go_ret2
            refine ⟨.slice none 0 0, by rw [HL.out]; rfl, fun _ => rfl, by rw [HL.out]; exact OwnInts.nil _ _, ?_⟩
            exact ((Below.refl _ _).alloc (Nat.le_refl _) _).trans (HR1.out.2.2.2.2.mono (by simp))
        · by_cases hi3 : i < 3
          · have hi3I : (i : Int) < 3 := by omega
            go_wp2
            go_roundw
            case rel => exact ⟨pre', p', rfl, HR1.out.1, HR1⟩
            case measure => simp [intOf]; omega
          · have hi3I : ¬ (i : Int) < 3 := by omega
            go_wp2
            go_roundw
            case rel => exact ⟨pre', p', rfl, HR1.out.1, HR1⟩
            case measure => simp [intOf]; omega
    · have hltI : ¬ (p : Int) < (s.size : Int) := by omega
      have hL : blksW b m s = pre := by
        rw [HR.out.2.1, blksW_nil (w := s.extract p s.size) (by rw [rest_size]; omega), List.append_nil]
      have hok : okB (blksW b m s) = true := by
        rw [hL]; unfold okB; rw [List.all_eq_true]
        intro x hx; simpa using HR.out.2.2.1 x hx
      have HL := Lib.hid hL
      have HOK := Lib.hid hok
      clear hL hok
      go_wp2
      go_ret2
      refine ⟨_, by rw [HOK.out]; rfl, ?_, ?_, ?_⟩
      · rw [HOK.out]; intro h; cases h
      · rw [HOK.out, if_pos rfl, HL.out]; exact HR.out.2.2.2.1.base (by omega)
      · exact ((Below.refl _ _).alloc (Nat.le_refl _) _).trans (HR.out.2.2.2.2.mono (by simp))
end Go.Proofs.Ytlkajmdcffemeaa
