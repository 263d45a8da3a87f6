/- grooveref49.Recover. -/
import Derived.Test.YtlkajmdcffemeaaQ7
import Derived.Test.YtlkajmdcffemeaaBools
namespace Go.Proofs.Ytlkajmdcffemeaa
open Go.RowKit

/-- The blocks that are recovered, and which. -/
def recW (L : List (ByteArray × Int)) : List ByteArray := L.map fun x => if x.2 = 0 then x.1 else ⟨#[]⟩
def recG (L : List (ByteArray × Int)) : List Bool := L.map fun x => x.2 == 0
def RetRec (E : Int) (ws : List ByteArray) (gs : List Bool) (w : World) (e : Ending) (w' : World) : Prop :=
  ∃ v u, e = .returned (.tuple #[v, u, .int .i64 E]) ∧ OwnStrs w' w.heap.size v ws ∧ OwnBools w' w.heap.size u gs ∧ Below w.heap.size w w'
def recOutW (b : Int) (m s : ByteArray) : List ByteArray := if locErr b m s = 0 then recW (blksW b.toNat m s) else []
def recOutG (b : Int) (m s : ByteArray) : List Bool := if locErr b m s = 0 then recG (blksW b.toNat m s) else []

theorem step_rec {b n k : Nat} {m s : ByteArray} {L : List (ByteArray × Int)} (hb : 1 ≤ b) (hm : 0 < m.size) (hok : okB L = true) (hk : k < L.length) (hd : L.drop k = blksW b m (s.extract n s.size)) :
    ∃ (sh : Int) (n' : Nat), (L.map (·.2)).getD k 0 = sh ∧ (-1 ≤ sh ∧ sh ≤ 1) ∧ (n : Int) + ((b : Int) + sh + (m.size : Int)) = (n' : Int) ∧ n' ≤ s.size ∧ L.drop (k + 1) = blksW b m (s.extract n' s.size) ∧ (sh = 0 → n + b ≤ s.size) ∧
      recW (L.take (k + 1)) = recW (L.take k) ++ [if sh = 0 then s.extract n (n + b) else ⟨#[]⟩] ∧ recG (L.take (k + 1)) = recG (L.take k) ++ [sh == 0] := by
  have hr0 : (s.extract n s.size).size ≠ 0 := fun h => by
    have := congrArg List.length hd
    rw [blksW_nil h, List.length_drop] at this
    simp at this; omega
  have hhead : L.drop k = L[k] :: L.drop (k + 1) := List.drop_eq_getElem_cons hk
  have hk2 : L[k].2 ≠ 2 := by
    have := List.all_eq_true.1 hok L[k] (List.getElem_mem hk)
    simpa using this
  rcases shiftB_cases b m (s.extract n s.size) with h2 | ⟨hsh, hfit⟩
  · rw [blksW_bad hr0 h2, hhead] at hd
    injection hd with h1 _
    rw [h1] at hk2
    exact absurd rfl hk2
  · have hne : shiftB b m (s.extract n s.size) ≠ 2 := by rcases hsh with h | h | h <;> rw [h] <;> decide
    rw [blksW_step hm hr0 hne, hhead] at hd
    have hle := fitsB_le hfit
    obtain ⟨sh, hshe⟩ : ∃ sh, shiftB b m (s.extract n s.size) = sh := ⟨_, rfl⟩
    rw [hshe] at hd hsh hle
    rw [rest_size] at hle
    rw [rest_size] at hr0
    obtain ⟨t, ht⟩ : ∃ t : Nat, (b : Int) + sh = t := ⟨((b : Int) + sh).toNat, by omega⟩
    have htt : ((b : Int) + sh).toNat = t := by omega
    rw [htt] at hd hle
    injection hd with h1 h2
    rw [rest_rest] at h2
    refine ⟨sh, n + (t + m.size), ?_, by omega, by omega, by omega, h2, fun h => by omega, ?_, ?_⟩
    · rw [List.getD_eq_getElem?_getD, List.getElem?_map, List.getElem?_eq_getElem hk, h1]; rfl
    · unfold recW
      rw [List.take_succ_eq_append_getElem hk, List.map_append, h1, List.map_cons, List.map_nil]
      by_cases h0 : sh = 0
      · rw [if_pos h0, if_pos h0, rest_head, show t = b from by omega]
      · rw [if_neg h0, if_neg h0]
    · unfold recG
      rw [List.take_succ_eq_append_getElem hk, List.map_append, h1]; rfl
theorem rows_kept {W W' : World} {B1 B2 s1 s2 n1 n2 : Nat} {e1 e2 : TypeId} {v1 v2 : Value} {xs1 xs2 : List Value} (h1 : W.ownsRow B1 e1 s1 v1 n1 xs1) (h2 : W.ownsRow B2 e2 s2 v2 n2 xs2) (he : e1 ≠ e2) (hg : W.grownBy W' v2.ownBlock) : W'.ownsRow B1 e1 s1 v1 n1 xs1 := by
  refine h1.kept hg ?_
  rcases h1.2 with ⟨rfl, _⟩ | ⟨g, cap, cur, rfl, hgb, hgh, _⟩
  · exact .inl rfl
  · refine .inr fun e' => ?_
    rcases h2.2 with ⟨rfl, _⟩ | ⟨g2, cap2, cur2, rfl, hgb2, hgh2, _⟩
    · simp [Value.ownBlock] at e'
    · have : g = g2 := by simpa [Value.ownBlock, eq_comm] using e'
      subst this
      rw [hgh] at hgh2
      cases hgh2
      exact he rfl

set_option maxRecDepth 100000 in
set_option maxHeartbeats 8000000 in
theorem refRecover_any (b : Int) (m s : ByteArray) (hm : m.size ≤ maxLen) (hs : s.size ≤ maxLen) (w : World) :
    Calls Try.prog 26 #[.int .i64 b, .string m, .string s] w (RetRec (locErr b m s) (recOutW b m s) (recOutG b m s) w) := by
  have Hl := Lib.hid (refLocate49_any b m s hm hs)
  unfold recOutW recOutG
  obtain ⟨E, hE⟩ : ∃ E, locErr b m s = E := ⟨_, rfl⟩
  have hlo : locOut b m s = if E = 0 then (blksW b.toNat m s).map (·.2) else [] := by unfold locOut; rw [hE]
  rw [hE, hlo] at Hl
  rw [hE]
  by_cases hz : E = 0
  · have hz2 : (E != 0) = false := by rw [hz]; rfl
    have hmk : mkErr b m.data.toList s.data.toList = 0 := by
      rw [hz] at hE
      unfold locErr at hE
      split at hE
      · rename_i h; exact absurd hE h
      · rename_i h; exact Classical.not_not.1 h
    have hok : okB (blksW b.toNat m s) = true := by
      rw [hz] at hE
      unfold locErr at hE
      rw [if_neg (fun h => h hmk)] at hE
      split at hE
      · assumption
      · cases hE
    obtain ⟨⟨hb1, hb2⟩, ⟨hm1, hm2⟩, hs2⟩ := mkErr_ok hmk
    obtain ⟨n, rfl⟩ : ∃ n : Nat, b = n := ⟨b.toNat, by omega⟩
    rw [if_pos hz] at Hl
    rw [if_pos hz, if_pos hz]
    rw [Int.toNat_natCast] at hok Hl ⊢
    have hst : (blksW n m s).drop 0 = blksW n m (s.extract 0 s.size) := by rw [List.drop_zero, ByteArray.extract_zero_size]
    have hLl := blksW_len n m s hm1
    generalize blksW n m s = L at *
    have Hok := Lib.hid hok
    have Hst := Lib.hid hst
    have hb1' : 1 ≤ n := by omega
    subst hz
    clear hE hlo hmk hok hst hm hs
    go_enter Try.func26, Try.ntmps26
    go_wp2_with (go_at_call 24; go_fit (Hl.out _); rintro e w2 ⟨v, rfl, _, ho, hb⟩; obtain ⟨p, c, rfl, _, hI, _⟩ := ho.form; have HI := Lib.hid hI; have Hb2 := Lib.hid hb; clear hb hI ho)
    go_loopw [11, 12, 13, 14] (fun wv gv pv iv wr => ∃ k q : Nat, k ≤ L.length ∧ iv = .int .i64 k ∧ pv = .int .i64 q ∧ q ≤ s.size ∧ Hid (L.drop k = blksW n m (s.extract q s.size)) ∧ Hid (OwnStrs wr w2.heap.size wv (recW (L.take k))) ∧ Hid (OwnBools wr w2.heap.size gv (recG (L.take k))) ∧ Hid (Below w2.heap.size w2 wr)) (fun _ _ _ iv _ => L.length - (intOf iv).toNat)
    case atStart => exact ⟨0, 0, Nat.zero_le _, rfl, rfl, Nat.zero_le _, Hst, Lib.hid (OwnStrs.nil _ _), Lib.hid (OwnBools.nil _ _), Lib.hid (Below.refl _ _)⟩
    case round =>
      obtain ⟨k, q, hk, rfl, rfl, hq, hd, Hw, Hg, Hbl⟩ := hrel
      have hlen : (L.map (·.2)).length = L.length := by simp
      by_cases hlt : k < L.length
      · obtain ⟨sh, q', hsh, ⟨hs1, hs3⟩, he, hq', hd', hle, hW, hG⟩ := step_rec hb1' hm1 Hok.out hlt hd.out
        obtain ⟨bb, off, rfl, hbl, hcell⟩ := IntsAt.cells HI.out (k := k) (by rw [hlen]; exact hlt)
        have hx1 := hcell k (by rw [hlen]; exact hlt)
        rw [hsh] at hx1
        have hltI : (k : Int) < (L.length : Int) := by omega
        have Hd' := Lib.hid hd'
        have Hx1 := Lib.hid hx1
        have Hbb := Lib.hid hbl
        have HW := Lib.hid hW
        have HG := Lib.hid hG
        rw [← Hbl.out.cell (p := ⟨bb, _, none⟩) hbl] at hx1
        have hsz := Hbl.out.size
        have hpl : (recW (L.take k)).length < 1000000000000 := by unfold recW; rw [List.length_map, List.length_take]; omega
        have hpl2 : (recG (L.take k)).length < 1000000000000 := by unfold recG; rw [List.length_map, List.length_take]; omega
        clear hcell hsh hd' hd hlen hW hG hbl
        by_cases h0 : sh = 0
        · subst h0
          have hqb := hle rfl
          have he2 : (q : Int) + ((n : Int) + (m.size : Int)) = (q' : Int) := by omega
          have hqbI : (q : Int) + (n : Int) ≤ (s.size : Int) := by omega
          rw [if_pos rfl] at HW
          rw [show ((0 : Int) == 0) = true from rfl] at HG
          go_wp2_with (at_builtin; refine wpList_append_str rfl _ _ rfl w2.heap.size _ _ rfl (Hw.out.alloc _) wr.heap.size 1 (s.extract q (q + n)) rfl ?_ ?_ ?_ ?_)
          any_goals (first | exact cell_new0 _ _ _ | exact hpl | (simp; omega) | omega)
          intro v' w3 hown' hgrow
          have hb3 := Lib.hid (below_append (Hbl.out.alloc hsz _) (Hw.out.alloc _) hgrow (by simp; omega) (Nat.le_refl _))
          have Hg3 := Lib.hid (show OwnBools w3 w2.heap.size u12 (recG (L.take k)) from rows_kept (Hg.out.alloc _) (Hw.out.alloc _) (by decide) hgrow)
          have Hw3 := Lib.hid hown'
          have hsz3 := hb3.out.size
          clear hown' hgrow
          go_wp2_with (at_builtin; refine wpList_append_bool rfl _ _ rfl w2.heap.size _ _ rfl (Hg3.out.alloc _) w3.heap.size 1 true rfl ?_ ?_ ?_ ?_)
          any_goals (first | exact cell_new0 _ _ _ | exact hpl2 | (simp; omega) | omega)
          intro u' w4 hown' hgrow
          have hb4 := Lib.hid (below_append (hb3.out.alloc hsz3 _) (Hg3.out.alloc _) hgrow (by simp; omega) (Nat.le_refl _))
          have Hw4 := Lib.hid (show OwnStrs w4 w2.heap.size v' (recW (L.take k) ++ [s.extract q (q + n)]) from rows_kept (Hw3.out.alloc _) (Hg3.out.alloc _) (by decide) hgrow)
          have Hg4 := Lib.hid hown'
          have hx2 := Hx1.out
          rw [← hb4.out.cell (p := ⟨bb, _, none⟩) Hbb.out] at hx2
          clear hown' hgrow hx1
          go_wp2
          go_roundw
          case rel => exact ⟨k + 1, q', by omega, by go_num, rfl, hq', Hd', Lib.hid (by rw [HW.out]; exact Hw4.out), Lib.hid (by rw [HG.out]; exact Hg4.out), hb4⟩
          case measure => simp [intOf]; omega
        · have h0b : (sh == 0) = false := by rw [beq_eq_false_iff_ne]; exact h0
          rw [if_neg h0] at HW
          rw [h0b] at HG
          clear h0 hle
          go_wp2_with (at_builtin; refine wpList_append_str rfl _ _ rfl w2.heap.size _ _ rfl (Hw.out.alloc _) wr.heap.size 1 (⟨#[]⟩) rfl ?_ ?_ ?_ ?_)
          any_goals (first | exact cell_new0 _ _ _ | exact hpl | (simp; omega) | omega)
          intro v' w3 hown' hgrow
          have hb3 := Lib.hid (below_append (Hbl.out.alloc hsz _) (Hw.out.alloc _) hgrow (by simp; omega) (Nat.le_refl _))
          have Hg3 := Lib.hid (show OwnBools w3 w2.heap.size u12 (recG (L.take k)) from rows_kept (Hg.out.alloc _) (Hw.out.alloc _) (by decide) hgrow)
          have Hw3 := Lib.hid hown'
          have hsz3 := hb3.out.size
          clear hown' hgrow
          go_wp2_with (at_builtin; refine wpList_append_bool rfl _ _ rfl w2.heap.size _ _ rfl (Hg3.out.alloc _) w3.heap.size 1 false rfl ?_ ?_ ?_ ?_)
          any_goals (first | exact cell_new0 _ _ _ | exact hpl2 | (simp; omega) | omega)
          intro u' w4 hown' hgrow
          have hb4 := Lib.hid (below_append (hb3.out.alloc hsz3 _) (Hg3.out.alloc _) hgrow (by simp; omega) (Nat.le_refl _))
          have Hw4 := Lib.hid (show OwnStrs w4 w2.heap.size v' (recW (L.take k) ++ [⟨#[]⟩]) from rows_kept (Hw3.out.alloc _) (Hg3.out.alloc _) (by decide) hgrow)
          have Hg4 := Lib.hid hown'
          have hx2 := Hx1.out
          rw [← hb4.out.cell (p := ⟨bb, _, none⟩) Hbb.out] at hx2
          clear hown' hgrow hx1
          go_wp2
          go_roundw
          case rel => exact ⟨k + 1, q', by omega, by go_num, rfl, hq', Hd', Lib.hid (by rw [HW.out]; exact Hw4.out), Lib.hid (by rw [HG.out]; exact Hg4.out), hb4⟩
          case measure => simp [intOf]; omega
      · have hltI : ¬ (k : Int) < (L.length : Int) := by omega
        have Hw2 := Lib.hid (show OwnStrs wr w2.heap.size u11 (recW L) by have := Hw.out; rwa [List.take_of_length_le (by omega)] at this)
        have Hg2 := Lib.hid (show OwnBools wr w2.heap.size u12 (recG L) by have := Hg.out; rwa [List.take_of_length_le (by omega)] at this)
        clear hd Hw Hg
        go_wp2
        refine bodyPost_ret (v := .tuple #[u11, u12, .int .i64 0]) ?_ rfl ⟨u11, u12, rfl, Hw2.out.base Hb2.out.size, Hg2.out.base Hb2.out.size, Hb2.out.trans (Hbl.out.mono Hb2.out.size)⟩
        simp [results, Try.results26, go_sem]
  · have hz2 : (E != 0) = true := by rw [bne_iff_ne]; exact hz
    rw [if_neg hz] at Hl
    rw [if_neg hz, if_neg hz]
    clear hz hE hm hs hlo
    go_enter Try.func26, Try.ntmps26
    go_wp2_with (go_at_call 24; go_fit (Hl.out _); rintro e w2 ⟨v, rfl, _, ho, hb⟩; have Hb2 := Lib.hid hb; clear hb ho)
    refine bodyPost_ret (v := .tuple #[.slice none 0 0, .slice none 0 0, .int .i64 E]) ?_ rfl ⟨_, _, rfl, OwnStrs.nil _ _, OwnBools.nil _ _, Hb2.out⟩
    simp [results, Try.results26, go_sem]
end Go.Proofs.Ytlkajmdcffemeaa
