/- The walk of marker.blocks and of its iterator. -/
import Derived.Test.YtlkajmdcffemeaaMk
import Derived.Test.YtlkajmdcffemeaaRange
import Derived.Shelf.Abstract
import Derived.Shelf.RegionOpen
import Derived.WalkKit
import Derived.WalkSpells
import Derived.WalkLawsBesides
import Derived.Deep.QuietTactic
import Derived.BigQuiet
import Derived.OwnWalkIn
import Derived.TacticsInMore
import Derived.LoopNIn
import Derived.LoopIn
import Derived.Sort.LoopGhostIn
import Derived.Deep.CutRange
import Derived.Deep.CutBlock
import Derived.Deep.DeepCutAuto
import Derived.Deep.DeepFit
import Derived.KernelRfl
import Derived.Lib.Hide
import Derived.Outline
namespace Go.Proofs.Ytlkajmdcffemeaa
open Go.RowKit Go.Shelf
attribute [local go_sem] Oper.semAt_some

set_option maxHeartbeats 1000000 in
theorem shifts_any (w : World) : Calls Try.prog 73 #[] w fun e w' => e = .returned (.agg #[.int .i64 0, .int .i64 (-1), .int .i64 1]) ∧ Below w.heap.size w w' := by
  go_enter Try.func73, Try.ntmps73
  go_wp2
  refine bodyPost_ret (v := .agg #[.int .i64 0, .int .i64 (-1), .int .i64 1]) ?_ rfl ⟨rfl, ?_⟩
  · simp [results, Try.results73, go_sem]
  · exact (Below.refl _ _).alloc (Nat.le_refl _) _

theorem fitsB_le {b : Nat} {m s : ByteArray} {sh : Int} (h : fitsB b m s sh = true) : ((b : Int) + sh).toNat + m.size ≤ s.size := by
  unfold fitsB at h
  rw [Bool.and_eq_true, decide_eq_true_eq] at h
  have h2 := (List.isPrefixOf_iff_prefix.1 h.2).length_le
  have e1 : m.data.toList.length = m.size := by simp
  have e2 : (s.extract ((b : Int) + sh).toNat s.size).data.toList.length = s.size - ((b : Int) + sh).toNat := by
    rw [Array.length_toList]
    have := ByteArray.size_extract (a := s) (b := ((b : Int) + sh).toNat) (e := s.size)
    rw [Nat.min_self] at this
    exact this
  omega
def encB (x : ByteArray × Int) : Array Value := #[.string x.1, .int .i64 x.2]
def GBk (L : List (ByteArray × Int)) (pre : List (ByteArray × Int)) (x : ByteArray × Int) (_ : World) : Prop := ∃ rest, L = pre ++ x :: rest
def TBk (Bw : Nat) (r : Nat) (_ : World) : Prop := r = Bw
/-- What a round keeps: the iterator's three boxes. -/
def KpBk (Bw Bb Bm : Nat) (W W' : World) : Prop := W.heap.size ≤ W'.heap.size ∧ W'.heap[Bw]? = W.heap[Bw]? ∧ W'.heap[Bb]? = W.heap[Bb]? ∧ W'.heap[Bm]? = W.heap[Bm]?
/-- The shifts, by their places. -/
def shiftK (k : Nat) : Int := if k = 0 then 0 else if k = 1 then -1 else 1
theorem shiftK_bd (k : Nat) : -1 ≤ shiftK k ∧ shiftK k ≤ 1 := by unfold shiftK; split <;> (try split) <;> omega
theorem shift_at0 (w : World) : (Instr.index 98 (.agg #[.int .i64 0, .int .i64 (-1), .int .i64 1]) (.int .i64 0)).run Try.prog w = .ok (.int .i64 0) w := by kernel_rfl
theorem shift_at1 (w : World) : (Instr.index 98 (.agg #[.int .i64 0, .int .i64 (-1), .int .i64 1]) (.int .i64 1)).run Try.prog w = .ok (.int .i64 (-1)) w := by kernel_rfl
theorem shift_at2 (w : World) : (Instr.index 98 (.agg #[.int .i64 0, .int .i64 (-1), .int .i64 1]) (.int .i64 2)).run Try.prog w = .ok (.int .i64 1) w := by kernel_rfl
theorem shift_at (k : Nat) (hk : k < 3) (w : World) : (Instr.index 98 (.agg #[.int .i64 0, .int .i64 (-1), .int .i64 1]) (.int .i64 (k : Int))).run Try.prog w = .ok (.int .i64 (shiftK k)) w := by
  match k, hk with
  | 0, _ => exact shift_at0 w
  | 1, _ => exact shift_at1 w
  | 2, _ => exact shift_at2 w
theorem prefix_call (s p : ByteArray) (c : Bool) (h : Lib.hasPrefix s.data.toList p.data.toList = c) (w : World) :
    Calls Try.prog 74 #[.string s, .string p] w fun e w' => e = .returned (.bool c) ∧ w' = w := by
  subst h; exact Try.strings_HasPrefix s p w
theorem shiftB_hit {b : Nat} {m s : ByteArray} {k : Nat} (hk : k < 3) (h : ∀ j, j < k → fitsB b m s (shiftK j) = false) (hf : fitsB b m s (shiftK k) = true) : shiftB b m s = shiftK k := by
  match k, hk with
  | 0, _ => unfold shiftB; rw [if_pos (show fitsB b m s 0 = true from hf)]; rfl
  | 1, _ => unfold shiftB; rw [if_neg (by rw [show fitsB b m s 0 = false from h 0 (by decide)]; decide), if_pos (show fitsB b m s (-1) = true from hf)]; rfl
  | 2, _ =>
    unfold shiftB
    rw [if_neg (by rw [show fitsB b m s 0 = false from h 0 (by decide)]; decide), if_neg (by rw [show fitsB b m s (-1) = false from h 1 (by decide)]; decide), if_pos (show fitsB b m s 1 = true from hf)]; rfl
theorem shiftB_miss {b : Nat} {m s : ByteArray} (h : ∀ j, j < 3 → fitsB b m s (shiftK j) = false) : shiftB b m s = 2 := by
  unfold shiftB
  rw [if_neg (by rw [show fitsB b m s 0 = false from h 0 (by decide)]; decide), if_neg (by rw [show fitsB b m s (-1) = false from h 1 (by decide)]; decide), if_neg (by rw [show fitsB b m s 1 = false from h 2 (by decide)]; decide)]

set_option maxRecDepth 100000 in
set_option maxHeartbeats 4000000 in
theorem blocks1_in (l Bw Bb Bm b : Nat) (m w0 : ByteArray) (J Jx : List (ByteArray × Int) → World → Prop) (hJ : AbT (TBk Bw) J)
    (hY : ∀ pre x W1, J pre W1 → GBk (blksW b m w0) pre x W1 → YieldAt Fence.wide 2 Try.prog l (encB x) W1 fun e W' => (e = .returned (.bool true) ∧ J (pre ++ [x]) W' ∧ KpBk Bw Bb Bm W1 W') ∨ (e = .returned (.bool false) ∧ Jx (pre ++ [x]) W'))
    (W : World) (hw : Boxed W Bw 9 (.string w0)) (hbb : Boxed W Bb 3 (.int .i64 (b : Int))) (hbm : Boxed W Bm 9 (.string m)) (hwb : Bw ≠ Bb) (hwm : Bw ≠ Bm)
    (hb1 : 1 ≤ b) (hb2 : b ≤ 100000) (hm : 0 < m.size) (hm2 : m.size ≤ 100000) (hws : w0.size ≤ 1000000000) (h0 : J [] W) :
    CallsIn Fence.wide 3 Try.prog 72 #[.func (.yield l) #[] #[], .pointer (some ⟨Bw, 0, none⟩), .pointer (some ⟨Bb, 0, none⟩), .pointer (some ⟨Bm, 0, none⟩)] W fun e W' => (∃ v, e = .returned v) ∧ ((∃ xs, xs = blksW b m w0 ∧ J xs W') ∨ ∃ pre, Jx pre W') := by
  refine callsIn_of_wp Try.func72 rfl trivial ?_ rfl
  simp only [Try.ntmps72, List.size_toArray, List.length_cons, List.length_nil, Nat.reduceAdd, Nat.reduceSub, Array.replicate_succ, Array.replicate_zero, List.push_toArray, List.append_toArray, List.nil_append, List.cons_append]
  have hwc := hw.cell
  have hbc := hbb.cell
  have hmc := hbm.cell
  gi_wp2
  gi_loopg [] w0.size (fun k wr => ∃ (pre : List (ByteArray × Int)) (s : ByteArray), Boxed wr Bw 9 (.string s) ∧ Boxed wr Bb 3 (.int .i64 (b : Int)) ∧ Boxed wr Bm 9 (.string m) ∧ s.size ≤ k ∧ s.size ≤ 1000000000 ∧ Hid (blksW b m w0 = pre ++ blksW b m s) ∧ Hid (J pre wr))
  case atStart => exact ⟨[], w0, hw, hbb, hbm, Nat.le_refl _, hws, Lib.hid rfl, Lib.hid h0⟩
  case round =>
    clear hw hbb hbm h0 hwc hbc hmc hws
    obtain ⟨pre, s, hw, hbb, hbm, hk, hss, hL, hj⟩ := hrel
    have hwc := hw.cell
    have hbc := hbb.cell
    have hmc := hbm.cell
    by_cases hs0 : s.size = 0
    · have hse : s = ⟨#[]⟩ := by
        rcases s with ⟨⟨l⟩⟩
        have : l = [] := by
          have : l.length = 0 := hs0
          exact List.length_eq_zero_iff.1 this
        rw [this]
      have hfin := Lib.hid (show pre = blksW b m w0 by rw [hL.out, blksW_nil hs0, List.append_nil])
      subst hse
      have Hj := Lib.hid hj
      clear hL hj
      gi_wp2
      go_end0
      exact ⟨⟨_, rfl⟩, .inl ⟨_, hfin.out, Hj.out.out⟩⟩
    · have hne : s.toList.isEmpty = false := by
        rw [ByteArray.toList_eq, List.isEmpty_eq_false_iff]
        intro h
        exact hs0 (by have : s.data.toList.length = 0 := by rw [h]; rfl
                      simpa using this)
      refine wpIn_wide.2 ?_
      go_upto_block 2 with (go_at_call 73; refine (shifts_any _).mono ?_; rintro e W1 ⟨rfl, hb⟩; have Hb1 := Lib.hid hb; clear hb)
      have hw1 : Boxed W1 Bw 9 (.string s) := (Hb1.out.block _ hw.lt).trans hw
      have hbb1 : Boxed W1 Bb 3 (.int .i64 (b : Int)) := (Hb1.out.block _ hbb.lt).trans hbb
      have hbm1 : Boxed W1 Bm 9 (.string m) := (Hb1.out.block _ hbm.lt).trans hbm
      have hj1 := Lib.hid (hJ _ _ _ _ hj.out (below_grown0 Hb1.out) (by simp))
      clear hwc hbc hmc hw hbb hbm hj
      have hwc := hw1.cell
      have hbc := hbb1.cell
      have hmc := hbm1.cell
      go_cut [5] (fun v wx => v = .int .i64 (shiftB b m s) ∧ Drawn W1 wx)
      case first =>
        go_wp2_with fail
        go_loopw [5, 12] (fun v i wr => ∃ k : Nat, k ≤ 3 ∧ i = .int .i64 k ∧ v = .int .i64 2 ∧ Drawn W1 wr ∧ Hid (∀ j, j < k → fitsB b m s (shiftK j) = false)) (fun _ i _ => 3 - (intOf i).toNat)
        case atStart => exact ⟨0, by omega, rfl, rfl, Drawn.refl _, Lib.hid (fun j hj => by omega)⟩
        case round =>
          obtain ⟨k, hk3, rfl, rfl, hd, hnf⟩ := hrel
          by_cases hlt : k < 3
          · have hix := shift_at k hlt
            obtain ⟨hb3, hb4⟩ := shiftK_bd k
            obtain ⟨n, hn⟩ : ∃ n : Nat, (b : Int) + shiftK k = n := ⟨((b : Int) + shiftK k).toNat, by omega⟩
            have hwr := (hd.cell ⟨Bw, 0, none⟩).trans hwc
            have hbr := (hd.cell ⟨Bb, 0, none⟩).trans hbc
            have hmr := (hd.cell ⟨Bm, 0, none⟩).trans hmc
            have Hfit := Lib.hid (show fitsB b m s (shiftK k) = (decide (n ≤ s.size) && Lib.hasPrefix (s.extract n s.size).data.toList m.data.toList) by unfold fitsB; rw [hn]; rfl)
            have Hd := Lib.hid hd
            clear hd
            have hnf2 : ∀ (hF : fitsB b m s (shiftK k) = false), Hid (∀ j, j < k + 1 → fitsB b m s (shiftK j) = false) := fun hF => Lib.hid (fun j hj => by
              by_cases e : j = k
              · rw [e]; exact hF
              · exact hnf.out j (by omega))
            have Hnf2 := Lib.hid hnf2
            clear hnf2
            by_cases hle : n ≤ s.size
            · have hle2 : (n : Int) ≤ (s.size : Int) := by omega
              have hled : decide ((n : Int) ≤ (s.size : Int)) = true := by simpa using hle
              cases hp : Lib.hasPrefix (s.extract n s.size).data.toList m.data.toList
              · have Hp := Lib.hid hp
                have HF := Lib.hid (Hnf2.out (by rw [Hfit.out, hp, Bool.and_false]))
                clear hp
                go_wp2_with fail
                go_quiet ((go_at_call 74; exact Calls.quiet_of_same (prefix_call _ _ _ Hp.out _)))
                go_wp2
                go_roundw
                case rel => exact ⟨k + 1, by omega, by go_num, rfl, Hd.out.drewN _, HF.out⟩
                case measure => simp [intOf]; omega
              · have Hp := Lib.hid hp
                have Hv := Lib.hid (shiftB_hit hlt hnf.out (by rw [Hfit.out, hp, Bool.and_true, decide_eq_true hle]))
                clear hp
                go_wp2_with fail
                go_quiet ((go_at_call 74; exact Calls.quiet_of_same (prefix_call _ _ _ Hp.out _)))
                go_wp2
                go_meet
                case rel => exact ⟨by rw [Hv.out], Hd.out.drewN _⟩
            · have hle2 : ¬ (n : Int) ≤ (s.size : Int) := by omega
              have hled : decide ((n : Int) ≤ (s.size : Int)) = false := by simpa using hle
              have HF := Lib.hid (Hnf2.out (by rw [Hfit.out, decide_eq_false hle, Bool.false_and]))
              go_wp2_with fail
              go_quiet (fail)
              go_wp2
              go_roundw
              case rel => exact ⟨k + 1, by omega, by go_num, rfl, Hd.out.drewN _, HF.out⟩
              case measure => simp [intOf]; omega
          · have Hv := Lib.hid (shiftB_miss (b := b) (m := m) (s := s) (fun j hj => hnf.out j (by omega)))
            go_wp2
            go_meet
            case rel => exact ⟨by rw [Hv.out], hd⟩
      case rest =>
        obtain ⟨rfl, hd⟩ := hcut
        have hw2 : Boxed wc Bw 9 (.string s) := by unfold Boxed; rw [hd.heap]; exact hw1
        have hbb2 : Boxed wc Bb 3 (.int .i64 (b : Int)) := by unfold Boxed; rw [hd.heap]; exact hbb1
        have hbm2 : Boxed wc Bm 9 (.string m) := by unfold Boxed; rw [hd.heap]; exact hbm1
        have hj2 := hJ _ _ _ _ hj1.out (below_grown0 (Drawn.below hd _)) (by simp)
        clear hwc hbc hmc hw1 hbb1 hbm1 hj1 hd
        have hwc := hw2.cell
        have hbc := hbb2.cell
        have hmc := hbm2.cell
        rcases shiftB_cases b m s with h2 | ⟨hsh, hfit⟩
        · have hLs := Lib.hid (blksW_bad (b := b) (m := m) hs0 h2)
          rw [h2]
          obtain ⟨fn, tmps, assign, body, hyl, hR⟩ := hY pre (⟨#[]⟩, 2) wc hj2 ⟨[], by rw [hL.out, hLs.out]⟩
          have HL := Lib.hid (show pre ++ [(⟨#[]⟩, 2)] = blksW b m w0 by rw [hL.out, hLs.out])
          clear h2 hL hLs hj2
          dsimp only [encB] at hyl
          go_upto_region 10 with (fail)
          refine (wpIn_wide (n := 3)).1 ?_
          gi_wp2
          refine hR.mono ?_
          rintro e W3 (⟨rfl, hJ3, hk3⟩ | ⟨rfl, hJx3⟩)
          · have HJ := Lib.hid hJ3
            clear hJ3
            gi_wp2
            go_wp2
            refine bodyPost_ret (results_none rfl _ _ _) rfl ?_
            exact ⟨⟨_, rfl⟩, .inl ⟨_, HL.out, HJ.out⟩⟩
          · have HJ := Lib.hid hJx3
            clear hJx3
            gi_wp2
            go_wp2
            refine bodyPost_ret (results_none rfl _ _ _) rfl ?_
            exact ⟨⟨_, rfl⟩, .inr ⟨_, HJ.out⟩⟩
        · have hLs := Lib.hid (blksW_step (b := b) (m := m) (w := s) hm hs0 (by rcases hsh with h | h | h <;> rw [h] <;> decide))
          have hle := fitsB_le hfit
          obtain ⟨sh, hshe⟩ : ∃ sh, shiftB b m s = sh := ⟨_, rfl⟩
          rw [hshe] at hsh hle hLs ⊢
          obtain ⟨n, hn⟩ : ∃ n : Nat, (b : Int) + sh = n := ⟨((b : Int) + sh).toNat, by omega⟩
          have hsb : -1 ≤ sh ∧ sh ≤ 1 := by omega
          have hs2 : (sh == 2) = false := by rw [beq_eq_false_iff_ne]; omega
          have hnt : ((b : Int) + sh).toNat = n := by omega
          rw [hnt] at hle hLs
          clear hfit hshe hsh hnt
          obtain ⟨hsb1, hsb2⟩ := hsb
          obtain ⟨fn, tmps, assign, body, hyl, hR⟩ := hY pre (s.extract 0 n, sh) wc hj2 ⟨_, by rw [hL.out, hLs.out]⟩
          have HL := Lib.hid (show blksW b m w0 = (pre ++ [(s.extract 0 n, sh)]) ++ blksW b m (s.extract (n + m.size) s.size) by rw [hL.out, hLs.out]; simp)
          clear hL hLs hj2
          dsimp only [encB] at hyl
          go_upto_region 11 with (fail)
          refine (wpIn_wide (n := 3)).1 ?_
          gi_wp2
          refine hR.mono ?_
          rintro e W3 (⟨rfl, hJ3, hk3⟩ | ⟨rfl, hJx3⟩)
          · have hw3 : Boxed W3 Bw 9 (.string s) := hk3.2.1.trans hw2
            have hbb3 : Boxed W3 Bb 3 (.int .i64 (b : Int)) := hk3.2.2.1.trans hbb2
            have hbm3 : Boxed W3 Bm 9 (.string m) := hk3.2.2.2.trans hbm2
            have HJ := Lib.hid hJ3
            clear hJ3 hwc hbc hmc
            have hwc := hw3.cell
            have hwf := hw3.frozen
            have hbc := hbb3.cell
            have hmc := hbm3.cell
            have e1 : ((n : Int) + (m.size : Int)).toNat = n + m.size := by omega
            gi_wp2
            go_wp2
            go_roundg (s.extract (n + m.size) s.size).size
            case measure => rw [ByteArray.size_extract]; omega
            case rel =>
              refine ⟨_, s.extract (n + m.size) s.size, hw3.set _, hbb3.kept (grownBy_setCell' W3 Bw _) (by simpa using fun h => hwb h.symm), hbm3.kept (grownBy_setCell' W3 Bw _) (by simpa using fun h => hwm h.symm), Nat.le_refl _, by rw [ByteArray.size_extract]; omega, HL, Lib.hid (hJ _ _ _ _ HJ.out (grownBy_setCell' W3 Bw _) ?_)⟩
              intro r e; cases e; rfl
          · have HJ := Lib.hid hJx3
            clear hJx3
            gi_wp2
            go_wp2
            refine bodyPost_ret (results_none rfl _ _ _) rfl ?_
            exact ⟨⟨_, rfl⟩, .inr ⟨_, HJ.out⟩⟩
end Go.Proofs.Ytlkajmdcffemeaa
