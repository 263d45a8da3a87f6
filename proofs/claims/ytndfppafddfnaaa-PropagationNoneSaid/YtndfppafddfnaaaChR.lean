/- The walks of grooveref28.changed and Changed. -/
import Derived.Test.YtndfppafddfnaaaCh
namespace Go.Proofs.Ytndfppafddfnaaa
open Go.RowKit

set_option maxRecDepth 100000 in
set_option maxHeartbeats 4000000 in
theorem refchanged_any (l b i p f : Int) (es : List Ent) (a : Option Addr) (c : Nat) (s : ByteArray) (A K : Nat) (w : World) (hE : EntsAt w a es) (hwins : WinsFit es) (e1 : decErr l b i p f es s = 0) (hA : A < s.size) (hK : (K : Int) < l) :
    Calls Try.prog 43 #[.agg #[.int .i64 l, .int .i64 b, .int .i64 i, .int .i64 p, .int .i64 f, .slice a es.length c], .string s, .int .i64 A, .int .i64 K] w fun e w' =>
      ∃ v, e = .returned v ∧ OwnInts w' w.heap.size v (diffs (decOut l b i p f es s) (decOut l b i p f es (replS s A K))) ∧ Below w.heap.size w w' := by
  have HE := Lib.hid hE
  have HE2 := Lib.hid (hE.mono (Nat.le_refl _) ((Below.refl w.heap.size w).alloc (Nat.le_refl _) (.cells #[.int .i64 l, .int .i64 b, .int .i64 i, .int .i64 p, .int .i64 f, .slice a es.length c] 24)))
  have HW := Lib.hid hwins
  clear hE hwins
  have hs2 := size_fit e1
  obtain ⟨⟨l1, l2⟩, ⟨b1, b2, i1, i2, p1, f1, p2, f2⟩, hes⟩ := decCheck_ok (decErr_zero.1 e1).1
  have he2 := replS_err (a := A) (c := K) hA (by omega) hK e1
  have hlen : (decOut l b i p f es (replS s A K)).length = (decOut l b i p f es s).length := by rw [decOut_len he2, decOut_len e1, replS_size s A K hA (by omega)]
  have hlb : (decOut l b i p f es s).length < 1000000000000 := by rw [decOut_len e1]; have := winCount_le (s := s.size) (n := ((p + 1 + f) * b).toNat) (b := b.toNat); omega
  have hrs : (replS s A K).size ≤ 9223372036854775807 := by rw [replS_size s A K hA (by omega)]; omega
  have E1 := Lib.hid e1
  have He2 := Lib.hid he2
  have Hlen := Lib.hid hlen
  clear he2 hlen e1
  go_enter Try.func43, Try.ntmps43
  go_wp2_with (go_at_call 42; refine (refDecode_any l b i p f es a c s _ HE2.out HW.out (by omega)).mono ?_; rintro e w1 ⟨v, rfl, hown, hb⟩; obtain ⟨⟨c0, c1, c2, c3, c4, c5⟩, hsz, hbw⟩ := box6 (hb.mono (by simp)); have Hb := Lib.hid hbw; have HbX := Lib.hid (hb.mono (B' := w.heap.size + 1) (by simp)); have Hown := Lib.hid hown; clear hb hbw hown)
  go_region_held3 (fun w' => w'.cell? ⟨w.heap.size, 0, none⟩ = some (.int .i64 l) ∧ w'.cell? ⟨w.heap.size, 1, none⟩ = some (.int .i64 b) ∧ w'.cell? ⟨w.heap.size, 2, none⟩ = some (.int .i64 i) ∧ w'.cell? ⟨w.heap.size, 3, none⟩ = some (.int .i64 p) ∧ w'.cell? ⟨w.heap.size, 4, none⟩ = some (.int .i64 f) ∧ w'.cell? ⟨w.heap.size, 5, none⟩ = some (.slice a es.length c))
    (go_keep)
    (first
      | (go_at_call 73; refine (refReplaced_any s A K (by omega) (by omega) (by omega) _).mono ?_; rintro e w2 ⟨rfl, n, rfl⟩)
      | (go_at_call 42; refine (refDecode_any l b i p f es a c (replS s A K) _ (SlAt.mono HE.out (Nat.le_refl _) (by repeat (first | exact Hb.out | refine Below.drew ?_ | refine below_dr ?_))) HW.out hrs).mono ?_; rintro e w2 ⟨v2, rfl, hown2, hb2⟩; rw [He2.out]; have hb3 : Below (w.heap.size + 1) (w.alloc (.cells #[.int .i64 l, .int .i64 b, .int .i64 i, .int .i64 p, .int .i64 f, .slice a es.length c] 24)) w2 := Below.trans (by repeat (first | exact HbX.out | refine Below.drew ?_ | refine below_dr ?_)) (hb2.mono (by simp; omega)); obtain ⟨⟨g0, g1, g2, g3, g4, g5⟩, hsz2, hbw2⟩ := box6 hb3; have Hb2 := Lib.hid hb2; have Hown2 := Lib.hid hown2; have Hbw2 := Lib.hid hbw2; clear hb2 hb3 hown2 hbw2))
  have hb4 : Below w1.heap.size w1 w2 := Below.trans (by repeat (first | exact Below.refl _ _ | refine Below.drew ?_ | refine below_dr ?_)) (Hb2.out.mono (by simp))
  obtain ⟨q1, d1, rfl, _, hI1, _⟩ := Hown.out.form
  obtain ⟨q2, d2, rfl, _, hI2, _⟩ := Hown2.out.form
  have HI1 := Lib.hid (hI1.below (Nat.le_refl _) hb4)
  have HI2 := Lib.hid hI2
  clear hI1 hI2 hb4 Hown Hown2 c0 c1 c2 c3 c4 c5 g0 g1 g2 g3 g4 g5
  rw [Hlen.out]
  generalize hx : decOut l b i p f es s = x1 at *
  generalize hy : decOut l b i p f es (replS s A K) = x2 at *
  have HX := Lib.hid hx
  have HY := Lib.hid hy
  clear hx hy
  have hD : diffs x1 x2 = diffsK x1 x2 x1.length := by unfold diffs; rw [Hlen.out, Nat.min_self]
  have HD := Lib.hid hD
  clear hD
  go_wp2
  go_loopw [13, 14] (fun v i wr => ∃ k : Nat, k ≤ x1.length ∧ i = .int .i64 k ∧ Below w2.heap.size w2 wr ∧ Hid (OwnInts wr w2.heap.size v (diffsK x1 x2 k))) (fun _ i _ => x1.length - (intOf i).toNat)
  case atStart => exact ⟨0, by omega, rfl, (Below.refl _ _).alloc (Nat.le_refl _) _, Lib.hid (OwnInts.made _ (Nat.le_refl _))⟩
  case round =>
    obtain ⟨k, hk, rfl, hd, Hown⟩ := hrel
    by_cases hlt : k < x1.length
    · have hltb : k < x2.length := by have := Hlen.out; omega
      obtain ⟨ab, ao, rfl, hab, hca⟩ := IntsAt.cells HI1.out hlt
      obtain ⟨bb, bo, rfl, hbb, hcb⟩ := IntsAt.cells HI2.out hltb
      have hxa := hca k hlt
      have hxb := hcb k hltb
      rw [← hd.cell (p := ⟨ab, _, none⟩) hab] at hxa
      rw [← hd.cell (p := ⟨bb, _, none⟩) hbb] at hxb
      obtain ⟨x, hx⟩ : ∃ x, x1.getD k 0 = x := ⟨_, rfl⟩
      obtain ⟨y, hy⟩ : ∃ y, x2.getD k 0 = y := ⟨_, rfl⟩
      rw [hx] at hxa
      rw [hy] at hxb
      have i0 : (0 : Int) ≤ (k : Int) := by omega
      have i3 : (k : Int) < (x1.length : Int) := by omega
      have hszk := hd.size
      have hlen := diffsK_len x1 x2 k
      have Hd := Lib.hid hd
      have Hx := Lib.hid hx
      have Hy := Lib.hid hy
      clear hca hcb hd hx hy
      cases hne : (x != y)
      · have hv := Lib.hid (diffsK_miss (a := x1) (b := x2) (k := k) (by rw [Hx.out, Hy.out]; exact hne))
        go_wp2_with fail
        go_quiet (fail)
        go_wp2
        go_roundw
        case rel => exact ⟨k + 1, by omega, by go_num, below_dr Hd.out, Lib.hid (by rw [hv.out]; exact Hown.out.drewN _)⟩
        case measure => simp [intOf]; omega
      · have hv := Lib.hid (diffsK_hit (a := x1) (b := x2) (k := k) (by rw [Hx.out, Hy.out]; exact hne))
        go_wp2_with fail
        go_quiet (fail)
        go_wp2_with (at_builtin; refine wpList_append_int rfl _ _ rfl w2.heap.size _ _ rfl ((Hown.out.drewN _).alloc _) wr.heap.size 1 k rfl ?_ ?_ ?_ ?_)
        · exact cell_new0 _ _ _
        · omega
        · simp; omega
        · intro v' w4 hown2 hgrow
          have Hb4 := Lib.hid (below_append ((below_dr Hd.out).alloc (by simp; omega) _) ((Hown.out.drewN _).alloc _) hgrow (by simp; omega) (Nat.le_refl _))
          have Hown2 := Lib.hid hown2
          clear hown2 hgrow
          go_wp2
          go_roundw
          case rel => exact ⟨k + 1, by omega, by go_num, Hb4.out, Lib.hid (by rw [hv.out]; exact Hown2.out)⟩
          case measure => simp [intOf]; omega
    · have hk' : k = x1.length := by omega
      have Hk := Lib.hid hk'
      clear hk'
      go_wp2
      go_ret
      exact ⟨_, rfl, by rw [HX.out, HY.out, HD.out, ← Hk.out]; exact Hown.out.base Hbw2.out.size, Hbw2.out.trans (hd.mono Hbw2.out.size)⟩

set_option maxRecDepth 100000 in
set_option maxHeartbeats 4000000 in
theorem refChanged_any (l b i p f : Int) (es : List Ent) (a : Option Addr) (c : Nat) (s : ByteArray) (at_ k : Int) (w : World) (hE : EntsAt w a es) (hwins : WinsFit es) (hs : s.size ≤ 9223372036854775807) :
    Calls Try.prog 14 #[.agg #[.int .i64 l, .int .i64 b, .int .i64 i, .int .i64 p, .int .i64 f, .slice a es.length c], .string s, .int .i64 at_, .int .i64 k] w fun e w' =>
      ∃ v, e = .returned (.tuple #[v, .int .i64 (chErr l b i p f es s at_ k)]) ∧ OwnInts w' w.heap.size v (chOut l b i p f es s at_ k) ∧ Below w.heap.size w w' := by
  have HE := Lib.hid hE
  have HE2 := Lib.hid (hE.mono (Nat.le_refl _) ((Below.refl w.heap.size w).alloc (Nat.le_refl _) (.cells #[.int .i64 l, .int .i64 b, .int .i64 i, .int .i64 p, .int .i64 f, .slice a es.length c] 24)))
  have HW := Lib.hid hwins
  clear hE hwins
  by_cases e1 : decErr l b i p f es s = 0
  case neg =>
    have hv : chErr l b i p f es s at_ k = decErr l b i p f es s := by unfold chErr; rw [if_pos e1]
    have ho : chOut l b i p f es s at_ k = [] := by unfold chOut; rw [hv, if_neg e1]
    have Hv := Lib.hid hv
    have Ho := Lib.hid ho
    have e1' : (decErr l b i p f es s != 0) = true := by simpa using e1
    clear hv ho e1
    go_enter Try.func14, Try.ntmps14
    go_wp2_with (go_at_call 42; refine (refDecode_any l b i p f es a c s _ HE2.out HW.out hs).mono ?_; rintro e w' ⟨v, rfl, hown, hb⟩; obtain ⟨⟨c0, c1, c2, c3, c4, c5⟩, hsz, hbw⟩ := box6 (hb.mono (by simp)); have Hb := Lib.hid hbw; clear hb hbw hown)
    go_ret2
    exact ⟨_, by rw [Hv.out]; rfl, by rw [Ho.out]; exact OwnInts.nil _ _, Hb.out⟩
  have e1' : (decErr l b i p f es s != 0) = false := by simpa using e1
  have hs2 := size_fit e1
  obtain ⟨⟨l1, l2⟩, ⟨b1, b2, i1, i2, p1, f1, p2, f2⟩, hes⟩ := decCheck_ok (decErr_zero.1 e1).1
  have E1 := Lib.hid e1
  clear e1
  by_cases e2 : at_ < 0 ∨ (s.size : Int) ≤ at_
  · have hv : chErr l b i p f es s at_ k = 2 := by unfold chErr; rw [if_neg (by rw [E1.out]; simp), if_pos e2]
    have ho : chOut l b i p f es s at_ k = [] := by unfold chOut; rw [hv]; rfl
    have Hv := Lib.hid hv
    have Ho := Lib.hid ho
    clear hv ho
    go_enter Try.func14, Try.ntmps14
    go_wp2_with (go_at_call 42; refine (refDecode_any l b i p f es a c s _ HE2.out HW.out hs).mono ?_; rintro e w' ⟨v, rfl, hown, hb⟩; obtain ⟨⟨c0, c1, c2, c3, c4, c5⟩, hsz, hbw⟩ := box6 (hb.mono (by simp)); have Hb := Lib.hid hbw; clear hb hbw hown)
    all_goals
      go_ret2
      exact ⟨_, by rw [Hv.out]; rfl, by rw [Ho.out]; exact OwnInts.nil _ _, Hb.out⟩
  obtain ⟨A, rfl⟩ : ∃ A : Nat, at_ = A := ⟨at_.toNat, by omega⟩
  have a1 : (0 : Int) ≤ (A : Int) := by omega
  have a2 : (A : Int) < (s.size : Int) := by omega
  have E2 := Lib.hid e2
  clear e2
  by_cases e3 : k < 0 ∨ l ≤ k
  · have hv : chErr l b i p f es s A k = 13 := by unfold chErr; rw [if_neg (by rw [E1.out]; simp), if_neg E2.out, if_pos e3]
    have ho : chOut l b i p f es s A k = [] := by unfold chOut; rw [hv]; rfl
    have Hv := Lib.hid hv
    have Ho := Lib.hid ho
    clear hv ho
    go_enter Try.func14, Try.ntmps14
    go_wp2_with (go_at_call 42; refine (refDecode_any l b i p f es a c s _ HE2.out HW.out hs).mono ?_; rintro e w' ⟨v, rfl, hown, hb⟩; obtain ⟨⟨c0, c1, c2, c3, c4, c5⟩, hsz, hbw⟩ := box6 (hb.mono (by simp)); have Hb := Lib.hid hbw; clear hb hbw hown)
    all_goals
      go_ret2
      exact ⟨_, by rw [Hv.out]; rfl, by rw [Ho.out]; exact OwnInts.nil _ _, Hb.out⟩
  obtain ⟨K, rfl⟩ : ∃ K : Nat, k = K := ⟨k.toNat, by omega⟩
  have k1 : (0 : Int) ≤ (K : Int) := by omega
  have k2 : (K : Int) < l := by omega
  have hv : chErr l b i p f es s A K = 0 := by unfold chErr; rw [if_neg (by rw [E1.out]; simp), if_neg E2.out, if_neg e3]
  have ho : chOut l b i p f es s A K = diffs (decOut l b i p f es s) (decOut l b i p f es (replS s A K)) := by unfold chOut; rw [if_pos hv]; rfl
  have Hv := Lib.hid hv
  have Ho := Lib.hid ho
  clear hv ho e3
  go_enter Try.func14, Try.ntmps14
  go_wp2_with (first
    | (go_at_call 42; refine (refDecode_any l b i p f es a c s _ HE2.out HW.out hs).mono ?_; rintro e w1 ⟨v, rfl, hown, hb⟩; obtain ⟨⟨c0, c1, c2, c3, c4, c5⟩, hsz, hbw⟩ := box6 (hb.mono (by simp)); have Hb := Lib.hid hbw; clear hb hbw hown)
    | (go_at_call 43; refine (refchanged_any l b i p f es a c s A K _ (SlAt.mono HE.out (Nat.le_refl _) Hb.out) HW.out E1.out (by omega) k2).mono ?_; rintro e w2 ⟨v2, rfl, hown, hb⟩; have Hown := Lib.hid hown; have Hb2 := Lib.hid hb; clear hown hb))
  go_ret2
  exact ⟨_, by rw [Hv.out]; rfl, by rw [Ho.out]; exact Hown.out.base Hb.out.size, Hb.out.trans (Hb2.out.mono Hb.out.size)⟩
end Go.Proofs.Ytndfppafddfnaaa
