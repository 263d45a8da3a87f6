/- The walk of window.Decode. -/
import Derived.Test.YtcafeffgaokiaaaK4
import Derived.Test.YtcafeffgaokiaaaK5
import Derived.Deep.RegionWith
import Derived.OwnWalk
import Derived.KernelRfl
namespace Go.Proofs.Ytcafeffgaokiaaa
open Go.RowKit


/-- How many windows of n letters begin at 0, b, 2b, .. of s letters. -/
def winCount (s n b : Nat) : Nat := if n ≤ s then (s - n) / b + 1 else 0
theorem winCount_eq {s n b k : Nat} (h1 : ¬ k * b + n ≤ s) (h2 : ∀ j, j < k → j * b + n ≤ s) : k = winCount s n b := by
  unfold winCount
  by_cases h : n ≤ s
  · rw [if_pos h]
    cases k with
    | zero => omega
    | succ m =>
      have h3 := h2 m (by omega)
      have h4 : (s - n) / b = m := by
        apply Nat.div_eq_of_lt_le
        · omega
        · omega
      omega
  · rw [if_neg h]
    cases k with
    | zero => rfl
    | succ m => have := h2 0 (by omega); omega
/-- What the window that begins at 'at' decodes to. -/
def decAt (es : List Ent) (s : ByteArray) (n a : Nat) : Int := if (findE es (s.extract a (a + n))).2 then (findE es (s.extract a (a + n))).1 else -1
def decErr (l b i p f : Int) (es : List Ent) (s : ByteArray) : Int :=
  if decCheck l b i p f es ≠ 0 then 1 else if wordCheck l s.data.toList ≠ 0 then wordCheck l s.data.toList else if (s.size : Int) % b ≠ 0 then 11 else 0
def decList (b p f : Int) (es : List Ent) (s : ByteArray) : List Int :=
  (List.range (winCount s.size ((p + 1 + f) * b).toNat b.toNat)).map fun k => decAt es s ((p + 1 + f) * b).toNat (k * b.toNat)
/-- The list that Decode returns. -/
def decOut (l b i p f : Int) (es : List Ent) (s : ByteArray) : List Int := if decErr l b i p f es s = 0 then decList b p f es s else []

theorem decCheck_ok {l b i p f : Int} {es : List Ent} (h : decCheck l b i p f es = 0) : (1 ≤ l ∧ l ≤ 16) ∧ (1 ≤ b ∧ b ≤ 16 ∧ 1 ≤ i ∧ i ≤ 256 ∧ 0 ≤ p ∧ 0 ≤ f ∧ p < 16 ∧ f < 16 - p) ∧ es.length ≤ 65536 := by
  unfold decCheck at h
  by_cases h1 : l < 1 ∨ 16 < l
  · rw [if_pos h1] at h; omega
  rw [if_neg h1] at h
  by_cases h2 : b < 1 ∨ 16 < b ∨ i < 1 ∨ 256 < i ∨ p < 0 ∨ f < 0 ∨ 16 ≤ p ∨ 16 - p ≤ f
  · rw [if_pos h2] at h; omega
  rw [if_neg h2] at h
  by_cases h3 : 65536 < es.length
  · rw [if_pos h3] at h; omega
  omega

theorem wordCheck_len {q : Int} {l : List UInt8} (h : wordCheck q l = 0) : l.length ≤ 65536 := by
  unfold wordCheck at h
  by_cases h1 : q < 1 ∨ 16 < q
  · rw [if_pos h1] at h; omega
  rw [if_neg h1] at h
  by_cases h2 : 65536 < l.length
  · rw [if_pos h2] at h; omega
  omega

set_option maxRecDepth 100000 in
set_option maxHeartbeats 4000000 in
theorem decode_any (l b i p f : Int) (es : List Ent) (a : Option Addr) (c : Nat) (s : ByteArray) (w : World) (hE : EntsAt w a es) (hwins : WinsFit es) (hs : s.size ≤ 9223372036854775807) :
    Calls Try.prog 11 #[.agg #[.int .i64 l, .int .i64 b, .int .i64 i, .int .i64 p, .int .i64 f, .slice a es.length c], .string s] w fun e w' =>
      ∃ v, e = .returned (.tuple #[v, .int .i64 (decErr l b i p f es s)]) ∧ OwnInts w' w.heap.size v (decOut l b i p f es s) ∧ Below w.heap.size w w' := by
  have HE := Lib.hid hE
  have HE2 := Lib.hid (hE.mono (Nat.le_refl _) ((Below.refl w.heap.size w).alloc (Nat.le_refl _) (.cells #[.int .i64 l, .int .i64 b, .int .i64 i, .int .i64 p, .int .i64 f, .slice a es.length c] 30)))
  have HW := Lib.hid hwins
  clear hE hwins
  by_cases e1 : decCheck l b i p f es = 0
  case neg =>
    have hv : decErr l b i p f es s = 1 := by unfold decErr; rw [if_pos e1]
    have ho : decOut l b i p f es s = [] := by unfold decOut; rw [hv]; rfl
    have Hv := Lib.hid hv
    have Ho := Lib.hid ho
    have e1' : (decCheck l b i p f es != 0) = true := by simpa using e1
    clear hv ho e1
    go_enter Try.func11, Try.ntmps11
    go_wp2_with (go_at_call 36; refine (winCheck_any l b i p f es a c _ HE2.out HW.out).mono ?_; rintro e w' ⟨rfl, hb⟩; have Hb := Lib.hid hb; clear hb)
    go_ret2
    exact ⟨_, by rw [Hv.out]; rfl, by rw [Ho.out]; exact World.ownsRow_nil _ _ _ _, ((Below.refl _ _).alloc (Nat.le_refl _) _).trans (Hb.out.mono (by simp))⟩
  have e1' : (decCheck l b i p f es != 0) = false := by simpa using e1
  obtain ⟨⟨l1, l2⟩, ⟨b1, b2, i1, i2, p1, f1, p2, f2⟩, hes⟩ := decCheck_ok e1
  have E1 := Lib.hid e1
  clear e1
  by_cases e2 : wordCheck l s.data.toList = 0
  case neg =>
    have hv : decErr l b i p f es s = wordCheck l s.data.toList := by unfold decErr; rw [if_neg (by rw [E1.out]; simp), if_pos e2]
    have ho : decOut l b i p f es s = [] := by unfold decOut; rw [hv, if_neg e2]
    have Hv := Lib.hid hv
    have Ho := Lib.hid ho
    have e2' : (wordCheck l s.data.toList != 0) = true := by simpa using e2
    clear hv ho e2
    go_enter Try.func11, Try.ntmps11
    go_wp2_with (first
      | (go_at_call 36; refine (winCheck_any l b i p f es a c _ HE2.out HW.out).mono ?_; rintro e w' ⟨rfl, hb⟩; obtain ⟨⟨c0, c1, c2, c3, c4, c5⟩, hsz, hbw⟩ := box6 (hb.mono (by simp)); have Hb := Lib.hid hbw; clear hb hbw)
      | (go_at_call 37; refine (wordCheck_any _ _ hs _).mono ?_; rintro e w' ⟨rfl, n, rfl⟩))
    go_ret2
    exact ⟨_, by rw [Hv.out]; rfl, by rw [Ho.out]; exact World.ownsRow_nil _ _ _ _, below_dr Hb.out⟩
  have e2' : (wordCheck l s.data.toList != 0) = false := by simpa using e2
  have hs2 : s.size ≤ 65536 := by have := wordCheck_len e2; simpa using this
  have E2 := Lib.hid e2
  clear e2
  by_cases e3 : (s.size : Int) % b = 0
  case neg =>
    have hv : decErr l b i p f es s = 11 := by unfold decErr; rw [if_neg (by rw [E1.out]; simp), if_neg (by rw [E2.out]; simp), if_pos e3]
    have ho : decOut l b i p f es s = [] := by unfold decOut; rw [hv]; rfl
    have Hv := Lib.hid hv
    have Ho := Lib.hid ho
    have e3' : ((s.size : Int) % b != 0) = true := by simpa using e3
    clear hv ho e3
    go_enter Try.func11, Try.ntmps11
    go_wp2_with (first
      | (go_at_call 36; refine (winCheck_any l b i p f es a c _ HE2.out HW.out).mono ?_; rintro e w' ⟨rfl, hb⟩; obtain ⟨⟨c0, c1, c2, c3, c4, c5⟩, hsz, hbw⟩ := box6 (hb.mono (by simp)); have Hb := Lib.hid hbw; clear hb hbw)
      | (go_at_call 37; refine (wordCheck_any _ _ hs _).mono ?_; rintro e w' ⟨rfl, n, rfl⟩))
    go_ret2
    exact ⟨_, by rw [Hv.out]; rfl, by rw [Ho.out]; exact World.ownsRow_nil _ _ _ _, below_dr Hb.out⟩
  have hv : decErr l b i p f es s = 0 := by unfold decErr; rw [if_neg (by rw [E1.out]; simp), if_neg (by rw [E2.out]; simp), if_neg (by simpa using e3)]
  have ho : decOut l b i p f es s = decList b p f es s := by unfold decOut; rw [if_pos hv]
  have Hv := Lib.hid hv
  have Ho := Lib.hid ho
  have e3' : ((s.size : Int) % b != 0) = false := by simpa using e3
  clear hv ho e3
  have hmul := mul_wrap (a := p + 1 + f) (b := b) (A := 16) (B := 16) (by omega) (by omega) (by omega) (by omega) (by decide)
  have hm0 : 0 ≤ (p + 1 + f) * b := Int.mul_nonneg (by omega) (by omega)
  have hm1 : (p + 1 + f) * b ≤ 256 := Int.le_trans (Int.mul_le_mul_of_nonneg_right (show p + 1 + f ≤ 16 by omega) (by omega)) (by omega)
  obtain ⟨bn, rfl⟩ : ∃ bn : Nat, b = bn := ⟨b.toNat, by omega⟩
  obtain ⟨N, hN⟩ : ∃ N : Nat, (p + 1 + f) * (bn : Int) = N := ⟨((p + 1 + f) * (bn : Int)).toNat, by omega⟩
  have hN2 : IntKind.i64.wrap ((p + 1 + f) * (bn : Int)) = N := by rw [IntWalk.i64_in _ (by omega), hN]
  have hNle : N ≤ 256 := by omega
  have hL : decList bn p f es s = (List.range (winCount s.size N bn)).map fun k => decAt es s N (k * bn) := by
    unfold decList; rw [hN]; rfl
  have HL := Lib.hid hL
  clear hL hN hmul hm0 hm1
  have hb0 : 0 < bn := by omega
  go_enter Try.func11, Try.ntmps11
  go_wp2_with (first
      | (go_at_call 36; refine (winCheck_any l bn i p f es a c _ HE2.out HW.out).mono ?_; rintro e w' ⟨rfl, hb⟩; obtain ⟨⟨c0, c1, c2, c3, c4, c5⟩, hsz, hbw⟩ := box6 (hb.mono (by simp)); have Hb := Lib.hid hbw; have HbX := Lib.hid (hb.mono (B' := w.heap.size + 1) (by simp)); clear hb hbw)
      | (go_at_call 37; refine (wordCheck_any _ _ hs _).mono ?_; rintro e w' ⟨rfl, n, rfl⟩))
  go_loopw [7, 9] (fun v at_ wr => ∃ k A : Nat, at_ = .int .i64 A ∧ A ≤ s.size + bn ∧ Hid (A = k * bn) ∧ Hid (∀ j, j < k → j * bn + N ≤ s.size) ∧ Below (w.heap.size + 1) (w.alloc (.cells #[.int .i64 l, .int .i64 bn, .int .i64 i, .int .i64 p, .int .i64 f, .slice a es.length c] 30)) wr ∧ Hid (OwnInts wr (w.heap.size + 1) v ((List.range k).map fun k => decAt es s N (k * bn)))) (fun _ at_ _ => s.size + bn + 1 - (intOf at_).toNat)
  case atStart => exact ⟨0, 0, rfl, by omega, Lib.hid (by simp), Lib.hid (fun j hj => by omega), below_dr HbX.out, Lib.hid (OwnInts.nil _ _)⟩
  case round =>
    clear c0 c1 c2 c3 c4 c5 hsz
    obtain ⟨k, A, rfl, hA, HA, Hj, hb, Hown⟩ := hrel
    obtain ⟨⟨c0, c1, c2, c3, c4, c5⟩, hsz, hbw⟩ := box6 hb
    have Hbb := Lib.hid hb
    have Hbw := Lib.hid hbw
    clear hb hbw
    by_cases hlt : A + N ≤ s.size
    · have HE3 := Lib.hid (SlAt.mono HE.out (Nat.le_refl _) Hbw.out)
      have hA1 : (0 : Int) ≤ (A : Int) := by omega
      have hA2 : (A : Int) + (N : Int) ≤ (s.size : Int) := by omega
      have hA3 : (A : Int) ≤ (A : Int) + (N : Int) := by omega
      have hA4 : IntKind.i64.wrap ((A : Int) + (N : Int)) = (A : Int) + (N : Int) := IntWalk.i64_in _ (by omega)
      have hA5 : ((A : Int) + (N : Int)).toNat = A + N := by omega
      obtain ⟨x, ok, hf⟩ : ∃ x ok, findE es (s.extract A (A + N)) = (x, ok) := ⟨_, _, rfl⟩
      have hd : decAt es s N A = if ok then x else -1 := by unfold decAt; rw [hf]
      have hr1 : ((List.range (k + 1)).map fun k => decAt es s N (k * bn)) = ((List.range k).map fun k => decAt es s N (k * bn)) ++ [decAt es s N A] := by
        rw [List.range_succ, List.map_append, HA.out]; rfl
      have hj1 : ∀ j, j < k + 1 → j * bn + N ≤ s.size := fun j hj => by
        rcases Nat.lt_or_ge j k with h | h
        · exact Hj.out j h
        · have : j = k := by omega
          subst this; rw [← HA.out]; exact hlt
      have ha1 : A + bn = (k + 1) * bn := by rw [HA.out, Nat.add_mul, Nat.one_mul]
      have hklen : k ≤ s.size := by
        have := HA.out
        have h2 : k * 1 ≤ k * bn := Nat.mul_le_mul_left k hb0
        omega
      have Hf := Lib.hid hf
      have Hr1 := Lib.hid hr1
      have Hj1 := Lib.hid hj1
      have Ha1 := Lib.hid ha1
      clear hf hr1 hj1 ha1
      cases ok
      case false =>
        have Hd := Lib.hid hd
        clear hd
        go_wp2_with fail
        go_region_with (go_at_call 38; refine (find_any l bn i p f es a c _ _ (SlAt.mono HE.out (Nat.le_refl _) (by exact Below.drew Hbw.out)) hes).mono ?_; rintro e w1 ⟨rfl, hb⟩; rw [Hf.out]; have Hb2 := Lib.hid hb; clear hb)
        have hb3 : Below wr.heap.size wr w1 := ((Below.refl _ _).drew).trans Hb2.out
        have hsz1 : wr.heap.size ≤ w1.heap.size := hb3.size
        have Hown1 := Lib.hid (Hown.out.below (Nat.le_refl _) hb3)
        have Hb3 := Lib.hid hb3
        clear hb3
        go_wp2_with (at_builtin; refine wpList_append_int rfl _ _ rfl (w.heap.size + 1) _ _ rfl (Hown1.out.alloc _) w1.heap.size 1 (-1) rfl ?_ ?_ ?_ ?_)
        · simp
        · simp; omega
        · simp; omega
        · intro v' w2 hown2 hgrow
          have Hb4 := Lib.hid (below_append ((Hbb.out.trans (Hb3.out.mono (by omega))).alloc (by omega) _) (Hown1.out.alloc _) hgrow (by simp; omega) (Nat.le_refl _))
          obtain ⟨⟨g0, g1, g2, g3, g4, g5⟩, hsz2, hbw2⟩ := box6 Hb4.out
          have Hown2 := Lib.hid hown2
          clear hown2 hgrow hbw2
          go_wp2
          go_roundw
          case rel => exact ⟨k + 1, A + bn, by go_num, by omega, Ha1, Hj1, Hb4.out, Lib.hid (by rw [Hr1.out, Hd.out]; exact Hown2.out)⟩
          case measure => simp [intOf]; omega
      case true =>
        have Hd := Lib.hid hd
        clear hd
        go_wp2_with fail
        go_region_with (go_at_call 38; refine (find_any l bn i p f es a c _ _ (SlAt.mono HE.out (Nat.le_refl _) (by exact Below.drew Hbw.out)) hes).mono ?_; rintro e w1 ⟨rfl, hb⟩; rw [Hf.out]; have Hb2 := Lib.hid hb; clear hb)
        have hb3 : Below wr.heap.size wr w1 := ((Below.refl _ _).drew).trans Hb2.out
        have hsz1 : wr.heap.size ≤ w1.heap.size := hb3.size
        have Hown1 := Lib.hid (Hown.out.below (Nat.le_refl _) hb3)
        have Hb3 := Lib.hid hb3
        clear hb3
        go_wp2_with (at_builtin; refine wpList_append_int rfl _ _ rfl (w.heap.size + 1) _ _ rfl (Hown1.out.alloc _) w1.heap.size 1 x rfl ?_ ?_ ?_ ?_)
        · simp
        · simp; omega
        · simp; omega
        · intro v' w2 hown2 hgrow
          have Hb4 := Lib.hid (below_append ((Hbb.out.trans (Hb3.out.mono (by omega))).alloc (by omega) _) (Hown1.out.alloc _) hgrow (by simp; omega) (Nat.le_refl _))
          obtain ⟨⟨g0, g1, g2, g3, g4, g5⟩, hsz2, hbw2⟩ := box6 Hb4.out
          have Hown2 := Lib.hid hown2
          clear hown2 hgrow hbw2
          go_wp2
          go_roundw
          case rel => exact ⟨k + 1, A + bn, by go_num, by omega, Ha1, Hj1, Hb4.out, Lib.hid (by rw [Hr1.out, Hd.out]; exact Hown2.out)⟩
          case measure => simp [intOf]; omega
    · have hk : k = winCount s.size N bn := winCount_eq (by rw [← HA.out]; exact hlt) Hj.out
      have Hk := Lib.hid hk
      clear hk
      go_wp2
      go_ret2
      exact ⟨_, by rw [Hv.out]; rfl, by rw [Ho.out, HL.out, ← Hk.out]; exact Hown.out.base (by omega), Hbw.out⟩
end Go.Proofs.Ytcafeffgaokiaaa
