/- Slices of bytes that read. The walks of Changed, of the program and of the reference. -/
import Derived.Test.YtcafeffgaokiaaaZ0
import Derived.Test.YtcafeffgaokiaaaZ10
import Derived.Test.YtcafeffgaokiaaaZ31
import Derived.Deep.RegionHeld3
namespace Go.Proofs.Ytcafeffgaokiaaa
open Go.RowKit
/-- A slice header at p reads as these bytes. -/
def ByteAt (w : World) (p : Option Addr) (xs : List Nat) : Prop := SlAt 1 w p xs.length (fun i _ => .int .u8 (xs.getD i 0 : Nat))
theorem ByteAt.below {w w' : World} {p : Option Addr} {xs : List Nat} (h : ByteAt w p xs) {B : Nat} (hB : w.heap.size ≤ B) (hb : Below B w w') : ByteAt w' p xs := h.mono hB hb
theorem ByteAt.cells {w : World} {p : Option Addr} {xs : List Nat} (h : ByteAt w p xs) {k : Nat} (hk : k < xs.length) :
    ∃ b off, p = some ⟨b, off, none⟩ ∧ b < w.heap.size ∧ ∀ i, i < xs.length → w.cell? ⟨b, off + i, none⟩ = some (.int .u8 (xs.getD i 0 : Nat)) := by
  rcases h with h | ⟨b, off, rfl, hlt, hc⟩
  · omega
  · exact ⟨b, off, rfl, hlt, fun i hi => by simpa using hc i hi 0 (by omega)⟩
end Go.Proofs.Ytcafeffgaokiaaa
namespace Go.Proofs.Ytcafeffgaokiaaa
open Go.RowKit

theorem size_fit {s : ByteArray} {l b i p f : Int} {es : List Ent} (h : decErr l b i p f es s = 0) : s.size ≤ 65536 := by
  have := wordCheck_len (decErr_zero.1 h).2.1; simpa using this

set_option maxRecDepth 100000 in
set_option maxHeartbeats 4000000 in
theorem changed_any (l b i p f : Int) (es : List Ent) (a : Option Addr) (c : Nat) (s : ByteArray) (at_ k : Int) (w : World) (hE : EntsAt w a es) (hwins : WinsFit es) (hs : s.size ≤ 9223372036854775807) :
    Calls Try.prog 13 #[.agg #[.int .i64 l, .int .i64 b, .int .i64 i, .int .i64 p, .int .i64 f, .slice a es.length c], .string s, .int .i64 at_, .int .i64 k] w fun e w' =>
      ∃ v, e = .returned (.tuple #[v, .int .i64 (chErr l b i p f es s at_ k)]) ∧ OwnInts w' w.heap.size v (chOut l b i p f es s at_ k) ∧ Below w.heap.size w w' := by
  have HE := Lib.hid hE
  have HE2 := Lib.hid (hE.mono (Nat.le_refl _) ((Below.refl w.heap.size w).alloc (Nat.le_refl _) (.cells #[.int .i64 l, .int .i64 b, .int .i64 i, .int .i64 p, .int .i64 f, .slice a es.length c] 30)))
  have HW := Lib.hid hwins
  clear hE hwins
  by_cases e1 : decErr l b i p f es s = 0
  case neg =>
    have hv : chErr l b i p f es s at_ k = decErr l b i p f es s := by unfold chErr; rw [if_pos e1]
    have ho : chOut l b i p f es s at_ k = [] := by unfold chOut; rw [hv, if_neg e1]
    have Hv := Lib.hid hv
    have Ho := Lib.hid ho
    have e1' : (decErr l b i p f es s != 0) = true := by simpa using e1
    clear hv ho e1
    go_enter Try.func13, Try.ntmps13
    go_wp2_with (go_at_call 11; refine (decode_any l b i p f es a c s _ HE2.out HW.out hs).mono ?_; rintro e w' ⟨v, rfl, hown, hb⟩; obtain ⟨⟨c0, c1, c2, c3, c4, c5⟩, hsz, hbw⟩ := box6 (hb.mono (by simp)); have Hb := Lib.hid hbw; clear hb hbw hown)
    go_ret2
    exact ⟨_, by rw [Hv.out]; rfl, by rw [Ho.out]; exact OwnInts.nil _ _, Hb.out⟩
  have e1' : (decErr l b i p f es s != 0) = false := by simpa using e1
  have hs2 := size_fit e1
  obtain ⟨⟨l1, l2⟩, ⟨b1, b2, i1, i2, p1, f1, p2, f2⟩, hes⟩ := decCheck_ok (decErr_zero.1 e1).1
  have E1 := Lib.hid e1
  clear e1
  by_cases e2 : at_ < 0 ∨ (s.size : Int) ≤ at_
  · have hv : chErr l b i p f es s at_ k = 2 := by unfold chErr; rw [if_neg (by rw [E1.out]; simp), if_pos e2]
    have ho : chOut l b i p f es s at_ k = [] := by unfold chOut; rw [hv]; rfl
    have Hv := Lib.hid hv
    have Ho := Lib.hid ho
    clear hv ho
    go_enter Try.func13, Try.ntmps13
    go_wp2_with (go_at_call 11; refine (decode_any l b i p f es a c s _ HE2.out HW.out hs).mono ?_; rintro e w' ⟨v, rfl, hown, hb⟩; obtain ⟨⟨c0, c1, c2, c3, c4, c5⟩, hsz, hbw⟩ := box6 (hb.mono (by simp)); have Hb := Lib.hid hbw; clear hb hbw hown)
    all_goals
      go_ret2
      exact ⟨_, by rw [Hv.out]; rfl, by rw [Ho.out]; exact OwnInts.nil _ _, Hb.out⟩
  obtain ⟨A, rfl⟩ : ∃ A : Nat, at_ = A := ⟨at_.toNat, by omega⟩
  have a1 : (0 : Int) ≤ (A : Int) := by omega
  have a2 : (A : Int) < (s.size : Int) := by omega
  have E2 := Lib.hid e2
  clear e2
  by_cases e3 : k < 0 ∨ l ≤ k
  · have hv : chErr l b i p f es s A k = 13 := by unfold chErr; rw [if_neg (by rw [E1.out]; simp), if_neg E2.out, if_pos e3]
    have ho : chOut l b i p f es s A k = [] := by unfold chOut; rw [hv]; rfl
    have Hv := Lib.hid hv
    have Ho := Lib.hid ho
    clear hv ho
    go_enter Try.func13, Try.ntmps13
    go_wp2_with (go_at_call 11; refine (decode_any l b i p f es a c s _ HE2.out HW.out hs).mono ?_; rintro e w' ⟨v, rfl, hown, hb⟩; obtain ⟨⟨c0, c1, c2, c3, c4, c5⟩, hsz, hbw⟩ := box6 (hb.mono (by simp)); have Hb := Lib.hid hbw; clear hb hbw hown)
    all_goals
      go_ret2
      exact ⟨_, by rw [Hv.out]; rfl, by rw [Ho.out]; exact OwnInts.nil _ _, Hb.out⟩
  obtain ⟨K, rfl⟩ : ∃ K : Nat, k = K := ⟨k.toNat, by omega⟩
  have k1 : (0 : Int) ≤ (K : Int) := by omega
  have k2 : (K : Int) < l := by omega
  have hv : chErr l b i p f es s A K = 0 := by unfold chErr; rw [if_neg (by rw [E1.out]; simp), if_neg E2.out, if_neg e3]
  have ho : chOut l b i p f es s A K = diffs (decOut l b i p f es s) (decOut l b i p f es (replS s A K)) := by unfold chOut; rw [if_pos hv]; rfl
  have he2 := replS_err (a := A) (c := K) (by omega) (by omega) k2 E1.out
  have hlen : (decOut l b i p f es (replS s A K)).length = (decOut l b i p f es s).length := by rw [decOut_len he2, decOut_len E1.out, replS_size s A K (by omega) (by omega)]
  have hlb : (decOut l b i p f es s).length < 1000000000000 := by rw [decOut_len E1.out]; have := winCount_le (s := s.size) (n := ((p + 1 + f) * b).toNat) (b := b.toNat); omega
  have hrs : (replS s A K).size ≤ 9223372036854775807 := by rw [replS_size s A K (by omega) (by omega)]; omega
  have Hv := Lib.hid hv
  have Ho := Lib.hid ho
  have He2 := Lib.hid he2
  have Hlen := Lib.hid hlen
  clear hv ho he2 hlen e3
  go_enter Try.func13, Try.ntmps13
  go_wp2_with (go_at_call 11; refine (decode_any l b i p f es a c s _ HE2.out HW.out hs).mono ?_; rintro e w1 ⟨v, rfl, hown, hb⟩; obtain ⟨⟨c0, c1, c2, c3, c4, c5⟩, hsz, hbw⟩ := box6 (hb.mono (by simp)); have Hb := Lib.hid hbw; have HbX := Lib.hid (hb.mono (B' := w.heap.size + 1) (by simp)); have Hown := Lib.hid hown; clear hb hbw hown)
  go_region_held3 (fun w' => w'.cell? ⟨w.heap.size, 0, none⟩ = some (.int .i64 l) ∧ w'.cell? ⟨w.heap.size, 1, none⟩ = some (.int .i64 b) ∧ w'.cell? ⟨w.heap.size, 2, none⟩ = some (.int .i64 i) ∧ w'.cell? ⟨w.heap.size, 3, none⟩ = some (.int .i64 p) ∧ w'.cell? ⟨w.heap.size, 4, none⟩ = some (.int .i64 f) ∧ w'.cell? ⟨w.heap.size, 5, none⟩ = some (.slice a es.length c))
    (go_keep)
    (first
      | (go_at_call 39; refine (replaced_any s A K (by omega) (by omega) (by omega) _).mono ?_; rintro e w2 ⟨rfl, n, rfl⟩)
      | (go_at_call 11; refine (decode_any l b i p f es a c (replS s A K) _ (SlAt.mono HE.out (Nat.le_refl _) (by repeat (first | exact Hb.out | refine Below.drew ?_ | refine below_dr ?_))) HW.out hrs).mono ?_; rintro e w2 ⟨v2, rfl, hown2, hb2⟩; rw [He2.out]; have hb3 : Below (w.heap.size + 1) (w.alloc (.cells #[.int .i64 l, .int .i64 b, .int .i64 i, .int .i64 p, .int .i64 f, .slice a es.length c] 30)) w2 := Below.trans (by repeat (first | exact HbX.out | refine Below.drew ?_ | refine below_dr ?_)) (hb2.mono (by simp; omega)); obtain ⟨⟨g0, g1, g2, g3, g4, g5⟩, hsz2, hbw2⟩ := box6 hb3; have Hb2 := Lib.hid hb2; have Hown2 := Lib.hid hown2; have Hbw2 := Lib.hid hbw2; clear hb2 hb3 hown2 hbw2))
  have hb4 : Below w1.heap.size w1 w2 := Below.trans (by repeat (first | exact Below.refl _ _ | refine Below.drew ?_ | refine below_dr ?_)) (Hb2.out.mono (by simp))
  obtain ⟨q1, d1, rfl, _, hI1, _⟩ := Hown.out.form
  obtain ⟨q2, d2, rfl, _, hI2, _⟩ := Hown2.out.form
  have HI1 := Lib.hid (hI1.below (Nat.le_refl _) hb4)
  have HI2 := Lib.hid hI2
  clear hI1 hI2 hb4 Hown Hown2
  rw [Hlen.out]
  generalize hx : decOut l b i p f es s = x1 at *
  generalize hy : decOut l b i p f es (replS s A K) = x2 at *
  clear hx hy
  go_wp2_with (go_at_call 40; refine (changes_any x1 x2 q1 q2 d1 d2 _ HI1.out HI2.out Hlen.out hlb).mono ?_; rintro e w3 ⟨v3, rfl, hown3, hb5⟩; have Hown3 := Lib.hid hown3; have Hb5 := Lib.hid hb5; clear hown3 hb5)
  go_ret2
  exact ⟨_, by rw [Hv.out]; rfl, by rw [Ho.out]; exact Hown3.out.base (by have := Hbw2.out.size; simp; omega), Hbw2.out.trans (Hb5.out.mono (Hbw2.out.size))⟩
end Go.Proofs.Ytcafeffgaokiaaa
