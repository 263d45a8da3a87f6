/- The walk of the statement PropagationNone: it returns true for every input. -/
import Derived.Test.YtndfppafddfnaaaLawB
namespace Go.Proofs.Ytndfppafddfnaaa
open Go.RowKit

theorem diffs_self (a : List Int) : diffs a a = [] := by
  unfold diffs diffsK; simp
theorem replS_self {s : ByteArray} {a c : Nat} (hc : c < 16) (ha : a < s.size) (h : letters.getD c 0 = s.data.toList.getD a 0) : replS s a c = s := by
  apply ba_ext
  rw [replS_set s a c hc ha, h]
  apply List.ext_getElem?
  intro n
  rw [List.getElem?_set]
  split
  · rename_i e
    subst e
    have h2 : a < s.data.toList.length := by simpa using ha
    rw [if_pos h2, List.getD_eq_getElem?_getD, List.getElem?_eq_getElem h2]; rfl
  · rfl
/-- What the loop over the letters has found before letter j. -/
def OwnAt (c : UInt8) (j : Nat) (own : Int) : Prop := own = -1 ∨ ∃ o : Nat, o < j ∧ own = o ∧ letters.getD o 0 = c

set_option maxRecDepth 100000 in
set_option maxHeartbeats 8000000 in
theorem noneLaw (l b i p f : Int) (es : List Ent) (a : Option Addr) (c : Nat) (s : ByteArray) (x y z : Nat) (w : World) (hE : EntsAt w a es) (hwins : WinsFit es) (hn : es.length ≤ 100000000000000) (hs : s.size ≤ 9223372036854775807) (hx : x ≤ 255) (hy : y ≤ 255) (hz : z ≤ 255) :
    Calls Try.prog 6 #[.agg #[.int .i64 l, .int .i64 b, .int .i64 i, .int .i64 p, .int .i64 f, .slice a es.length c], .string s, .int .u8 x, .int .u8 y, .int .u8 z] w fun e w' => e = .returned (.bool true) ∧ Below w.heap.size w w' := by
  have HE := Lib.hid hE
  have HE2 := Lib.hid (hE.mono (Nat.le_refl _) ((Below.refl w.heap.size w).alloc (Nat.le_refl _) (.cells #[.int .i64 l, .int .i64 b, .int .i64 i, .int .i64 p, .int .i64 f, .slice a es.length c] 24)))
  have HW := Lib.hid hwins
  clear hE hwins
  go_enter Try.func6, Try.ntmps6
  go_wp2_with fail
  refine (great_any l b i p f es a c _ HE2.out HW.out hn).mono ?_; rintro e w1 ⟨g, rfl, hg, hb⟩
  have HX1 := Lib.hid (hb.mono (B' := w.heap.size + 1) (by simp))
  obtain ⟨⟨c0, c1, c2, c3, c4, c5⟩, hsz, hbw⟩ := box6 HX1.out
  have Hb1 := Lib.hid hbw
  clear hb hbw hg
  cases g
  case true =>
    go_wp2_with (go_at_call 12; refine (awake_any _).mono ?_; rintro e w9 ⟨rfl, hb⟩; have Hb9 := Lib.hid hb; clear hb)
    all_goals
      go_ret
      exact ⟨rfl, Hb1.out.trans (Hb9.out.mono Hb1.out.size)⟩
  case false =>
    by_cases h20 : 20 < s.size
    · have h0 : ¬ s.size = 0 := by omega
      go_wp2_with (go_at_call 12; refine (awake_any _).mono ?_; rintro e w9 ⟨rfl, hb⟩; have Hb9 := Lib.hid hb; clear hb)
      all_goals
        go_ret
        exact ⟨rfl, Hb1.out.trans (Hb9.out.mono Hb1.out.size)⟩
    by_cases h0 : s.size = 0
    · have h0' : ((s.size : Int) == 0) = true := by rw [beq_iff_eq]; omega
      clear h0
      go_wp2_with (go_at_call 12; refine (awake_any _).mono ?_; rintro e w9 ⟨rfl, hb⟩; have Hb9 := Lib.hid hb; clear hb)
      all_goals
        go_ret
        exact ⟨rfl, Hb1.out.trans (Hb9.out.mono Hb1.out.size)⟩
    have h0' : ((s.size : Int) == 0) = false := by rw [beq_eq_false_iff_ne]; omega
    go_wp2_with fail
    refine (refCheck26_any l b i p f es a c _ (SlAt.mono HE.out (Nat.le_refl _) Hb1.out) HW.out).mono ?_; rintro e w2 ⟨rfl, hb⟩
    have HX2 := Lib.hid (HX1.out.trans (hb.mono (by omega)))
    have Hs2 := Lib.hid hb
    clear c0 c1 c2 c3 c4 c5 hb
    obtain ⟨⟨c0, c1, c2, c3, c4, c5⟩, hsz2, hbw⟩ := box6 HX2.out
    have Hb2 := Lib.hid hbw
    clear hbw
    by_cases hdc : decCheck l b i p f es = 0
    case neg =>
      have hdc' : (decCheck l b i p f es != 0) = true := by simpa using hdc
      clear hdc
      go_wp2_with (go_at_call 12; refine (awake_any _).mono ?_; rintro e w9 ⟨rfl, hb⟩; have Hb9 := Lib.hid hb; clear hb)
      all_goals
        go_ret
        exact ⟨rfl, Hb2.out.trans (Hb9.out.mono Hb2.out.size)⟩
    have hdc' : (decCheck l b i p f es != 0) = false := by simpa using hdc
    obtain ⟨⟨l1, l2⟩, ⟨b1, b2, i1, i2, p1, f1, pp2, f2⟩, hes⟩ := decCheck_ok hdc
    have HD := Lib.hid hdc
    clear hdc
    obtain ⟨L, rfl⟩ : ∃ L : Nat, l = L := ⟨l.toNat, by omega⟩
    obtain ⟨I, hI⟩ : ∃ I, x % s.size = I := ⟨_, rfl⟩
    obtain ⟨K, hK⟩ : ∃ K, y % s.size = K := ⟨_, rfl⟩
    obtain ⟨C, hC⟩ : ∃ C, z % L = C := ⟨_, rfl⟩
    have hIl : I < s.size := by rw [← hI]; exact Nat.mod_lt _ (by omega)
    have hKl : K < s.size := by rw [← hK]; exact Nat.mod_lt _ (by omega)
    have hCl : C < L := by rw [← hC]; exact Nat.mod_lt _ (by omega)
    have tI : (x : Int).tmod (s.size : Int) = (I : Int) := by rw [← hI]; rfl
    have tK : (y : Int).tmod (s.size : Int) = (K : Int) := by rw [← hK]; rfl
    have tC : (z : Int).tmod (L : Int) = (C : Int) := by rw [← hC]; rfl
    have nz1 : ¬ (s.size : Int) = 0 := by omega
    have nz2 : ¬ (L : Int) = 0 := by omega
    clear hI hK hC
    have j1 : (0 : Int) ≤ (I : Int) := by omega
    have j2 : (I : Int) < (s.size : Int) := by omega
    go_wp2_with fail
    go_quiet (fail)
    clear tI tK tC nz1 nz2
    go_wp2_with fail
    go_loopw [14, 60] (fun o t wr => ∃ (j : Nat) (own : Int), j ≤ L ∧ t = .int .i64 j ∧ o = .int .i64 own ∧ -1 ≤ own ∧ own < L ∧ Below (w.heap.size + 1) (w.alloc (.cells #[.int .i64 L, .int .i64 b, .int .i64 i, .int .i64 p, .int .i64 f, .slice a es.length c] 24)) wr ∧ Hid (OwnAt s[I] j own)) (fun _ t _ => L - (intOf t).toNat)
    case atStart => exact ⟨0, -1, by omega, rfl, rfl, by omega, by omega, below_dr HX2.out, Lib.hid (.inl rfl)⟩
    case round =>
      clear c0 c1 c2 c3 c4 c5
      obtain ⟨j, own, hj, rfl, rfl, hown1, hown2, hb, ho⟩ := hrel
      have HX3 := Lib.hid hb
      obtain ⟨⟨c0, c1, c2, c3, c4, c5⟩, hsz3, hbw⟩ := box6 hb
      have Hb3 := Lib.hid hbw
      clear hb hbw
      by_cases hlt : j < L
      · have k1 : (0 : Int) ≤ (j : Int) := by omega
        have k2 : (j : Int) < (16 : Int) := by omega
        have hLet := Lib.hid (letter_at j (show j < 16 by omega))
        go_wp2_with fail
        go_quiet (fail)
        go_wp2
        all_goals go_roundw
        case rel =>
          rename_i h
          refine ⟨j + 1, j, by omega, by go_num, by go_num, by omega, by omega, below_dr HX3.out, Lib.hid (.inr ⟨j, by omega, rfl, ?_⟩)⟩
          have h2 := beq_iff_eq.1 h
          rw [List.getD_eq_getElem?_getD, hLet.out]
          exact UInt8.toNat_inj.1 (Int.ofNat.inj h2)
        case measure => simp [intOf]; omega
        case rel =>
          refine ⟨j + 1, own, by omega, by go_num, rfl, by omega, by omega, below_dr HX3.out, Lib.hid ?_⟩
          rcases ho.out with h | ⟨o, h1, h2, h3⟩
          · exact .inl h
          · exact .inr ⟨o, by omega, h2, h3⟩
        case measure => simp [intOf]; omega
      by_cases hneg : own < 0
      · clear ho
        go_wp2_with (go_at_call 12; refine (awake_any _).mono ?_; rintro e w9 ⟨rfl, hb⟩; have Hb9 := Lib.hid hb; clear hb)
        all_goals
          go_ret
          exact ⟨rfl, Hb3.out.trans (Hb9.out.mono Hb3.out.size)⟩
      · obtain ⟨O, hO, rfl, hlet⟩ : ∃ O : Nat, O < L ∧ own = O ∧ letters.getD O 0 = s[I] := by
          rcases ho.out with h | ⟨o, h1, h2, h3⟩
          · omega
          · exact ⟨o, by omega, h2, h3⟩
        have hrep : replS s I O = s := replS_self (by omega) hIl (by rw [hlet, ba_getD s I hIl])
        have Hrep := Lib.hid hrep
        clear hrep hlet ho
        go_wp2_with fail
        refine (changed_any L b i p f es a c s I O _ (SlAt.mono HE.out (Nat.le_refl _) Hb3.out) HW.out hs).mono ?_
        rintro e w4 ⟨v4, rfl, hown, hb⟩
        obtain ⟨q4, e4, rfl, _, _, _⟩ := OwnInts.form hown
        clear hown
        have HX4 := Lib.hid (HX3.out.trans (hb.mono (by omega)))
        have Hs4 := Lib.hid hb
        clear c0 c1 c2 c3 c4 c5 hb
        obtain ⟨⟨c0, c1, c2, c3, c4, c5⟩, hsz4, hbw⟩ := box6 HX4.out
        have Hb4 := Lib.hid hbw
        clear hbw
        by_cases hde : decErr L b i p f es s = 0
        case neg =>
          have hce : chErr L b i p f es s I O = decErr L b i p f es s := by unfold chErr; rw [if_pos hde]
          rw [hce]
          have hde' : (decErr L b i p f es s != 0) = true := by simpa using hde
          clear hce hde
          go_wp2_with (go_at_call 12; refine (awake_any _).mono ?_; rintro e w9 ⟨rfl, hb⟩; have Hb9 := Lib.hid hb; clear hb)
          all_goals
            go_ret
            exact ⟨rfl, Hb4.out.trans (Hb9.out.mono Hb4.out.size)⟩
        have hce : chErr L b i p f es s I O = 0 := chErr_zero.2 ⟨hde, by omega, by omega⟩
        have hco : chOut L b i p f es s I O = [] := by
          unfold chOut; rw [if_pos hce]
          show diffs _ (decOut L b i p f es (replS s I O)) = []
          rw [Hrep.out, diffs_self]
        have hce2 : chErr L b i p f es s I C = 0 := chErr_zero.2 ⟨hde, by omega, by omega⟩
        have hdv : decErr L b i p f es (replS s I C) = 0 := replS_err hIl (by omega) (by omega) hde
        have hsv := replS_size s I C hIl (by omega)
        have hce3 : chErr L b i p f es (replS s I C) K C = 0 := chErr_zero.2 ⟨hdv, by omega, by omega⟩
        have hl2 := chOut_len hce2
        have hl3 := chOut_len hce3
        have hbe : boundErr L b i p f es = 0 := by unfold boundErr; rw [if_neg (by simpa using HD.out)]
        have hbv : boundVal L b i p f es = p + 1 + f := by unfold boundVal; rw [if_neg (by simpa using HD.out)]
        rw [hce, hco]
        have Hce2 := Lib.hid hce2
        have Hce3 := Lib.hid hce3
        have Hbe := Lib.hid hbe
        have Hbv := Lib.hid hbv
        have Hsv := Lib.hid hsv
        clear hce hco hde hdv hce2 hce3 hbe hbv hsv
        go_wp2_with fail
        refine (changed_any L b i p f es a c s I C _ (SlAt.mono HE.out (Nat.le_refl _) Hb4.out) HW.out hs).mono ?_
        rintro e w5 ⟨v5, rfl, hown, hb⟩
        obtain ⟨q5, e5, rfl, _, _, _⟩ := OwnInts.form hown
        clear hown
        have HX5 := Lib.hid (HX4.out.trans (hb.mono (by omega)))
        have Hs5 := Lib.hid hb
        clear c0 c1 c2 c3 c4 c5 hb
        obtain ⟨⟨c0, c1, c2, c3, c4, c5⟩, hsz5, hbw⟩ := box6 HX5.out
        have Hb5 := Lib.hid hbw
        clear hbw
        rw [Hce2.out]
        have r1 : (0 : Int) ≤ (C : Int) := by omega
        have r2 : (C : Int) < (16 : Int) := by omega
        have r3 : IntKind.i64.wrap ((C : Int) + 1) = (C : Int) + 1 := IntWalk.i64_in _ (by omega)
        have r4 : IntKind.i64.wrap ((I : Int) + 1) = (I : Int) + 1 := IntWalk.i64_in _ (by omega)
        have r5 : ((C : Int) + 1).toNat = C + 1 := by omega
        have r6 : ((I : Int) + 1).toNat = I + 1 := by omega
        go_wp2_with fail
        go_quiet (fail)
        clear r1 r2 r3 r4 r5 r6
        go_wp2_with fail
        refine (changed_any L b i p f es a c (replS s I C) K C _ (SlAt.mono HE.out (Nat.le_refl _) (by repeat (first | exact Hb5.out | refine below_dr ?_))) HW.out (by rw [Hsv.out]; exact hs)).mono ?_
        rintro e w6 ⟨v6, rfl, hown, hb⟩
        obtain ⟨q6, e6, rfl, _, _, _⟩ := OwnInts.form hown
        clear hown
        have HX6 := Lib.hid ((below_dr HX5.out).trans (hb.mono (by simp; omega)))
        have Hs6 := Lib.hid hb
        clear c0 c1 c2 c3 c4 c5 hb
        obtain ⟨⟨c0, c1, c2, c3, c4, c5⟩, hsz6, hbw⟩ := box6 HX6.out
        have Hb6 := Lib.hid hbw
        clear hbw
        rw [Hce3.out]
        generalize chOut L b i p f es s I C = x1 at *
        generalize chOut L b i p f es (replS s I C) K C = x2 at *
        go_wp2_with fail
        refine (bound_any L b i p f es a c _ (SlAt.mono HE.out (Nat.le_refl _) Hb6.out) HW.out).mono ?_
        rintro e w7 ⟨rfl, hb⟩
        rw [Hbe.out, Hbv.out]
        have Hb7 := Lib.hid (Hb6.out.trans (hb.mono (Nat.le_of_lt hsz6)))
        clear hb
        go_wp2_with (go_at_call 12; refine (awake_any _).mono ?_; rintro e w9 ⟨rfl, hb⟩; have Hb9 := Lib.hid hb; clear hb)
        all_goals
          go_ret
          exact ⟨rfl, Hb7.out.trans (Hb9.out.mono Hb7.out.size)⟩
end Go.Proofs.Ytndfppafddfnaaa
