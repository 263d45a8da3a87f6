/- The walks of grooveref26.place, slices.BinarySearchFunc and window.find. -/
import Derived.Test.YtcafeffgaokiaaaK2
namespace Go.Proofs.Ytcafeffgaokiaaa
open Go.RowKit

/-- Binary search: with fuel. -/
def bs (less : Nat → Bool) : Nat → Nat → Nat → Nat
  | 0, lo, _ => lo
  | m + 1, lo, hi => if lo < hi then (if less ((lo + hi) / 2) then bs less m ((lo + hi) / 2 + 1) hi else bs less m lo ((lo + hi) / 2)) else lo
theorem bs_fuel (less : Nat → Bool) : ∀ m m' lo hi, hi - lo ≤ m → hi - lo ≤ m' → bs less m lo hi = bs less m' lo hi := by
  intro m
  induction m with
  | zero =>
    intro m' lo hi h h'
    cases m' with
    | zero => rfl
    | succ m' => simp only [bs]; rw [if_neg (by omega)]
  | succ m ih =>
    intro m' lo hi h h'
    cases m' with
    | zero => simp only [bs]; rw [if_neg (by omega)]
    | succ m' =>
      by_cases hlt : lo < hi
      · simp only [bs, if_pos hlt]
        rw [ih m' ((lo + hi) / 2 + 1) hi (by omega) (by omega), ih m' lo ((lo + hi) / 2) (by omega) (by omega)]
      · simp only [bs, if_neg hlt]
/-- Binary search between lo and hi. -/
def bsr (less : Nat → Bool) (lo hi : Nat) : Nat := bs less (hi - lo) lo hi
theorem bsr_step {less : Nat → Bool} {lo hi : Nat} (h : lo < hi) : bsr less lo hi = if less ((lo + hi) / 2) then bsr less ((lo + hi) / 2 + 1) hi else bsr less lo ((lo + hi) / 2) := by
  unfold bsr
  obtain ⟨k, hk⟩ : ∃ k, hi - lo = k + 1 := ⟨hi - lo - 1, by omega⟩
  rw [hk]; simp only [bs, if_pos h]
  rw [bs_fuel less k _ ((lo + hi) / 2 + 1) hi (by omega) (Nat.le_refl _), bs_fuel less k _ lo ((lo + hi) / 2) (by omega) (Nat.le_refl _)]
theorem bsr_end {less : Nat → Bool} {lo hi : Nat} (h : ¬ lo < hi) : bsr less lo hi = lo := by
  unfold bsr; rw [show hi - lo = 0 from by omega]; rfl
/-- The place of the first entry whose window is not less. -/
def placeOf (es : List Ent) (s : ByteArray) : Nat := bsr (fun i => Op.bytesLess (es.getD i default).win.toList s.toList) 0 es.length
theorem ba_toList (s : ByteArray) : s.toList = s.data.toList := ByteArray.toList_eq s
theorem cmp_neg (a b : List UInt8) : decide (Lib.compareBytes a b < 0) = Op.bytesLess a b := by
  induction a generalizing b with
  | nil => cases b <;> simp [Lib.compareBytes, Op.bytesLess]
  | cons x a ih =>
    cases b with
    | nil => simp [Lib.compareBytes, Op.bytesLess]
    | cons y b =>
      simp only [Lib.compareBytes, Op.bytesLess]
      by_cases h : x < y
      · simp [h]
      · by_cases h2 : y < x
        · have h3 : ¬ x = y := by intro e; subst e; exact h h2
          simp [h, h2, h3]
        · have h3 : x = y := by
            apply UInt8.toNat_inj.1
            rw [UInt8.lt_iff_toNat_lt] at h h2; omega
          simp [h3, ← ih]
theorem cmp_zero (a b : List UInt8) : (Lib.compareBytes a b == 0) = (a == b) := by
  induction a generalizing b with
  | nil => cases b <;> simp [Lib.compareBytes]
  | cons x a ih =>
    cases b with
    | nil => simp [Lib.compareBytes]
    | cons y b =>
      simp only [Lib.compareBytes]
      by_cases h : x < y
      · have h3 : ¬ x = y := by intro e; subst e; exact absurd h (by simp)
        simp [h, h3]
      · by_cases h2 : y < x
        · have h3 : ¬ x = y := by intro e; subst e; exact h h2
          simp [h, h2, h3]
        · have h3 : x = y := by
            apply UInt8.toNat_inj.1
            rw [UInt8.lt_iff_toNat_lt] at h h2; omega
          have := ih b
          simp [h3] at this ⊢
          exact this

set_option maxHeartbeats 400000 in
/-- The comparison that window.find hands over. -/
theorem cmpW_any (x : Ent) (s : ByteArray) (w : World) :
    Calls Try.prog 68 #[.agg #[.string x.win, .int .i64 x.inp], .string s] w fun e w' => e = .returned (.int .i64 (Lib.compareBytes x.win.data.toList s.data.toList)) ∧ w' = w.alloc (.cells #[.string x.win, .int .i64 x.inp] 86) := by
  go_enter Try.func68, Try.ntmps68
  go_wp2_with (go_at_call 62; refine (Try.strings_Compare _ _ _).mono ?_; rintro e w' ⟨rfl, rfl⟩)
  go_ret
  exact ⟨rfl, rfl⟩

/-- What slices.BinarySearchFunc and window.find hand on. -/
def hasAt (es : List Ent) (s : ByteArray) : Bool := decide (placeOf es s < es.length) && ((es.getD (placeOf es s) default).win.toList == s.toList)

set_option maxHeartbeats 2000000 in
theorem search_any (es : List Ent) (a : Option Addr) (c : Nat) (s : ByteArray) (w : World) (hE : EntsAt w a es) (hn : es.length ≤ 65536) :
    Calls Try.prog 67 #[.slice a es.length c, .string s, .func (.func 68) #[] #[]] w fun e w' => e = .returned (.tuple #[.int .i64 (placeOf es s), .bool (hasAt es s)]) ∧ Below w.heap.size w w' := by
  have HE := Lib.hid hE
  clear hE
  go_enter Try.func67, Try.ntmps67
  go_wp2
  go_loopw [9, 10] (fun x y wr => ∃ lo hi : Nat, lo ≤ hi ∧ hi ≤ es.length ∧ x = .int .i64 lo ∧ y = .int .i64 hi ∧ Below w.heap.size w wr ∧ Hid (placeOf es s = bsr (fun i => Op.bytesLess (es.getD i default).win.toList s.toList) lo hi)) (fun x y _ => (intOf y - intOf x).toNat)
  case atStart => exact ⟨0, es.length, by omega, by omega, rfl, rfl, Below.refl _ _, Lib.hid rfl⟩
  case round =>
    obtain ⟨lo, hi, h1, h2, rfl, rfl, hb, hr⟩ := hrel
    by_cases hlt : lo < hi
    · obtain ⟨eb, eo, rfl, heb, hcell⟩ := EntsAt.cells HE.out (k := lo) (by omega)
      obtain ⟨m, hm⟩ : ∃ m, (lo + hi) / 2 = m := ⟨_, rfl⟩
      have hm1 : lo ≤ m := by omega
      have hm2 : m < hi := by omega
      have hmI : ((lo : Int) + (hi : Int)) / 2 = (m : Int) := by omega
      obtain ⟨x, hx⟩ : ∃ x, es.getD m default = x := ⟨_, rfl⟩
      obtain ⟨d0, d1⟩ := EntsAt.fact hcell hb heb (k := m) (by omega) hx
      have Hx := Lib.hid hx
      have Hm := Lib.hid hm
      have Hb := Lib.hid hb
      clear hx hcell hm hb
      have hcn := cmp_neg x.win.data.toList s.data.toList
      rw [← ba_toList, ← ba_toList] at hcn
      by_cases ht : Op.bytesLess x.win.toList s.toList = true
      · have hv2 : placeOf es s = bsr (fun i => Op.bytesLess (es.getD i default).win.toList s.toList) (m + 1) hi := by
          rw [hr.out, bsr_step hlt, Hm.out, Hx.out, if_pos ht]
        have Hv2 := Lib.hid hv2
        have hlt0 : Lib.compareBytes x.win.toList s.toList < 0 := by rw [ht] at hcn; exact of_decide_eq_true hcn
        rw [ba_toList, ba_toList] at hlt0
        clear hv2 hcn
        go_wp2_with (go_at_call 68; refine (cmpW_any x s _).mono ?_; rintro e w' ⟨rfl, rfl⟩)
        go_roundw
        case rel => exact ⟨m + 1, hi, by omega, by omega, by go_num, rfl, Hb.out.alloc Hb.out.size _, Hv2⟩
        case measure => simp [intOf]; omega
      · have hv2 : placeOf es s = bsr (fun i => Op.bytesLess (es.getD i default).win.toList s.toList) lo m := by
          rw [hr.out, bsr_step hlt, Hm.out, Hx.out, if_neg ht]
        have Hv2 := Lib.hid hv2
        have hlt0 : ¬ Lib.compareBytes x.win.toList s.toList < 0 := by
          intro h; rw [decide_eq_true h] at hcn; exact ht hcn.symm
        rw [ba_toList, ba_toList] at hlt0
        clear hv2 hcn ht
        go_wp2_with (go_at_call 68; refine (cmpW_any x s _).mono ?_; rintro e w' ⟨rfl, rfl⟩)
        go_roundw
        case rel => exact ⟨lo, m, by omega, by omega, rfl, by go_num, Hb.out.alloc Hb.out.size _, Hv2⟩
        case measure => simp [intOf]; omega
    · have hp : placeOf es s = lo := by rw [hr.out, bsr_end hlt]
      have Hp := Lib.hid hp
      have Hb := Lib.hid hb
      clear hp hb
      by_cases hle : lo < es.length
      · obtain ⟨eb, eo, rfl, heb, hcell⟩ := EntsAt.cells HE.out (k := lo) (by omega)
        obtain ⟨x, hx⟩ : ∃ x, es.getD lo default = x := ⟨_, rfl⟩
        obtain ⟨d0, d1⟩ := EntsAt.fact hcell Hb.out heb (k := lo) (by omega) hx
        have hv : hasAt es s = (x.win.toList == s.toList) := by
          unfold hasAt; rw [Hp.out, hx]; simp [hle]
        have Hv := Lib.hid hv
        have hc0 := cmp_zero x.win.data.toList s.data.toList
        rw [← ba_toList, ← ba_toList, ← hv, ba_toList, ba_toList] at hc0
        have hd : decide ((lo : Int) < (es.length : Int)) = true := by simp; omega
        have hd2 : decide (lo < es.length) = true := by simp; omega
        clear hx hcell hv
        go_wp2_with (go_at_call 68; refine (cmpW_any x s _).mono ?_; rintro e w' ⟨rfl, rfl⟩)
        go_ret2
        exact ⟨by rw [Hp.out]; rfl, Hb.out.alloc Hb.out.size _⟩
      · have hv : hasAt es s = false := by unfold hasAt; rw [Hp.out]; simp [hle]
        have Hv := Lib.hid hv
        have hd : decide ((lo : Int) < (es.length : Int)) = false := by simp; omega
        have hd2 : decide (lo < es.length) = false := by simp; omega
        clear hv
        go_wp2_with fail
        go_ret2
        exact ⟨by rw [Hp.out, Hv.out]; rfl, Hb.out⟩

/-- What window.find returns. -/
def findE (es : List Ent) (s : ByteArray) : Int × Bool := if hasAt es s then ((es.getD (placeOf es s) default).inp, true) else (0, false)

set_option maxHeartbeats 2000000 in
theorem find_any (l b i p f : Int) (es : List Ent) (a : Option Addr) (c : Nat) (s : ByteArray) (w : World) (hE : EntsAt w a es) (hn : es.length ≤ 65536) :
    Calls Try.prog 38 #[.agg #[.int .i64 l, .int .i64 b, .int .i64 i, .int .i64 p, .int .i64 f, .slice a es.length c], .string s] w fun e w' => e = .returned (.tuple #[.int .i64 (findE es s).1, .bool (findE es s).2]) ∧ Below w.heap.size w w' := by
  have HE := Lib.hid hE
  have HE2 := Lib.hid (hE.mono (Nat.le_refl _) ((Below.refl w.heap.size w).alloc (Nat.le_refl _) (.cells #[.int .i64 l, .int .i64 b, .int .i64 i, .int .i64 p, .int .i64 f, .slice a es.length c] 30)))
  clear hE
  cases hh : hasAt es s
  · have hv : findE es s = (0, false) := by unfold findE; rw [hh]; rfl
    have Hv := Lib.hid hv
    have HH := Lib.hid hh
    clear hv hh
    go_enter Try.func38, Try.ntmps38
    go_wp2_with (go_at_call 67; refine (search_any es a c s _ HE2.out hn).mono ?_; rintro e w' ⟨rfl, hb⟩; rw [HH.out]; have Hb := Lib.hid hb; clear hb)
    go_ret2
    exact ⟨by rw [Hv.out]; rfl, ((Below.refl _ _).alloc (Nat.le_refl _) _).trans (Hb.out.mono (by simp))⟩
  · have hlt : placeOf es s < es.length := by unfold hasAt at hh; simp at hh; exact hh.1
    have hv : findE es s = ((es.getD (placeOf es s) default).inp, true) := by unfold findE; rw [hh]; rfl
    obtain ⟨eb, eo, rfl, heb, hcell⟩ := EntsAt.cells HE.out hlt
    obtain ⟨k, hk⟩ : ∃ k, placeOf es s = k := ⟨_, rfl⟩
    rw [hk] at hlt hv
    obtain ⟨x, hx⟩ : ∃ x, es.getD k default = x := ⟨_, rfl⟩
    rw [hx] at hv
    have Hx := Lib.hid hx
    have Hk := Lib.hid hk
    have Hv := Lib.hid hv
    have HH := Lib.hid hh
    have Hc := Lib.hid hcell
    clear hv hh hx hk hcell
    go_enter Try.func38, Try.ntmps38
    go_wp2_with (go_at_call 67; refine (search_any es _ c s _ HE2.out hn).mono ?_; rintro e w' ⟨rfl, hb⟩; rw [HH.out, Hk.out]; obtain ⟨⟨c0, c1, c2, c3, c4, c5⟩, hsz, hbw⟩ := box6 (hb.mono (by simp)); obtain ⟨d0, d1⟩ := EntsAt.fact Hc.out hbw heb hlt Hx.out; have Hb := Lib.hid hbw; clear hb hbw)
    go_ret2
    exact ⟨by rw [Hv.out]; rfl, Hb.out⟩
end Go.Proofs.Ytcafeffgaokiaaa
