/- The walks of grooveref26.place, slices.BinarySearchFunc and window.find. Slices of ints: those that a call makes, and those that it reads. The walk of window.Decode. -/
import Derived.Test.YtcafeffgaokiaaaJ1
import Derived.Test.YtcafeffgaokiaaaRows
import Derived.Test.YtcafeffgaokiaaaJ0
import Derived.OwnWalk
import Derived.KernelRfl
import Derived.Lib.Hide
import Derived.Deep.RegionWith
namespace Go.Proofs.Ytcafeffgaokiaaa
open Go.RowKit

/-- Binary search: with fuel. -/
def bs (less : Nat → Bool) : Nat → Nat → Nat → Nat
  | 0, lo, _ => lo
  | m + 1, lo, hi => if lo < hi then (if less ((lo + hi) / 2) then bs less m ((lo + hi) / 2 + 1) hi else bs less m lo ((lo + hi) / 2)) else lo
theorem bs_fuel (less : Nat → Bool) : ∀ m m' lo hi, hi - lo ≤ m → hi - lo ≤ m' → bs less m lo hi = bs less m' lo hi := by
  intro m
  induction m with
  | zero =>
    intro m' lo hi h h'
    cases m' with
    | zero => rfl
    | succ m' => simp only [bs]; rw [if_neg (by omega)]
  | succ m ih =>
    intro m' lo hi h h'
    cases m' with
    | zero => simp only [bs]; rw [if_neg (by omega)]
    | succ m' =>
      by_cases hlt : lo < hi
      · simp only [bs, if_pos hlt]
        rw [ih m' ((lo + hi) / 2 + 1) hi (by omega) (by omega), ih m' lo ((lo + hi) / 2) (by omega) (by omega)]
      · simp only [bs, if_neg hlt]
/-- Binary search between lo and hi. -/
def bsr (less : Nat → Bool) (lo hi : Nat) : Nat := bs less (hi - lo) lo hi
theorem bsr_step {less : Nat → Bool} {lo hi : Nat} (h : lo < hi) : bsr less lo hi = if less ((lo + hi) / 2) then bsr less ((lo + hi) / 2 + 1) hi else bsr less lo ((lo + hi) / 2) := by
  unfold bsr
  obtain ⟨k, hk⟩ : ∃ k, hi - lo = k + 1 := ⟨hi - lo - 1, by omega⟩
  rw [hk]; simp only [bs, if_pos h]
  rw [bs_fuel less k _ ((lo + hi) / 2 + 1) hi (by omega) (Nat.le_refl _), bs_fuel less k _ lo ((lo + hi) / 2) (by omega) (Nat.le_refl _)]
theorem bsr_end {less : Nat → Bool} {lo hi : Nat} (h : ¬ lo < hi) : bsr less lo hi = lo := by
  unfold bsr; rw [show hi - lo = 0 from by omega]; rfl
/-- The place of the first entry whose window is not less. -/
def placeOf (es : List Ent) (s : ByteArray) : Nat := bsr (fun i => Op.bytesLess (es.getD i default).win.toList s.toList) 0 es.length
theorem ba_toList (s : ByteArray) : s.toList = s.data.toList := ByteArray.toList_eq s
theorem cmp_neg (a b : List UInt8) : decide (Lib.compareBytes a b < 0) = Op.bytesLess a b := by
  induction a generalizing b with
  | nil => cases b <;> simp [Lib.compareBytes, Op.bytesLess]
  | cons x a ih =>
    cases b with
    | nil => simp [Lib.compareBytes, Op.bytesLess]
    | cons y b =>
      simp only [Lib.compareBytes, Op.bytesLess]
      by_cases h : x < y
      · simp [h]
      · by_cases h2 : y < x
        · have h3 : ¬ x = y := by intro e; subst e; exact h h2
          simp [h, h2, h3]
        · have h3 : x = y := by
            apply UInt8.toNat_inj.1
            rw [UInt8.lt_iff_toNat_lt] at h h2; omega
          simp [h3, ← ih]
theorem cmp_zero (a b : List UInt8) : (Lib.compareBytes a b == 0) = (a == b) := by
  induction a generalizing b with
  | nil => cases b <;> simp [Lib.compareBytes]
  | cons x a ih =>
    cases b with
    | nil => simp [Lib.compareBytes]
    | cons y b =>
      simp only [Lib.compareBytes]
      by_cases h : x < y
      · have h3 : ¬ x = y := by intro e; subst e; exact absurd h (by simp)
        simp [h, h3]
      · by_cases h2 : y < x
        · have h3 : ¬ x = y := by intro e; subst e; exact h h2
          simp [h, h2, h3]
        · have h3 : x = y := by
            apply UInt8.toNat_inj.1
            rw [UInt8.lt_iff_toNat_lt] at h h2; omega
          have := ih b
          simp [h3] at this ⊢
          exact this

set_option maxHeartbeats 400000 in
/-- The comparison that window.find hands over. -/
theorem cmpW_any (x : Ent) (s : ByteArray) (w : World) :
    Calls Try.prog 68 #[.agg #[.string x.win, .int .i64 x.inp], .string s] w fun e w' => e = .returned (.int .i64 (Lib.compareBytes x.win.data.toList s.data.toList)) ∧ w' = w.alloc (.cells #[.string x.win, .int .i64 x.inp] 86) := by
  go_enter Try.func68, Try.ntmps68
  go_wp2_with (go_at_call 62; refine (Try.strings_Compare _ _ _).mono ?_; rintro e w' ⟨rfl, rfl⟩)
  go_ret
  exact ⟨rfl, rfl⟩

/-- What slices.BinarySearchFunc and window.find hand on. -/
def hasAt (es : List Ent) (s : ByteArray) : Bool := decide (placeOf es s < es.length) && ((es.getD (placeOf es s) default).win.toList == s.toList)

set_option maxHeartbeats 2000000 in
theorem search_any (es : List Ent) (a : Option Addr) (c : Nat) (s : ByteArray) (w : World) (hE : EntsAt w a es) (hn : es.length ≤ 65536) :
    Calls Try.prog 67 #[.slice a es.length c, .string s, .func (.func 68) #[] #[]] w fun e w' => e = .returned (.tuple #[.int .i64 (placeOf es s), .bool (hasAt es s)]) ∧ Below w.heap.size w w' := by
  have HE := Lib.hid hE
  clear hE
  go_enter Try.func67, Try.ntmps67
  go_wp2
  go_loopw [9, 10] (fun x y wr => ∃ lo hi : Nat, lo ≤ hi ∧ hi ≤ es.length ∧ x = .int .i64 lo ∧ y = .int .i64 hi ∧ Below w.heap.size w wr ∧ Hid (placeOf es s = bsr (fun i => Op.bytesLess (es.getD i default).win.toList s.toList) lo hi)) (fun x y _ => (intOf y - intOf x).toNat)
  case atStart => exact ⟨0, es.length, by omega, by omega, rfl, rfl, Below.refl _ _, Lib.hid rfl⟩
  case round =>
    obtain ⟨lo, hi, h1, h2, rfl, rfl, hb, hr⟩ := hrel
    by_cases hlt : lo < hi
    · obtain ⟨eb, eo, rfl, heb, hcell⟩ := EntsAt.cells HE.out (k := lo) (by omega)
      obtain ⟨m, hm⟩ : ∃ m, (lo + hi) / 2 = m := ⟨_, rfl⟩
      have hm1 : lo ≤ m := by omega
      have hm2 : m < hi := by omega
      have hmI : ((lo : Int) + (hi : Int)) / 2 = (m : Int) := by omega
      obtain ⟨x, hx⟩ : ∃ x, es.getD m default = x := ⟨_, rfl⟩
      obtain ⟨d0, d1⟩ := EntsAt.fact hcell hb heb (k := m) (by omega) hx
      have Hx := Lib.hid hx
      have Hm := Lib.hid hm
      have Hb := Lib.hid hb
      clear hx hcell hm hb
      have hcn := cmp_neg x.win.data.toList s.data.toList
      rw [← ba_toList, ← ba_toList] at hcn
      by_cases ht : Op.bytesLess x.win.toList s.toList = true
      · have hv2 : placeOf es s = bsr (fun i => Op.bytesLess (es.getD i default).win.toList s.toList) (m + 1) hi := by
          rw [hr.out, bsr_step hlt, Hm.out, Hx.out, if_pos ht]
        have Hv2 := Lib.hid hv2
        have hlt0 : Lib.compareBytes x.win.toList s.toList < 0 := by rw [ht] at hcn; exact of_decide_eq_true hcn
        rw [ba_toList, ba_toList] at hlt0
        clear hv2 hcn
        go_wp2_with (go_at_call 68; refine (cmpW_any x s _).mono ?_; rintro e w' ⟨rfl, rfl⟩)
        go_roundw
        case rel => exact ⟨m + 1, hi, by omega, by omega, by go_num, rfl, Hb.out.alloc Hb.out.size _, Hv2⟩
        case measure => simp [intOf]; omega
      · have hv2 : placeOf es s = bsr (fun i => Op.bytesLess (es.getD i default).win.toList s.toList) lo m := by
          rw [hr.out, bsr_step hlt, Hm.out, Hx.out, if_neg ht]
        have Hv2 := Lib.hid hv2
        have hlt0 : ¬ Lib.compareBytes x.win.toList s.toList < 0 := by
          intro h; rw [decide_eq_true h] at hcn; exact ht hcn.symm
        rw [ba_toList, ba_toList] at hlt0
        clear hv2 hcn ht
        go_wp2_with (go_at_call 68; refine (cmpW_any x s _).mono ?_; rintro e w' ⟨rfl, rfl⟩)
        go_roundw
        case rel => exact ⟨lo, m, by omega, by omega, rfl, by go_num, Hb.out.alloc Hb.out.size _, Hv2⟩
        case measure => simp [intOf]; omega
    · have hp : placeOf es s = lo := by rw [hr.out, bsr_end hlt]
      have Hp := Lib.hid hp
      have Hb := Lib.hid hb
      clear hp hb
      by_cases hle : lo < es.length
      · obtain ⟨eb, eo, rfl, heb, hcell⟩ := EntsAt.cells HE.out (k := lo) (by omega)
        obtain ⟨x, hx⟩ : ∃ x, es.getD lo default = x := ⟨_, rfl⟩
        obtain ⟨d0, d1⟩ := EntsAt.fact hcell Hb.out heb (k := lo) (by omega) hx
        have hv : hasAt es s = (x.win.toList == s.toList) := by
          unfold hasAt; rw [Hp.out, hx]; simp [hle]
        have Hv := Lib.hid hv
        have hc0 := cmp_zero x.win.data.toList s.data.toList
        rw [← ba_toList, ← ba_toList, ← hv, ba_toList, ba_toList] at hc0
        have hd : decide ((lo : Int) < (es.length : Int)) = true := by simp; omega
        have hd2 : decide (lo < es.length) = true := by simp; omega
        clear hx hcell hv
        go_wp2_with (go_at_call 68; refine (cmpW_any x s _).mono ?_; rintro e w' ⟨rfl, rfl⟩)
        go_ret2
        exact ⟨by rw [Hp.out]; rfl, Hb.out.alloc Hb.out.size _⟩
      · have hv : hasAt es s = false := by unfold hasAt; rw [Hp.out]; simp [hle]
        have Hv := Lib.hid hv
        have hd : decide ((lo : Int) < (es.length : Int)) = false := by simp; omega
        have hd2 : decide (lo < es.length) = false := by simp; omega
        clear hv
        go_wp2_with fail
        go_ret2
        exact ⟨by rw [Hp.out, Hv.out]; rfl, Hb.out⟩

/-- What window.find returns. -/
def findE (es : List Ent) (s : ByteArray) : Int × Bool := if hasAt es s then ((es.getD (placeOf es s) default).inp, true) else (0, false)

set_option maxHeartbeats 2000000 in
theorem find_any (l b i p f : Int) (es : List Ent) (a : Option Addr) (c : Nat) (s : ByteArray) (w : World) (hE : EntsAt w a es) (hn : es.length ≤ 65536) :
    Calls Try.prog 38 #[.agg #[.int .i64 l, .int .i64 b, .int .i64 i, .int .i64 p, .int .i64 f, .slice a es.length c], .string s] w fun e w' => e = .returned (.tuple #[.int .i64 (findE es s).1, .bool (findE es s).2]) ∧ Below w.heap.size w w' := by
  have HE := Lib.hid hE
  have HE2 := Lib.hid (hE.mono (Nat.le_refl _) ((Below.refl w.heap.size w).alloc (Nat.le_refl _) (.cells #[.int .i64 l, .int .i64 b, .int .i64 i, .int .i64 p, .int .i64 f, .slice a es.length c] 30)))
  clear hE
  cases hh : hasAt es s
  · have hv : findE es s = (0, false) := by unfold findE; rw [hh]; rfl
    have Hv := Lib.hid hv
    have HH := Lib.hid hh
    clear hv hh
    go_enter Try.func38, Try.ntmps38
    go_wp2_with (go_at_call 67; refine (search_any es a c s _ HE2.out hn).mono ?_; rintro e w' ⟨rfl, hb⟩; rw [HH.out]; have Hb := Lib.hid hb; clear hb)
    go_ret2
    exact ⟨by rw [Hv.out]; rfl, ((Below.refl _ _).alloc (Nat.le_refl _) _).trans (Hb.out.mono (by simp))⟩
  · have hlt : placeOf es s < es.length := by unfold hasAt at hh; simp at hh; exact hh.1
    have hv : findE es s = ((es.getD (placeOf es s) default).inp, true) := by unfold findE; rw [hh]; rfl
    obtain ⟨eb, eo, rfl, heb, hcell⟩ := EntsAt.cells HE.out hlt
    obtain ⟨k, hk⟩ : ∃ k, placeOf es s = k := ⟨_, rfl⟩
    rw [hk] at hlt hv
    obtain ⟨x, hx⟩ : ∃ x, es.getD k default = x := ⟨_, rfl⟩
    rw [hx] at hv
    have Hx := Lib.hid hx
    have Hk := Lib.hid hk
    have Hv := Lib.hid hv
    have HH := Lib.hid hh
    have Hc := Lib.hid hcell
    clear hv hh hx hk hcell
    go_enter Try.func38, Try.ntmps38
    go_wp2_with (go_at_call 67; refine (search_any es _ c s _ HE2.out hn).mono ?_; rintro e w' ⟨rfl, hb⟩; rw [HH.out, Hk.out]; obtain ⟨⟨c0, c1, c2, c3, c4, c5⟩, hsz, hbw⟩ := box6 (hb.mono (by simp)); obtain ⟨d0, d1⟩ := EntsAt.fact Hc.out hbw heb hlt Hx.out; have Hb := Lib.hid hbw; clear hb hbw)
    go_ret2
    exact ⟨by rw [Hv.out]; rfl, Hb.out⟩
end Go.Proofs.Ytcafeffgaokiaaa
namespace Go.Proofs.Ytcafeffgaokiaaa
open Go.RowKit

theorem intInfo : (Try.prog.info? 3).map (fun i => (i.zero, i.size, i.bytes)) = some (some (.int .i64 0), 1, 8) := by kernel_rfl
/-- A world whose slice v holds these ints, in memory from block B on. -/
def OwnInts (w : World) (B : Nat) (v : Value) (xs : List Int) : Prop := w.ownsRow B 3 1 v xs.length (xs.map (Value.int .i64))
theorem OwnInts.nil (w : World) (B : Nat) : OwnInts w B (.slice none 0 0) [] := World.ownsRow_nil _ _ _ _
theorem OwnInts.made (w : World) {B : Nat} (h : B ≤ w.heap.size) : OwnInts (w.alloc (.cells #[] 3)) B (.slice (some ⟨w.heap.size, 0, none⟩) 0 0) [] := World.ownsRow_made w #[] 0 h (by simp [maxLen]) rfl
theorem OwnInts.below {w w' : World} {B C : Nat} {v : Value} {xs : List Int} (h : OwnInts w B v xs) (hB : w.heap.size ≤ C) (hb : Below C w w') : OwnInts w' B v xs := ownsRow_below h hB hb
theorem OwnInts.base {w : World} {B B' : Nat} {v : Value} {xs : List Int} (h : OwnInts w B v xs) (hB : B' ≤ B) : OwnInts w B' v xs := ownsRow_base h hB
theorem OwnInts.alloc {w : World} {B : Nat} {v : Value} {xs : List Int} (h : OwnInts w B v xs) (o : Obj) : OwnInts (w.alloc o) B v xs := World.ownsRow.alloc h o
theorem OwnInts.drewN {w : World} {B : Nat} {v : Value} {xs : List Int} (h : OwnInts w B v xs) (n : Nat) : OwnInts (w.drewN n) B v xs := h.below (Nat.le_refl _) (Drawn.below ⟨n, rfl⟩ _)

/-- 'out = append(out, y)' of ints onto a row of the call's own. -/
theorem wpList_append_int {ops : Array Oper} {rest : List Oper} {o : Oper} {a : Act} {Q : Exit → Act → World → Prop} {w : World} (hgd : o.guard = none) (s x : Operand)
    (ho : o.op = .call { callee := .builtin .append, args := #[s, x], argTypes := #[34, 34] })
    (base : Nat) (v : Value) (xs : List Int) (hs : a.eval s = v) (hown : OwnInts w base v xs) (g c : Nat) (y : Int) (hx : a.eval x = .slice (some ⟨g, 0, none⟩) 1 c)
    (hc : w.cell? ⟨g, 0, none⟩ = some (.int .i64 y)) (hn : xs.length < 1000000000000) (hbase : base ≤ w.heap.size)
    (h : ∀ v' w', OwnInts w' base v' (xs ++ [y]) → w.grownBy w' v.ownBlock → wpList Try.prog ops Q rest (a.put o.dst v') w') : wpList Try.prog ops Q (o :: rest) a w := by
  obtain ⟨i0, hi, hz0, hz1, hz2⟩ := info_parts intInfo
  refine wpList_append_own _ hgd s x _ ho base 3 i0 (.int .i64 0) 1 8 Try.underlying34 hi hz0 hz1 hz2 rfl (by decide) v xs.length (xs.map (Value.int .i64)) hs hown ⟨g, 0, none⟩ 1 c [.int .i64 y] hx rfl ?_ ?_ ?_ ?_ hbase ?_
  · intro j u hj
    match j, hj with
    | 0, hj => simp at hj; subst hj; simpa [Addr.add] using hc
  · intro u hu; simp at hu; subst hu; rfl
  · unfold maxLen; omega
  · omega
  · intro v' w' h2 h3 _
    exact h v' w' (by unfold OwnInts; simpa using h2) h3

/-- A slice header at p reads as these ints. -/
def IntsAt (w : World) (p : Option Addr) (xs : List Int) : Prop := SlAt 1 w p xs.length (fun i _ => .int .i64 (xs.getD i 0))
theorem IntsAt.below {w w' : World} {p : Option Addr} {xs : List Int} (h : IntsAt w p xs) {B : Nat} (hB : w.heap.size ≤ B) (hb : Below B w w') : IntsAt w' p xs := h.mono hB hb
theorem OwnInts.form {w : World} {B : Nat} {v : Value} {xs : List Int} (h : OwnInts w B v xs) : ∃ p cap, v = .slice p xs.length cap ∧ xs.length ≤ cap ∧ IntsAt w p xs ∧ (∀ b, p = some b → B ≤ b.block) :=
  slAt_of_owns h (fun i _ => .int .i64 (xs.getD i 0)) fun i hi j hj => by
    have : j = 0 := by omega
    subst this
    simp [List.getD_eq_getElem?_getD, hi]
theorem IntsAt.cells {w : World} {p : Option Addr} {xs : List Int} (h : IntsAt w p xs) {k : Nat} (hk : k < xs.length) :
    ∃ b off, p = some ⟨b, off, none⟩ ∧ b < w.heap.size ∧ ∀ i, i < xs.length → w.cell? ⟨b, off + i, none⟩ = some (.int .i64 (xs.getD i 0)) := by
  rcases h with h | ⟨b, off, rfl, hlt, hc⟩
  · omega
  · exact ⟨b, off, rfl, hlt, fun i hi => by simpa using hc i hi 0 (by omega)⟩
end Go.Proofs.Ytcafeffgaokiaaa
namespace Go.Proofs.Ytcafeffgaokiaaa
open Go.RowKit


/-- How many windows of n letters begin at 0, b, 2b, .. of s letters. -/
def winCount (s n b : Nat) : Nat := if n ≤ s then (s - n) / b + 1 else 0
theorem winCount_eq {s n b k : Nat} (h1 : ¬ k * b + n ≤ s) (h2 : ∀ j, j < k → j * b + n ≤ s) : k = winCount s n b := by
  unfold winCount
  by_cases h : n ≤ s
  · rw [if_pos h]
    cases k with
    | zero => omega
    | succ m =>
      have h3 := h2 m (by omega)
      have h4 : (s - n) / b = m := by
        apply Nat.div_eq_of_lt_le
        · omega
        · omega
      omega
  · rw [if_neg h]
    cases k with
    | zero => rfl
    | succ m => have := h2 0 (by omega); omega
/-- What the window that begins at 'at' decodes to. -/
def decAt (es : List Ent) (s : ByteArray) (n a : Nat) : Int := if (findE es (s.extract a (a + n))).2 then (findE es (s.extract a (a + n))).1 else -1
def decErr (l b i p f : Int) (es : List Ent) (s : ByteArray) : Int :=
  if decCheck l b i p f es ≠ 0 then 1 else if wordCheck l s.data.toList ≠ 0 then wordCheck l s.data.toList else if (s.size : Int) % b ≠ 0 then 11 else 0
def decList (b p f : Int) (es : List Ent) (s : ByteArray) : List Int :=
  (List.range (winCount s.size ((p + 1 + f) * b).toNat b.toNat)).map fun k => decAt es s ((p + 1 + f) * b).toNat (k * b.toNat)
/-- The list that Decode returns. -/
def decOut (l b i p f : Int) (es : List Ent) (s : ByteArray) : List Int := if decErr l b i p f es s = 0 then decList b p f es s else []

theorem decCheck_ok {l b i p f : Int} {es : List Ent} (h : decCheck l b i p f es = 0) : (1 ≤ l ∧ l ≤ 16) ∧ (1 ≤ b ∧ b ≤ 16 ∧ 1 ≤ i ∧ i ≤ 256 ∧ 0 ≤ p ∧ 0 ≤ f ∧ p < 16 ∧ f < 16 - p) ∧ es.length ≤ 65536 := by
  unfold decCheck at h
  by_cases h1 : l < 1 ∨ 16 < l
  · rw [if_pos h1] at h; omega
  rw [if_neg h1] at h
  by_cases h2 : b < 1 ∨ 16 < b ∨ i < 1 ∨ 256 < i ∨ p < 0 ∨ f < 0 ∨ 16 ≤ p ∨ 16 - p ≤ f
  · rw [if_pos h2] at h; omega
  rw [if_neg h2] at h
  by_cases h3 : 65536 < es.length
  · rw [if_pos h3] at h; omega
  omega

theorem wordCheck_len {q : Int} {l : List UInt8} (h : wordCheck q l = 0) : l.length ≤ 65536 := by
  unfold wordCheck at h
  by_cases h1 : q < 1 ∨ 16 < q
  · rw [if_pos h1] at h; omega
  rw [if_neg h1] at h
  by_cases h2 : 65536 < l.length
  · rw [if_pos h2] at h; omega
  omega

set_option maxRecDepth 100000 in
set_option maxHeartbeats 4000000 in
theorem decode_any (l b i p f : Int) (es : List Ent) (a : Option Addr) (c : Nat) (s : ByteArray) (w : World) (hE : EntsAt w a es) (hwins : WinsFit es) (hs : s.size ≤ 9223372036854775807) :
    Calls Try.prog 11 #[.agg #[.int .i64 l, .int .i64 b, .int .i64 i, .int .i64 p, .int .i64 f, .slice a es.length c], .string s] w fun e w' =>
      ∃ v, e = .returned (.tuple #[v, .int .i64 (decErr l b i p f es s)]) ∧ OwnInts w' w.heap.size v (decOut l b i p f es s) ∧ Below w.heap.size w w' := by
  have HE := Lib.hid hE
  have HE2 := Lib.hid (hE.mono (Nat.le_refl _) ((Below.refl w.heap.size w).alloc (Nat.le_refl _) (.cells #[.int .i64 l, .int .i64 b, .int .i64 i, .int .i64 p, .int .i64 f, .slice a es.length c] 30)))
  have HW := Lib.hid hwins
  clear hE hwins
  by_cases e1 : decCheck l b i p f es = 0
  case neg =>
    have hv : decErr l b i p f es s = 1 := by unfold decErr; rw [if_pos e1]
    have ho : decOut l b i p f es s = [] := by unfold decOut; rw [hv]; rfl
    have Hv := Lib.hid hv
    have Ho := Lib.hid ho
    have e1' : (decCheck l b i p f es != 0) = true := by simpa using e1
    clear hv ho e1
    go_enter Try.func11, Try.ntmps11
    go_wp2_with (go_at_call 36; refine (winCheck_any l b i p f es a c _ HE2.out HW.out).mono ?_; rintro e w' ⟨rfl, hb⟩; have Hb := Lib.hid hb; clear hb)
    go_ret2
    exact ⟨_, by rw [Hv.out]; rfl, by rw [Ho.out]; exact World.ownsRow_nil _ _ _ _, ((Below.refl _ _).alloc (Nat.le_refl _) _).trans (Hb.out.mono (by simp))⟩
  have e1' : (decCheck l b i p f es != 0) = false := by simpa using e1
  obtain ⟨⟨l1, l2⟩, ⟨b1, b2, i1, i2, p1, f1, p2, f2⟩, hes⟩ := decCheck_ok e1
  have E1 := Lib.hid e1
  clear e1
  by_cases e2 : wordCheck l s.data.toList = 0
  case neg =>
    have hv : decErr l b i p f es s = wordCheck l s.data.toList := by unfold decErr; rw [if_neg (by rw [E1.out]; simp), if_pos e2]
    have ho : decOut l b i p f es s = [] := by unfold decOut; rw [hv, if_neg e2]
    have Hv := Lib.hid hv
    have Ho := Lib.hid ho
    have e2' : (wordCheck l s.data.toList != 0) = true := by simpa using e2
    clear hv ho e2
    go_enter Try.func11, Try.ntmps11
    go_wp2_with (first
      | (go_at_call 36; refine (winCheck_any l b i p f es a c _ HE2.out HW.out).mono ?_; rintro e w' ⟨rfl, hb⟩; obtain ⟨⟨c0, c1, c2, c3, c4, c5⟩, hsz, hbw⟩ := box6 (hb.mono (by simp)); have Hb := Lib.hid hbw; clear hb hbw)
      | (go_at_call 37; refine (wordCheck_any _ _ hs _).mono ?_; rintro e w' ⟨rfl, n, rfl⟩))
    go_ret2
    exact ⟨_, by rw [Hv.out]; rfl, by rw [Ho.out]; exact World.ownsRow_nil _ _ _ _, below_dr Hb.out⟩
  have e2' : (wordCheck l s.data.toList != 0) = false := by simpa using e2
  have hs2 : s.size ≤ 65536 := by have := wordCheck_len e2; simpa using this
  have E2 := Lib.hid e2
  clear e2
  by_cases e3 : (s.size : Int) % b = 0
  case neg =>
    have hv : decErr l b i p f es s = 11 := by unfold decErr; rw [if_neg (by rw [E1.out]; simp), if_neg (by rw [E2.out]; simp), if_pos e3]
    have ho : decOut l b i p f es s = [] := by unfold decOut; rw [hv]; rfl
    have Hv := Lib.hid hv
    have Ho := Lib.hid ho
    have e3' : ((s.size : Int) % b != 0) = true := by simpa using e3
    clear hv ho e3
    go_enter Try.func11, Try.ntmps11
    go_wp2_with (first
      | (go_at_call 36; refine (winCheck_any l b i p f es a c _ HE2.out HW.out).mono ?_; rintro e w' ⟨rfl, hb⟩; obtain ⟨⟨c0, c1, c2, c3, c4, c5⟩, hsz, hbw⟩ := box6 (hb.mono (by simp)); have Hb := Lib.hid hbw; clear hb hbw)
      | (go_at_call 37; refine (wordCheck_any _ _ hs _).mono ?_; rintro e w' ⟨rfl, n, rfl⟩))
    go_ret2
    exact ⟨_, by rw [Hv.out]; rfl, by rw [Ho.out]; exact World.ownsRow_nil _ _ _ _, below_dr Hb.out⟩
  have hv : decErr l b i p f es s = 0 := by unfold decErr; rw [if_neg (by rw [E1.out]; simp), if_neg (by rw [E2.out]; simp), if_neg (by simpa using e3)]
  have ho : decOut l b i p f es s = decList b p f es s := by unfold decOut; rw [if_pos hv]
  have Hv := Lib.hid hv
  have Ho := Lib.hid ho
  have e3' : ((s.size : Int) % b != 0) = false := by simpa using e3
  clear hv ho e3
  have hmul := mul_wrap (a := p + 1 + f) (b := b) (A := 16) (B := 16) (by omega) (by omega) (by omega) (by omega) (by decide)
  have hm0 : 0 ≤ (p + 1 + f) * b := Int.mul_nonneg (by omega) (by omega)
  have hm1 : (p + 1 + f) * b ≤ 256 := Int.le_trans (Int.mul_le_mul_of_nonneg_right (show p + 1 + f ≤ 16 by omega) (by omega)) (by omega)
  obtain ⟨bn, rfl⟩ : ∃ bn : Nat, b = bn := ⟨b.toNat, by omega⟩
  obtain ⟨N, hN⟩ : ∃ N : Nat, (p + 1 + f) * (bn : Int) = N := ⟨((p + 1 + f) * (bn : Int)).toNat, by omega⟩
  have hN2 : IntKind.i64.wrap ((p + 1 + f) * (bn : Int)) = N := by rw [IntWalk.i64_in _ (by omega), hN]
  have hNle : N ≤ 256 := by omega
  have hL : decList bn p f es s = (List.range (winCount s.size N bn)).map fun k => decAt es s N (k * bn) := by
    unfold decList; rw [hN]; rfl
  have HL := Lib.hid hL
  clear hL hN hmul hm0 hm1
  have hb0 : 0 < bn := by omega
  go_enter Try.func11, Try.ntmps11
  go_wp2_with (first
      | (go_at_call 36; refine (winCheck_any l bn i p f es a c _ HE2.out HW.out).mono ?_; rintro e w' ⟨rfl, hb⟩; obtain ⟨⟨c0, c1, c2, c3, c4, c5⟩, hsz, hbw⟩ := box6 (hb.mono (by simp)); have Hb := Lib.hid hbw; have HbX := Lib.hid (hb.mono (B' := w.heap.size + 1) (by simp)); clear hb hbw)
      | (go_at_call 37; refine (wordCheck_any _ _ hs _).mono ?_; rintro e w' ⟨rfl, n, rfl⟩))
  go_loopw [7, 9] (fun v at_ wr => ∃ k A : Nat, at_ = .int .i64 A ∧ A ≤ s.size + bn ∧ Hid (A = k * bn) ∧ Hid (∀ j, j < k → j * bn + N ≤ s.size) ∧ Below (w.heap.size + 1) (w.alloc (.cells #[.int .i64 l, .int .i64 bn, .int .i64 i, .int .i64 p, .int .i64 f, .slice a es.length c] 30)) wr ∧ Hid (OwnInts wr (w.heap.size + 1) v ((List.range k).map fun k => decAt es s N (k * bn)))) (fun _ at_ _ => s.size + bn + 1 - (intOf at_).toNat)
  case atStart => exact ⟨0, 0, rfl, by omega, Lib.hid (by simp), Lib.hid (fun j hj => by omega), below_dr HbX.out, Lib.hid (OwnInts.nil _ _)⟩
  case round =>
    clear c0 c1 c2 c3 c4 c5 hsz
    obtain ⟨k, A, rfl, hA, HA, Hj, hb, Hown⟩ := hrel
    obtain ⟨⟨c0, c1, c2, c3, c4, c5⟩, hsz, hbw⟩ := box6 hb
    have Hbb := Lib.hid hb
    have Hbw := Lib.hid hbw
    clear hb hbw
    by_cases hlt : A + N ≤ s.size
    · have HE3 := Lib.hid (SlAt.mono HE.out (Nat.le_refl _) Hbw.out)
      have hA1 : (0 : Int) ≤ (A : Int) := by omega
      have hA2 : (A : Int) + (N : Int) ≤ (s.size : Int) := by omega
      have hA3 : (A : Int) ≤ (A : Int) + (N : Int) := by omega
      have hA4 : IntKind.i64.wrap ((A : Int) + (N : Int)) = (A : Int) + (N : Int) := IntWalk.i64_in _ (by omega)
      have hA5 : ((A : Int) + (N : Int)).toNat = A + N := by omega
      obtain ⟨x, ok, hf⟩ : ∃ x ok, findE es (s.extract A (A + N)) = (x, ok) := ⟨_, _, rfl⟩
      have hd : decAt es s N A = if ok then x else -1 := by unfold decAt; rw [hf]
      have hr1 : ((List.range (k + 1)).map fun k => decAt es s N (k * bn)) = ((List.range k).map fun k => decAt es s N (k * bn)) ++ [decAt es s N A] := by
        rw [List.range_succ, List.map_append, HA.out]; rfl
      have hj1 : ∀ j, j < k + 1 → j * bn + N ≤ s.size := fun j hj => by
        rcases Nat.lt_or_ge j k with h | h
        · exact Hj.out j h
        · have : j = k := by omega
          subst this; rw [← HA.out]; exact hlt
      have ha1 : A + bn = (k + 1) * bn := by rw [HA.out, Nat.add_mul, Nat.one_mul]
      have hklen : k ≤ s.size := by
        have := HA.out
        have h2 : k * 1 ≤ k * bn := Nat.mul_le_mul_left k hb0
        omega
      have Hf := Lib.hid hf
      have Hr1 := Lib.hid hr1
      have Hj1 := Lib.hid hj1
      have Ha1 := Lib.hid ha1
      clear hf hr1 hj1 ha1
      cases ok
      case false =>
        have Hd := Lib.hid hd
        clear hd
        go_wp2_with fail
        go_region_with (go_at_call 38; refine (find_any l bn i p f es a c _ _ (SlAt.mono HE.out (Nat.le_refl _) (by exact Below.drew Hbw.out)) hes).mono ?_; rintro e w1 ⟨rfl, hb⟩; rw [Hf.out]; have Hb2 := Lib.hid hb; clear hb)
        have hb3 : Below wr.heap.size wr w1 := ((Below.refl _ _).drew).trans Hb2.out
        have hsz1 : wr.heap.size ≤ w1.heap.size := hb3.size
        have Hown1 := Lib.hid (Hown.out.below (Nat.le_refl _) hb3)
        have Hb3 := Lib.hid hb3
        clear hb3
        go_wp2_with (at_builtin; refine wpList_append_int rfl _ _ rfl (w.heap.size + 1) _ _ rfl (Hown1.out.alloc _) w1.heap.size 1 (-1) rfl ?_ ?_ ?_ ?_)
        · simp
        · simp; omega
        · simp; omega
        · intro v' w2 hown2 hgrow
          have Hb4 := Lib.hid (below_append ((Hbb.out.trans (Hb3.out.mono (by omega))).alloc (by omega) _) (Hown1.out.alloc _) hgrow (by simp; omega) (Nat.le_refl _))
          obtain ⟨⟨g0, g1, g2, g3, g4, g5⟩, hsz2, hbw2⟩ := box6 Hb4.out
          have Hown2 := Lib.hid hown2
          clear hown2 hgrow hbw2
          go_wp2
          go_roundw
          case rel => exact ⟨k + 1, A + bn, by go_num, by omega, Ha1, Hj1, Hb4.out, Lib.hid (by rw [Hr1.out, Hd.out]; exact Hown2.out)⟩
          case measure => simp [intOf]; omega
      case true =>
        have Hd := Lib.hid hd
        clear hd
        go_wp2_with fail
        go_region_with (go_at_call 38; refine (find_any l bn i p f es a c _ _ (SlAt.mono HE.out (Nat.le_refl _) (by exact Below.drew Hbw.out)) hes).mono ?_; rintro e w1 ⟨rfl, hb⟩; rw [Hf.out]; have Hb2 := Lib.hid hb; clear hb)
        have hb3 : Below wr.heap.size wr w1 := ((Below.refl _ _).drew).trans Hb2.out
        have hsz1 : wr.heap.size ≤ w1.heap.size := hb3.size
        have Hown1 := Lib.hid (Hown.out.below (Nat.le_refl _) hb3)
        have Hb3 := Lib.hid hb3
        clear hb3
        go_wp2_with (at_builtin; refine wpList_append_int rfl _ _ rfl (w.heap.size + 1) _ _ rfl (Hown1.out.alloc _) w1.heap.size 1 x rfl ?_ ?_ ?_ ?_)
        · simp
        · simp; omega
        · simp; omega
        · intro v' w2 hown2 hgrow
          have Hb4 := Lib.hid (below_append ((Hbb.out.trans (Hb3.out.mono (by omega))).alloc (by omega) _) (Hown1.out.alloc _) hgrow (by simp; omega) (Nat.le_refl _))
          obtain ⟨⟨g0, g1, g2, g3, g4, g5⟩, hsz2, hbw2⟩ := box6 Hb4.out
          have Hown2 := Lib.hid hown2
          clear hown2 hgrow hbw2
          go_wp2
          go_roundw
          case rel => exact ⟨k + 1, A + bn, by go_num, by omega, Ha1, Hj1, Hb4.out, Lib.hid (by rw [Hr1.out, Hd.out]; exact Hown2.out)⟩
          case measure => simp [intOf]; omega
    · have hk : k = winCount s.size N bn := winCount_eq (by rw [← HA.out]; exact hlt) Hj.out
      have Hk := Lib.hid hk
      clear hk
      go_wp2
      go_ret2
      exact ⟨_, by rw [Hv.out]; rfl, by rw [Ho.out, HL.out, ← Hk.out]; exact Hown.out.base (by omega), Hbw.out⟩
end Go.Proofs.Ytcafeffgaokiaaa
