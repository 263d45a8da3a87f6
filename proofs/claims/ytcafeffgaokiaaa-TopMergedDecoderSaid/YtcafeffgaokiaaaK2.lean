/- The walks of window.Check and of grooveref26.Check, and of what they need: what each returns for every decoder. -/
import Derived.Test.YtcafeffgaokiaaaK1
import Derived.Deep.RegionHeld3
import Derived.Deep.DeepCutAuto
namespace Go.Proofs.Ytcafeffgaokiaaa
open Go.RowKit

structure Ent where
  win : ByteArray
  inp : Int
instance : Inhabited Ent := ⟨⟨ByteArray.empty, 0⟩⟩
/-- The cells of an entry. -/
def entC (es : List Ent) (i j : Nat) : Value := if j = 0 then .string (es.getD i default).win else .int .i64 (es.getD i default).inp
/-- A slice header at p reads as these entries. -/
def EntsAt (w : World) (p : Option Addr) (es : List Ent) : Prop := SlAt 2 w p es.length (entC es)
/-- Go's 'a <= b' on strings. -/
def leStr (a b : ByteArray) : Bool := Op.bytesLess a.toList b.toList || a.toList == b.toList
def entBody (l b i p f : Int) (es : List Ent) (k : Nat) : Option Int :=
  if ((es.getD k default).win.size : Int) ≠ (p + 1 + f) * b then some 11
  else if wordCheck l (es.getD k default).win.data.toList ≠ 0 then some (wordCheck l (es.getD k default).win.data.toList)
  else if (es.getD k default).inp < 0 ∨ i ≤ (es.getD k default).inp then some 2
  else if 0 < k ∧ leStr (es.getD k default).win (es.getD (k - 1) default).win = true then some 10
  else none
/-- What both Checks return. -/
def decCheck (l b i p f : Int) (es : List Ent) : Int :=
  if l < 1 ∨ 16 < l then 12
  else if b < 1 ∨ 16 < b ∨ i < 1 ∨ 256 < i ∨ p < 0 ∨ f < 0 ∨ 16 ≤ p ∨ 16 - p ≤ f then 2
  else if 65536 < es.length then 4
  else firstFrom (entBody l b i p f es) 0 es.length 0

theorem EntsAt.cells {w : World} {p : Option Addr} {es : List Ent} (h : EntsAt w p es) {k : Nat} (hk : k < es.length) :
    ∃ b off, p = some ⟨b, off, none⟩ ∧ b < w.heap.size ∧ ∀ i, i < es.length → (w.cell? ⟨b, off + i * 2, none⟩ = some (.string (es.getD i default).win) ∧ w.cell? ⟨b, off + i * 2 + 1, none⟩ = some (.int .i64 (es.getD i default).inp)) := by
  rcases h with h | ⟨b, off, rfl, hlt, hc⟩
  · omega
  · exact ⟨b, off, rfl, hlt, fun i hi => ⟨by simpa [entC] using hc i hi 0 (by omega), by simpa [entC] using hc i hi 1 (by omega)⟩⟩

theorem EntsAt.fact {w wr : World} {b off : Nat} {es : List Ent} (h : ∀ i, i < es.length → (w.cell? ⟨b, off + i * 2, none⟩ = some (.string (es.getD i default).win) ∧ w.cell? ⟨b, off + i * 2 + 1, none⟩ = some (.int .i64 (es.getD i default).inp)))
    (hb : Below w.heap.size w wr) (hlt : b < w.heap.size) {k : Nat} (hk : k < es.length) {x : Ent} (hx : es.getD k default = x) :
    wr.cell? ⟨b, off + k * 2, none⟩ = some (.string x.win) ∧ wr.cell? ⟨b, off + k * 2 + 1, none⟩ = some (.int .i64 x.inp) := by
  subst hx; rw [hb.cell (p := ⟨b, _, none⟩) hlt, hb.cell (p := ⟨b, _, none⟩) hlt]; exact h k hk
/-- The greatest sizes that a decoder's parts have in the model. -/
def WinsFit (es : List Ent) : Prop := ∀ x ∈ es, x.win.size ≤ 9223372036854775807

set_option maxRecDepth 100000 in
set_option maxHeartbeats 4000000 in
theorem winCheck_any (l b i p f : Int) (es : List Ent) (a : Option Addr) (c : Nat) (w : World) (hE : EntsAt w a es) (hwins : WinsFit es) :
    Calls Try.prog 36 #[.agg #[.int .i64 l, .int .i64 b, .int .i64 i, .int .i64 p, .int .i64 f, .slice a es.length c]] w fun e w' => e = .returned (.int .i64 (decCheck l b i p f es)) ∧ Below w.heap.size w w' := by
  have HE := Lib.hid hE
  have HW := Lib.hid hwins
  clear hE hwins
  by_cases h1 : l < 1 ∨ 16 < l
  · have hv : decCheck l b i p f es = 12 := by simp [decCheck, h1]
    have Hv := Lib.hid hv
    clear hv
    go_enter Try.func36, Try.ntmps36
    go_wp2
    all_goals
      go_ret
      exact ⟨ret_int Hv.out.symm, (Below.refl _ _).alloc (Nat.le_refl _) _⟩
  have h1a : 1 ≤ l := by omega
  have h1b : l ≤ 16 := by omega
  by_cases h2 : b < 1 ∨ 16 < b ∨ i < 1 ∨ 256 < i ∨ p < 0 ∨ f < 0 ∨ 16 ≤ p ∨ 16 - p ≤ f
  · have hv : decCheck l b i p f es = 2 := by unfold decCheck; rw [if_neg h1, if_pos h2]
    have Hv := Lib.hid hv
    clear hv h1
    go_enter Try.func36, Try.ntmps36
    go_wp2
    all_goals
      go_ret
      exact ⟨ret_int Hv.out.symm, (Below.refl _ _).alloc (Nat.le_refl _) _⟩
  have hv : decCheck l b i p f es = if 65536 < es.length then 4 else firstFrom (entBody l b i p f es) 0 es.length 0 := by
    unfold decCheck; rw [if_neg h1, if_neg h2]
  have Hv := Lib.hid hv
  clear hv
  have a1 : 1 ≤ b := by omega
  have a2 : b ≤ 16 := by omega
  have a3 : 1 ≤ i := by omega
  have a4 : i ≤ 256 := by omega
  have a5 : 0 ≤ p := by omega
  have a6 : 0 ≤ f := by omega
  have a7 : p < 16 := by omega
  have a8 : f < 16 - p := by omega
  clear h1 h2
  by_cases h3 : 65536 < es.length
  · go_enter Try.func36, Try.ntmps36
    go_wp2
    go_ret
    exact ⟨ret_int (by rw [Hv.out, if_pos h3]), (Below.refl _ _).alloc (Nat.le_refl _) _⟩
  have hmul := mul_wrap (a := p + 1 + f) (b := b) (A := 16) (B := 16) (by omega) (by omega) (by omega) (by omega) (by decide)
  go_enter Try.func36, Try.ntmps36
  go_wp2
  go_loopw [65] (fun s wr => ∃ k : Nat, k ≤ es.length ∧ s = .int .i64 k ∧ Below (w.heap.size + 1) (w.alloc (.cells #[.int .i64 l, .int .i64 b, .int .i64 i, .int .i64 p, .int .i64 f, .slice a es.length c] 30)) wr ∧ Hid (decCheck l b i p f es = firstFrom (entBody l b i p f es) 0 (es.length - k) k)) (fun s _ => es.length - (intOf s).toNat)
  case atStart => exact ⟨0, by omega, rfl, Below.refl _ _, Lib.hid (by rw [Hv.out, if_neg h3]; rfl)⟩
  case round =>
    obtain ⟨k, hk, rfl, hb, hr⟩ := hrel
    obtain ⟨⟨c0, c1, c2, c3, c4, c5⟩, hsz, hbw⟩ := box6 hb
    by_cases hlt : k < es.length
    · obtain ⟨eb, eo, rfl, heb, hcell⟩ := EntsAt.cells HE.out hlt
      obtain ⟨x, hx⟩ : ∃ x, es.getD k default = x := ⟨_, rfl⟩
      obtain ⟨d0, d1⟩ := EntsAt.fact hcell hbw heb hlt hx
      have heb' : eb < wr.heap.size := by omega
      have hkw : x.win.size ≤ 9223372036854775807 := HW.out _ (by rw [← hx]; exact getD_mem _ _ _ hlt)
      have Hx := Lib.hid hx
      have Hb := Lib.hid hb
      have Hc := Lib.hid hcell
      have Hbw := Lib.hid hbw
      clear hx hb hcell hbw
      by_cases e1 : (x.win.size : Int) = (p + 1 + f) * b
      case neg =>
        have hv2 : decCheck l b i p f es = 11 := by
          rw [hr.out, firstFrom_some hlt (r := 11)]
          unfold entBody; rw [Hx.out, if_pos e1]
        have Hv2 := Lib.hid hv2
        have e1' : ((x.win.size : Int) != (p + 1 + f) * b) = true := by simpa using e1
        clear hv2 e1
        go_wp2
        go_ret
        exact ⟨ret_int Hv2.out.symm, (Hbw.out).alloc (by omega) _⟩
      have e1' : ((x.win.size : Int) != (p + 1 + f) * b) = false := by simpa using e1
      have E1 := Lib.hid e1
      clear e1
      by_cases e2 : wordCheck l x.win.data.toList = 0
      case neg =>
        have hv2 : decCheck l b i p f es = wordCheck l x.win.data.toList := by
          rw [hr.out, firstFrom_some hlt (r := wordCheck l x.win.data.toList)]
          unfold entBody; rw [Hx.out, if_neg (by simpa using E1.out), if_pos e2]
        have Hv2 := Lib.hid hv2
        have e2' : (wordCheck l x.win.data.toList != 0) = true := by simpa using e2
        clear hv2 e2
        go_wp2_with (go_at_call 37; refine (wordCheck_any _ _ (by unfold maxLen; omega) _).mono ?_; rintro e w' ⟨rfl, n, rfl⟩)
        go_ret
        exact ⟨ret_int Hv2.out.symm, by repeat (first | exact Hbw.out.alloc (by omega) _ | refine below_dr ?_)⟩
      have e2' : (wordCheck l x.win.data.toList != 0) = false := by simpa using e2
      have E2 := Lib.hid e2
      clear e2
      by_cases e3 : x.inp < 0 ∨ i ≤ x.inp
      · have hv2 : decCheck l b i p f es = 2 := by
          rw [hr.out, firstFrom_some hlt (r := 2)]
          unfold entBody; rw [Hx.out, if_neg (by simpa using E1.out), if_neg (by simpa using E2.out), if_pos e3]
        have Hv2 := Lib.hid hv2
        clear hv2
        go_wp2_with (go_at_call 37; refine (wordCheck_any _ _ (by unfold maxLen; omega) _).mono ?_; rintro e w' ⟨rfl, n, rfl⟩)
        all_goals
          go_ret
          exact ⟨ret_int Hv2.out.symm, by repeat (first | exact Hbw.out.alloc (by omega) _ | refine below_dr ?_)⟩
      have e3a : 0 ≤ x.inp := by omega
      have e3b : x.inp < i := by omega
      have E3 := Lib.hid e3
      clear e3
      by_cases hk0 : k = 0
      · have H0 := Lib.hid hk0
        have hk0' : decide ((0 : Int) < (k : Int)) = false := by simp; omega
        have hk0'' : decide (0 < k) = false := by simp; omega
        have hv2 : decCheck l b i p f es = firstFrom (entBody l b i p f es) 0 (es.length - (k + 1)) (k + 1) := by
          rw [hr.out, firstFrom_none hlt]
          unfold entBody; rw [Hx.out, if_neg (by simpa using E1.out), if_neg (by simpa using E2.out), if_neg E3.out, if_neg (by omega)]
        have Hv2 := Lib.hid hv2
        clear hv2 hk0
        go_wp2_with (go_at_call 37; refine (wordCheck_any _ _ (by unfold maxLen; omega) _).mono ?_; rintro e w' ⟨rfl, n, rfl⟩)
        go_quiet (fail)
        go_wp2
        go_roundw
        case rel => exact ⟨k + 1, by omega, by go_num, by repeat (first | exact Hb.out.alloc (by omega) _ | refine below_dr ?_), Hv2⟩
        case measure => simp [intOf]; omega
      have hk1 : (0 : Int) < (k : Int) := by omega
      have hk2 : 0 < k := by omega
      have hk3 : (k : Int) - 1 < (es.length : Int) := by omega
      have hk4 : ((k : Int) - 1).toNat = k - 1 := by omega
      obtain ⟨y, hy⟩ : ∃ y, es.getD (k - 1) default = y := ⟨_, rfl⟩
      obtain ⟨g0, g1⟩ := EntsAt.fact Hc.out Hbw.out heb (k := k - 1) (by omega) hy
      have Hy := Lib.hid hy
      clear hy
      by_cases e4 : leStr x.win y.win = true
      · have hv2 : decCheck l b i p f es = 10 := by
          rw [hr.out, firstFrom_some hlt (r := 10)]
          unfold entBody; rw [Hx.out, Hy.out, if_neg (by simpa using E1.out), if_neg (by simpa using E2.out), if_neg E3.out, if_pos ⟨hk2, e4⟩]
        have Hv2 := Lib.hid hv2
        clear hv2 hk0
        unfold leStr at e4
        go_wp2_with (go_at_call 37; refine (wordCheck_any _ _ (by unfold maxLen; omega) _).mono ?_; rintro e w' ⟨rfl, n, rfl⟩)
        go_quiet (fail)
        go_wp2
        go_ret
        exact ⟨ret_int Hv2.out.symm, by repeat (first | exact Hbw.out.alloc (by omega) _ | refine below_dr ?_)⟩
      · have hv2 : decCheck l b i p f es = firstFrom (entBody l b i p f es) 0 (es.length - (k + 1)) (k + 1) := by
          rw [hr.out, firstFrom_none hlt]
          unfold entBody; rw [Hx.out, Hy.out, if_neg (by simpa using E1.out), if_neg (by simpa using E2.out), if_neg E3.out, if_neg (fun h => e4 h.2)]
        have Hv2 := Lib.hid hv2
        have e4 : (Op.bytesLess x.win.toList y.win.toList || x.win.toList == y.win.toList) = false := by simpa [leStr] using e4
        clear hv2 hk0
        go_wp2_with (go_at_call 37; refine (wordCheck_any _ _ (by unfold maxLen; omega) _).mono ?_; rintro e w' ⟨rfl, n, rfl⟩)
        go_quiet (fail)
        go_wp2
        go_roundw
        case rel => exact ⟨k + 1, by omega, by go_num, by repeat (first | exact Hb.out.alloc (by omega) _ | refine below_dr ?_), Hv2⟩
        case measure => simp [intOf]; omega
    · go_wp2
      go_ret
      refine ⟨ret_int ?_, hbw⟩
      rw [hr.out, firstFrom_end (by omega)]
end Go.Proofs.Ytcafeffgaokiaaa
