/- The walk of grooveref26.Great: where it says no, the decoder is small. -/
import Derived.Test.YtndfppafddfnaaaWin
namespace Go.Proofs.Ytndfppafddfnaaa
open Go.RowKit

/-- What the walk of a loop over the entries knows of those before k. -/
def SmallTo (es : List Ent) (k : Nat) : Prop := ∀ j, j < k → (es.getD j default).win.size ≤ 40

def GreatPost (es : List Ent) (w : World) (e : Ending) (w' : World) : Prop :=
  ∃ g : Bool, e = .returned (.bool g) ∧ (g = false → SmallTo es es.length ∧ es.length ≤ 65539) ∧ Below w.heap.size w w'

set_option maxRecDepth 100000 in
set_option maxHeartbeats 4000000 in
theorem great_any (l b i p f : Int) (es : List Ent) (a : Option Addr) (c : Nat) (w : World) (hE : EntsAt w a es) (hwins : WinsFit es) (hn : es.length ≤ 100000000000000) :
    Calls Try.prog 11 #[.agg #[.int .i64 l, .int .i64 b, .int .i64 i, .int .i64 p, .int .i64 f, .slice a es.length c]] w (GreatPost es w) := by
  have HE := Lib.hid hE
  have HW := Lib.hid hwins
  clear hE hwins
  go_enter Try.func11, Try.ntmps11
  go_wp2
  go_loopw [3, 4] (fun t s wr => ∃ k T : Nat, k ≤ es.length ∧ s = .int .i64 k ∧ t = .int .i64 T ∧ T ≤ 40 * k ∧ Below (w.heap.size + 1) (w.alloc (.cells #[.int .i64 l, .int .i64 b, .int .i64 i, .int .i64 p, .int .i64 f, .slice a es.length c] 24)) wr ∧ Hid (SmallTo es k)) (fun _ s _ => es.length - (intOf s).toNat)
  case atStart => exact ⟨0, 0, by omega, rfl, rfl, by omega, Below.refl _ _, Lib.hid (fun j hj => by omega)⟩
  case round =>
    obtain ⟨k, T, hk, rfl, rfl, hT, hb, hr⟩ := hrel
    obtain ⟨⟨c0, c1, c2, c3, c4, c5⟩, hsz, hbw⟩ := box6 hb
    by_cases hlt : k < es.length
    · obtain ⟨eb, eo, rfl, heb, hcell⟩ := EntsAt.cells HE.out hlt
      obtain ⟨x, hx⟩ : ∃ x, es.getD k default = x := ⟨_, rfl⟩
      obtain ⟨d0, d1⟩ := EntsAt.fact hcell hbw heb hlt hx
      have hkw : x.win.size ≤ 9223372036854775807 := HW.out _ (by rw [← hx]; exact getD_mem _ _ _ hlt)
      have Hx := Lib.hid hx
      have Hb := Lib.hid hb
      have Hbw := Lib.hid hbw
      clear hx hb hcell hbw
      by_cases h40 : x.win.size ≤ 40
      · have hs : SmallTo es (k + 1) := fun j hj => by
          rcases Nat.lt_or_ge j k with h | h
          · exact hr.out j h
          · have : j = k := by omega
            subst this; rw [Hx.out]; exact h40
        have Hs := Lib.hid hs
        clear hs
        go_wp2
        go_roundw
        case rel => exact ⟨k + 1, T + x.win.size, by omega, by go_num, by go_num, by omega, Hb.out, Hs⟩
        case measure => simp [intOf]; omega
      · go_wp2
        go_ret
        exact ⟨true, rfl, (fun h => by cases h), Hbw.out⟩
    · have hk' : k = es.length := by omega
      have Hk := Lib.hid hk'
      have Hbw := Lib.hid hbw
      clear hk' hb hbw
      by_cases hbig : 65539 < es.length
      · go_wp2
        all_goals
          go_ret
          refine ⟨_, rfl, fun h => ?_, Hbw.out⟩
          simp at h <;> omega
      · go_wp2
        all_goals
          go_ret
          exact ⟨_, rfl, fun h => ⟨by rw [← Hk.out]; exact hr.out, by omega⟩, Hbw.out⟩
end Go.Proofs.Ytndfppafddfnaaa
