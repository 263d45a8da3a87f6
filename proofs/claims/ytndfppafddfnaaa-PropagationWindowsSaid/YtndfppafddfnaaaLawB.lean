/- What the walks of the statements on Changed share. -/
import Derived.Test.YtndfppafddfnaaaAwake
import Derived.Test.YtndfppafddfnaaaGreat
import Derived.Test.YtndfppafddfnaaaWdw
namespace Go.Proofs.Ytndfppafddfnaaa
open Go.RowKit

theorem SmallTo.fit {es : List Ent} (h : SmallTo es es.length) : WinsFit es := by
  intro x hx
  obtain ⟨k, hk, rfl⟩ := List.getElem_of_mem hx
  have := h k hk
  rw [List.getD_eq_getElem?_getD, List.getElem?_eq_getElem hk] at this
  exact Nat.le_trans this (by decide)

theorem chOut_small (l b i p f : Int) (es : List Ent) (s : ByteArray) (a c : Int) : (chOut l b i p f es s a c).length ≤ 1000 := by
  by_cases h : chErr l b i p f es s a c = 0
  · have := chOut_len h
    obtain ⟨h1, _, _⟩ := chErr_zero.1 h
    obtain ⟨_, hb, _⟩ := decCheck_ok (decErr_zero.1 h1).1
    omega
  · rw [chOut_nil h]; simp
end Go.Proofs.Ytndfppafddfnaaa
