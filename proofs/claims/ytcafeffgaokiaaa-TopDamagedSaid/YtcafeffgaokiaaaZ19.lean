/- propagation.replacements: what it yields. -/
import Derived.Test.YtcafeffgaokiaaaZ15
import Derived.LoopIn
import Derived.OrdersHeld
import Derived.Deep.RegionHeld
namespace Go.Proofs.Ytcafeffgaokiaaa
open Go.RowKit
attribute [local go_sem] Oper.semAt_some wideF
/-- What a round of replacements finds. -/
structure RFr (w0 W : World) (l gy be bd : Nat) (L b i : Int) (m : EM) (p : Option Addr) (c : Nat) (dl db di dp df : Int) (da : Option Addr) (dn dc : Nat) : Prop where
  y : W.cell? ⟨gy, 0, none⟩ = some (.func (.yield l) #[] #[])
  e : EBox W be L b i m p c
  d : DBox W bd dl db di dp df da dn dc
  low : Low w0 W
theorem RFr.kept {lo hi : Nat} {w0 W W' : World} {l gy be bd : Nat} {L b i : Int} {m : EM} {p : Option Addr} {c : Nat} {dl db di dp df : Int} {da : Option Addr} {dn dc : Nat}
    (h : RFr w0 W l gy be bd L b i m p c dl db di dp df da dn dc) (k : KpH lo hi W W') (hlo : w0.heap.size ≤ lo) (h1 : hi ≤ gy) (h2 : be < lo ∨ hi ≤ be) (h3 : bd < lo ∨ hi ≤ bd) :
    RFr w0 W' l gy be bd L b i m p c dl db di dp df da dn dc :=
  ⟨k.cell h.y (.inr h1), h.e.kept k h2, h.d.kept k h3, h.low.kept hlo k⟩
end Go.Proofs.Ytcafeffgaokiaaa
