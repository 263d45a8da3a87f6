/- What the replacements of an encoder's words add up to, and why there are none: plain facts. -/
import Derived.Test.YtcafeffgaokiaaaK16
import Derived.Test.YtcafeffgaokiaaaK11
namespace Go.Proofs.Ytcafeffgaokiaaa
open Go.RowKit
theorem snoc_ind {α : Type} {P : List α → Prop} (h0 : P []) (h1 : ∀ l x, P l → P (l ++ [x])) (l : List α) : P l := by
  have h : ∀ r : List α, P r.reverse := by
    intro r
    induction r with
    | nil => exact h0
    | cons x r ih => rw [List.reverse_cons]; exact h1 _ _ ih
  have h2 := h l.reverse
  rwa [List.reverse_reverse] at h2
/-- The worst replacement so far. -/
structure Ws where
  w : ByteArray
  a : Int
  c : Int
  n : Int
def Rp.ws (x : Rp) : Ws := ⟨x.w, (x.a : Int), (x.c : Int), (x.n : Int)⟩
def Ws.step (s : Ws) (x : Rp) : Ws := if s.n < (x.n : Int) then x.ws else s
def mostF (l : List Rp) : Nat := l.foldl (fun s x => max s x.n) 0
theorem mostF_snoc (l : List Rp) (x : Rp) : mostF (l ++ [x]) = max (mostF l) x.n := by simp [mostF, List.foldl_append]
theorem mostF_le {l : List Rp} : ∀ x ∈ l, x.n ≤ mostF l := by
  refine snoc_ind (P := fun l => ∀ x ∈ l, x.n ≤ mostF l) (by intro x h; cases h) ?_ l
  intro l y ih x hx
  rw [mostF_snoc]
  rcases List.mem_append.1 hx with h | h
  · have := ih x h; omega
  · rw [List.mem_singleton.1 h]; omega
theorem mostF_bound {l : List Rp} {B : Nat} (h : ∀ x ∈ l, x.n ≤ B) : mostF l ≤ B := by
  revert h
  refine snoc_ind (P := fun l => (∀ x ∈ l, x.n ≤ B) → mostF l ≤ B) (fun _ => Nat.zero_le _) ?_ l
  intro l y ih h
  rw [mostF_snoc]
  have h1 := ih (fun x hx => h x (List.mem_append_left _ hx))
  have h2 := h y (List.mem_append_right _ (List.mem_singleton_self _))
  omega
/-- How many words there are: with the bound that is met on the way. -/
def cntV (i : Int) : Nat → Int → Int
  | 0, v => v
  | n + 1, v => if 4096 < wrap64 (v * i) then 4097 else cntV i n (wrap64 (v * i))
/-- Why there are no written words of n blocks. -/
def fitErr (l b i : Int) (m : EM) (dl db di dp df : Int) (es : List Ent) (n : Int) : Int :=
  if encCheck l b i m ≠ 0 ∨ decCheck dl db di dp df es ≠ 0 then 1
  else if l ≠ dl ∨ b ≠ db ∨ i ≠ di then 11
  else if n < 1 ∨ 16 < n then 2
  else if 4096 < cntV i n.toNat (m.r : Int) then 4
  else 0
end Go.Proofs.Ytcafeffgaokiaaa
