/- grooveref25.Encode at a valid encoder. -/
import Derived.Test.YtcafeffgaokiaaaZ3
import Derived.Test.YtcafeffgaokiaaaZ10
import Derived.Test.YtcafeffgaokiaaaZ5
namespace Go.Proofs.Ytcafeffgaokiaaa
open Go.RowKit
def intsN (l : List Nat) : List Int := l.map (fun (x : Nat) => (x : Int))
theorem intsN_len (l : List Nat) : (intsN l).length = l.length := by simp [intsN]
theorem intsN_get {l : List Nat} {k : Nat} (hk : k < l.length) : (intsN l).getD k 0 = ((l.getD k 0 : Nat) : Int) := by
  simp [intsN, List.getD_eq_getElem?_getD, hk]
theorem encW_append (m : EM) : ∀ (l1 l2 : List Nat) (s : Nat) (w : ByteArray), encW m s (l1 ++ l2) w = encW m (encW m s l1 w).2 l2 (encW m s l1 w).1
  | [], _, _, _ => rfl
  | x :: l1, l2, s, w => by rw [List.cons_append, encW, encW]; exact encW_append m l1 l2 _ _
theorem encW_snoc (m : EM) (l : List Nat) (s : Nat) (w : ByteArray) {k : Nat} (hk : k < l.length) :
    encW m s (l.take (k + 1)) w = ((encW m s (l.take k) w).1 ++ m.D (encW m s (l.take k) w).2 (l.getD k 0), (m.T (encW m s (l.take k) w).2 (l.getD k 0)).toNat) := by
  have h : l.take (k + 1) = l.take k ++ [l.getD k 0] := by
    rw [List.take_add_one, List.getD_eq_getElem?_getD, List.getElem?_eq_getElem hk]; rfl
  rw [h, encW_append]
  rfl
theorem encW_lt {m : EM} {I B : Nat} (hm : m.Ok I B) : ∀ (l : List Nat) (s : Nat) (w : ByteArray), s < m.r → (∀ x ∈ l, x < I) → (encW m s l w).2 < m.r ∧ (encW m s l w).1.size = w.size + l.length * B
  | [], s, w, hs, _ => ⟨hs, by show w.size = _; rw [List.length_nil]; omega⟩
  | x :: l, s, w, hs, hl => by
    have hx := hl x (List.mem_cons_self ..)
    have h := encW_lt hm l (m.T s x).toNat (w ++ m.D s x) (hm.to1 s x hs hx) (fun y hy => hl y (List.mem_cons_of_mem _ hy))
    have hd := hm.wd s x hs hx
    refine ⟨h.1, ?_⟩
    show (encW m (m.T s x).toNat l (w ++ m.D s x)).1.size = _
    rw [h.2, ByteArray.size_append, hd, List.length_cons, Nat.add_mul]
    omega
end Go.Proofs.Ytcafeffgaokiaaa
