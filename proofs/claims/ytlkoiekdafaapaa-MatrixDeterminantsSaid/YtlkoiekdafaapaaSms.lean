/- Two answers that read alike; the bounds of the reference's products. -/
import Derived.Test.YtlkoiekdafaapaaGrA
import Derived.Test.YtlkoiekdafaapaaSme
import Derived.Test.YtlkoiekdafaapaaSqA
namespace Go.Proofs.Ytlkoiekdafaapaa
open Go.RowKit Go.Shelf

/-- A value that reads as a matrix. -/
def AnsM (w : World) (v : Value) (n m : Nat) (F : Nat → Nat → Int) : Prop := ∃ p k, v = .slice p n k ∧ MatF w p n m F
theorem AnsM.below {w w' : World} {v : Value} {n m : Nat} {F : Nat → Nat → Int} (h : AnsM w v n m F) (hb : Below w.heap.size w w') : AnsM w' v n m F := by
  obtain ⟨p, k, h1, h2⟩ := h
  exact ⟨p, k, h1, h2.below (Nat.le_refl _) hb⟩
def RetA (E : Int) (n m : Nat) (F : Nat → Nat → Int) (w : World) (e : Ending) (w' : World) : Prop := ∃ v, e = .returned (.tuple #[v, .int .i64 E]) ∧ AnsM w' v n m F ∧ Below w.heap.size w w'
/-- The size of an answer: none where there is an error. -/
def rowsE (E : Int) (n : Nat) : Nat := if E = 0 then n else 0
theorem rowsE_le {E : Int} {n : Nat} (h : E = 0 → n ≤ 1000000) : rowsE E n ≤ 1000000000 := by
  unfold rowsE
  split
  · rename_i h1
    have := h h1
    omega
  · omega
theorem RetMatE.ans {E : Int} {r c : Nat} {F : Nat → Nat → Int} {w w' : World} {e : Ending} (h : RetMatE E r c F w e w') : RetA E (rowsE E r) (rowsE E c) F w e w' := by
  obtain ⟨hb, h⟩ := h
  rcases h with ⟨rfl, q, k, rfl, hM⟩ | ⟨h0, rfl⟩
  · exact ⟨_, rfl, ⟨q, k, rfl, hM⟩, hb⟩
  · refine ⟨_, rfl, ⟨none, 0, ?_, ?_⟩, hb⟩
    · rw [show rowsE E r = 0 from if_neg h0]
    · rw [show rowsE E r = 0 from if_neg h0, show rowsE E c = 0 from if_neg h0]
      exact ⟨fun _ => (none, 0), .inl rfl, fun i hi => by omega⟩
theorem ans_same {w : World} {u v : Value} {n m : Nat} {F : Nat → Nat → Int} (h1 : AnsM w u n m F) (h2 : AnsM w v n m F) (hn : n ≤ 1000000000) (hm : m ≤ 1000000000) :
    Calls Try.prog 17 #[u, v] w (RetB true w) := by
  obtain ⟨p, k, rfl, hM⟩ := h1
  obtain ⟨q, l, rfl, hN⟩ := h2
  exact same_true n m p q k l F hn hm w hM hN
def AnsR (w : World) (v : Value) (n : Nat) (f : Nat → Int) : Prop := ∃ p k, v = .slice p n k ∧ RowF w p n f
theorem AnsR.below {w w' : World} {v : Value} {n : Nat} {f : Nat → Int} (h : AnsR w v n f) (hb : Below w.heap.size w w') : AnsR w' v n f := by
  obtain ⟨p, k, h1, h2⟩ := h
  exact ⟨p, k, h1, h2.below (Nat.le_refl _) hb⟩
def RetR (E : Int) (n : Nat) (f : Nat → Int) (w : World) (e : Ending) (w' : World) : Prop := ∃ v, e = .returned (.tuple #[v, .int .i64 E]) ∧ AnsR w' v n f ∧ Below w.heap.size w w'
theorem RetRowE.ans {E : Int} {n : Nat} {f : Nat → Int} {w w' : World} {e : Ending} (h : RetRowE E n f w e w') : RetR E (rowsE E n) f w e w' := by
  obtain ⟨hb, h⟩ := h
  rcases h with ⟨rfl, q, k, rfl, hM⟩ | ⟨h0, rfl⟩
  · exact ⟨_, rfl, ⟨q, k, rfl, hM⟩, hb⟩
  · refine ⟨_, rfl, ⟨none, 0, ?_, ?_⟩, hb⟩
    · rw [show rowsE E n = 0 from if_neg h0]
    · rw [show rowsE E n = 0 from if_neg h0]
      exact .inl rfl
theorem ans_sameRow {w : World} {u v : Value} {n : Nat} {f : Nat → Int} (h1 : AnsR w u n f) (h2 : AnsR w v n f) (hn : n ≤ 1000000000) :
    Calls Try.prog 24 #[u, v] w (RetB true w) := by
  obtain ⟨p, k, rfl, hM⟩ := h1
  obtain ⟨q, l, rfl, hN⟩ := h2
  exact sameRow_true n p q k l f hn w hM hN
theorem BnM.smallQ {r n c : Nat} {F G : Nat → Nat → Int} {e f m : Nat} (h : BnM r n F e) (g : BnM n c G f) (hn : n ≤ 2 ^ m) (he : e + f + m < 8 * 10000000) : SmallQ r n c F G := fun i k hi hk =>
  ⟨fun j hj => Nat.lt_of_le_of_lt ((Bn.dot j (Nat.le_trans hj hn) fun l hl => (h i l hi (by omega)).mul (g l k (by omega) hk)).size 10000000 he) (by decide), fun j hj => by
    have h1 := (h i j hi hj).size 10000000 (by omega)
    have h2 := (g j k hj hk).size 10000000 (by omega)
    have h3 := ((h i j hi hj).mul (g j k hj hk)).size 10000000 (by omega)
    exact ⟨by omega, by omega⟩⟩
/-- What a matrix of the statements' sizes says that Check takes. -/
theorem gt_says {m : GM} (h : m.gt = false) (hc : m.chk = 0) : 0 < m.r ∧ m.r ≤ 4 ∧ 0 < m.L 0 ∧ m.L 0 ≤ 32 ∧ BnM m.r (m.L 0) m.F 24 := by
  obtain ⟨_, h2, h3⟩ := GM.gt_fit h
  obtain ⟨c1, c2, c3, c4, c5, _⟩ := GM.chk_zero hc
  exact ⟨c1, by omega, c2, c4, fun i k hi hk => absZ_bn (h2 i hi k (by rw [c5 i hi]; exact hk))⟩
end Go.Proofs.Ytlkoiekdafaapaa
