/- propagation.written: the walk of its iterator. -/
import Derived.Test.YtcafeffgaokiaaaZ10
import Derived.Test.YtcafeffgaokiaaaZ11
namespace Go.Proofs.Ytcafeffgaokiaaa
open Go.RowKit
theorem wideF (f : FuncId) : Fence.wide.fn f = True := rfl
attribute [local go_sem] Oper.semAt_some wideF
/-- What a round keeps: all cells but those of the blocks from lo to hi. -/
def KpH (lo hi : Nat) (W W' : World) : Prop := W.heap.size ≤ W'.heap.size ∧ ∀ (b : Nat) (o : Obj), (b < lo ∨ hi ≤ b) → W.heap[b]? = some o → o.isCells = true → W'.heap[b]? = some o
theorem KpH.refl (lo hi : Nat) (W : World) : KpH lo hi W W := ⟨Nat.le_refl _, fun _ _ _ h _ => h⟩
theorem KpH.trans {lo hi : Nat} {A B C : World} (h : KpH lo hi A B) (k : KpH lo hi B C) : KpH lo hi A C := ⟨Nat.le_trans h.1 k.1, fun b o hb hc hd => k.2 b o hb (h.2 b o hb hc hd) hd⟩
theorem KpH.put {lo hi : Nat} {W : World} {l : Nat} {o : Obj} (o' : Obj) (hl : W.heap[l]? = some o) (hc : o.isCells = false) : KpH lo hi W (W.putObj l o') :=
  ⟨by simp, fun b p _ hb hp => by
    by_cases e : b = l
    · subst e; rw [hl] at hb; cases hb; rw [hc] at hp; cases hp
    · rw [World.putObj_heap_other e]; exact hb⟩
theorem KpH.of_below {lo hi : Nat} {W W' : World} (h : Below W.heap.size W W') : KpH lo hi W W' := ⟨h.size, fun b o _ hb _ => by rw [h.block b (Array.getElem?_eq_some_iff.1 hb).1]; exact hb⟩
theorem kpc_cells {W : World} {a : Addr} {v : Value} (hc : W.cell? a = some v) (o : Obj) (ho : W.heap[a.block]? = some o) : o.isCells = true := by
  unfold World.cell? at hc
  rw [ho] at hc
  cases o <;> simp_all [Obj.isCells]
theorem cell_kept {W W' : World} {a : Addr} {v : Value} (hc : W.cell? a = some v) (h : ∀ o, W.heap[a.block]? = some o → o.isCells = true → W'.heap[a.block]? = some o) : W'.cell? a = some v := by
  obtain ⟨o, hb, _⟩ : ∃ o, W.heap[a.block]? = some o ∧ True := by
    unfold World.cell? at hc
    cases e : W.heap[a.block]? with
    | none => simp [e] at hc
    | some o => exact ⟨o, rfl, trivial⟩
  have := h _ hb (kpc_cells hc _ hb)
  rw [← hc]; unfold World.cell?; rw [this, hb]
theorem KpH.cell {lo hi : Nat} {W W' : World} (h : KpH lo hi W W') {a : Addr} {v : Value} (hc : W.cell? a = some v) (ha : a.block < lo ∨ hi ≤ a.block) : W'.cell? a = some v := cell_kept hc fun o ho hd => h.2 _ o ha ho hd
/-- The cells that lay there at the beginning. -/
def Low (w0 W : World) : Prop := w0.heap.size ≤ W.heap.size ∧ ∀ (b : Nat) (o : Obj), w0.heap[b]? = some o → o.isCells = true → W.heap[b]? = some o
theorem Low.kept {lo hi : Nat} {w0 W W' : World} (h : Low w0 W) (hlo : w0.heap.size ≤ lo) (k : KpH lo hi W W') : Low w0 W' :=
  ⟨Nat.le_trans h.1 k.1, fun b o hb hc => k.2 b o (.inl (Nat.lt_of_lt_of_le (Array.getElem?_eq_some_iff.1 hb).1 hlo)) (h.2 b o hb hc) hc⟩
theorem Low.of_below {w0 W : World} (h : Below w0.heap.size w0 W) : Low w0 W := ⟨h.size, fun b o hb _ => by rw [h.block b (Array.getElem?_eq_some_iff.1 hb).1]; exact hb⟩
theorem SlAt.low {sz : Nat} {w0 W : World} {p : Option Addr} {n : Nat} {C : Nat → Nat → Value} (h : SlAt sz w0 p n C) (k : Low w0 W) : SlAt sz W p n C := by
  rcases h with h | ⟨b, off, rfl, hlt, hc⟩
  · exact .inl h
  · exact .inr ⟨b, off, rfl, Nat.lt_of_lt_of_le hlt k.1, fun i hi j hj => cell_kept (hc i hi j hj) fun o ho hd => k.2 _ o ho hd⟩
theorem EM.At.low {m : EM} {w0 W : World} {p : Option Addr} (h : m.At w0 p) (k : Low w0 W) : m.At W p := by
  obtain ⟨H, h1, h2⟩ := h
  exact ⟨H, h1.low k, fun i hi => (h2 i hi).low k⟩
theorem AbT.drew {β : Type} {T : Nat → World → Prop} {I : β → World → Prop} (h : AbT T I) {s : β} {W : World} (hs : I s W) : I s W.drew :=
  h s W _ none hs (below_grown0 ((Below.refl _ W).drew)) (fun r e => by cases e)
/-- An encoder's box. -/
def EBox (W : World) (be : Nat) (L b i : Int) (m : EM) (p : Option Addr) (c : Nat) : Prop :=
  W.cell? ⟨be, 0, none⟩ = some (.int .i64 L) ∧ W.cell? ⟨be, 1, none⟩ = some (.int .i64 b) ∧ W.cell? ⟨be, 2, none⟩ = some (.int .i64 i) ∧ W.cell? ⟨be, 3, none⟩ = some (.slice p m.r c)
theorem EBox.kept {lo hi : Nat} {W W' : World} {be : Nat} {L b i : Int} {m : EM} {p : Option Addr} {c : Nat} (h : EBox W be L b i m p c) (k : KpH lo hi W W') (hb : be < lo ∨ hi ≤ be) : EBox W' be L b i m p c :=
  ⟨k.cell h.1 hb, k.cell h.2.1 hb, k.cell h.2.2.1 hb, k.cell h.2.2.2 hb⟩
/-- What the function from finds. -/
def FrB (w0 W : World) (l gy be gf : Nat) (L b i : Int) (m : EM) (p : Option Addr) (c : Nat) : Prop :=
  W.cell? ⟨gy, 0, none⟩ = some (.func (.yield l) #[] #[]) ∧ W.cell? ⟨gf, 0, none⟩ = some (.func (.func 93) #[] #[.pointer (some ⟨gy, 0, none⟩), .pointer (some ⟨be, 0, none⟩), .pointer (some ⟨gf, 0, none⟩)]) ∧ EBox W be L b i m p c ∧ Low w0 W
theorem FrB.kept {lo hi : Nat} {w0 W W' : World} {l gy be gf : Nat} {L b i : Int} {m : EM} {p : Option Addr} {c : Nat} (h : FrB w0 W l gy be gf L b i m p c) (k : KpH lo hi W W') (h0 : w0.heap.size ≤ lo) (h1 : hi ≤ gy) (h2 : hi ≤ gf) (h3 : be < lo ∨ hi ≤ be) : FrB w0 W' l gy be gf L b i m p c :=
  ⟨k.cell h.1 (.inr h1), k.cell h.2.1 (.inr h2), h.2.2.1.kept k h3, h.2.2.2.kept h0 k⟩
end Go.Proofs.Ytcafeffgaokiaaa
