/- Lists of rows of the call's own that are written afterwards; grooveref04.zeros. capacity.adjacency: the matrix of a graph. The walk of integer.Check. The walks of matrix.Check and of what it asks, at any lists of lists. -/
import Derived.Test.YtlaoijfphkhchaaGreatB17
import Derived.Test.YtlaoijfphkhchaaGreatB5
import Derived.Test.YtlaoijfphkhchaaGreatB2
import Derived.Laws.StructEq
import Derived.Test.YtlaoijfphkhchaaGreatB14
namespace Go.Proofs.YtlaoijfphkhchaaGreat
open Go.RowKit

/-- A list of rows under way: its rows lie in blocks of their own. -/
def SumG (w : World) (B M : Nat) (v : Value) (i n : Nat) (S : Nat → Nat → Int) : Prop :=
  ∃ Q : Nat → Nat, OwnH w B v ((List.range i).map fun j => .slice (some ⟨Q j, 0, none⟩) n n) ∧ (∀ j, j < i → RowT w (Q j) n (S j) ∧ B ≤ Q j ∧ Q j < M) ∧ ∀ j k, j < k → k < i → Q j ≠ Q k
theorem SumG.made (w : World) {B : Nat} (M n : Nat) (S : Nat → Nat → Int) (h : B ≤ w.heap.size) : SumG (w.alloc (.cells #[] 26)) B M (.slice (some ⟨w.heap.size, 0, none⟩) 0 0) 0 n S := ⟨fun _ => 0, OwnH.made w h, fun j hj => by omega, fun j k _ hk => by omega⟩
theorem SumG.below {w w' : World} {B M : Nat} {v : Value} {i n : Nat} {S : Nat → Nat → Int} (h : SumG w B M v i n S) (hb : Below w.heap.size w w') : SumG w' B M v i n S := by
  obtain ⟨Q, h1, h2, h3⟩ := h
  exact ⟨Q, h1.below (Nat.le_refl _) hb, fun j hj => ⟨(h2 j hj).1.kept (hb.block _ (h2 j hj).1.z.1), (h2 j hj).2⟩, h3⟩
/-- append(out, make(..)) of one row. -/
theorem wpList_append_grid {ops : Array Oper} {rest : List Oper} {o : Oper} {a : Act} {Q : Exit → Act → World → Prop} {w : World} (hgd : o.guard = none) (s x : Operand)
    (ho : o.op = .call { callee := .builtin .append, args := #[s, x], argTypes := #[64, 64] })
    (B M : Nat) (v : Value) (i n : Nat) (S : Nat → Nat → Int) (hv : a.eval s = v) (hsum : SumG w B M v i n S) (g c q : Nat) (hx : a.eval x = .slice (some ⟨g, 0, none⟩) 1 c)
    (hc : w.cell? ⟨g, 0, none⟩ = some (.slice (some ⟨q, 0, none⟩) n n)) (hr : RowT w q n (S i)) (hq : B ≤ q) (hM : M ≤ q) (hn : i < 1000000000000) (hbase : B ≤ w.heap.size)
    (h : ∀ v' w', SumG w' B w'.heap.size v' (i + 1) n S → Below B w w' → wpList Tryz.prog ops Q rest (a.put o.dst v') w') : wpList Tryz.prog ops Q (o :: rest) a w := by
  obtain ⟨QQ, h1, h2, h3⟩ := hsum
  refine wpList_append_hdr hgd s x ho B v _ hv h1 g c (some ⟨q, 0, none⟩) n n hx hc (by simpa using hn) hbase fun v' w' k1 k2 => ?_
  refine h v' w' ?_ (below_append (Below.refl _ _) h1 k2 hbase (Nat.le_refl _))
  have hkeep : ∀ {q : Nat} {f : Nat → Int}, RowT w q n f → RowT w' q n f := fun hr => hr.kept (k2.block _ hr.z.1 (own_ne_row h1 hr))
  refine ⟨fun j => if j = i then q else QQ j, ?_, fun j hj => ?_, fun j k hjk hk => ?_⟩
  · have e : ((List.range (i + 1)).map fun j => Value.slice (some ⟨if j = i then q else QQ j, 0, none⟩) n n) = ((List.range i).map fun j => .slice (some ⟨QQ j, 0, none⟩) n n) ++ [.slice (some ⟨q, 0, none⟩) n n] := by
      rw [List.range_succ, List.map_append]
      congr 1
      · refine List.map_congr_left fun j hj => ?_
        have := List.mem_range.1 hj
        rw [if_neg (by omega)]
      · simp
    rw [e]
    exact k1
  · dsimp only
    by_cases e : j = i
    · subst e
      rw [if_pos rfl]
      exact ⟨hkeep hr, hq, (hkeep hr).z.1⟩
    · rw [if_neg e]
      have hj2 := h2 j (by omega)
      exact ⟨hkeep hj2.1, hj2.2.1, (hkeep hj2.1).z.1⟩
  · dsimp only
    rw [if_neg (by omega)]
    by_cases e : k = i
    · rw [if_pos e]
      have := (h2 j (by omega)).2.2
      omega
    · rw [if_neg e]
      exact h3 j k hjk (by omega)
/-- A list of rows in blocks of their own. -/
structure Grid (w : World) (B g r c : Nat) (A : Nat → Nat) (F : Nat → Nat → Int) : Prop where
  low : B ≤ g
  lt : g < w.heap.size
  hdr : ∀ i, i < r → w.cell? ⟨g, i, none⟩ = some (.slice (some ⟨A i, 0, none⟩) c c)
  row : ∀ i, i < r → RowT w (A i) c (F i) ∧ B ≤ A i
  ne : ∀ i, i < r → A i ≠ g
  inj : ∀ i j, i < j → j < r → A i ≠ A j
theorem Grid.call {w w' : World} {B g r c : Nat} {A : Nat → Nat} {F : Nat → Nat → Int} (h : Grid w B g r c A F) (hb : Below w.heap.size w w') : Grid w' B g r c A F :=
  ⟨h.low, Nat.lt_of_lt_of_le h.lt hb.size, fun i hi => cell_below hb (h.hdr i hi), fun i hi => ⟨(h.row i hi).1.kept (hb.block _ (h.row i hi).1.z.1), (h.row i hi).2⟩, h.ne, h.inj⟩
theorem Grid.congr {w : World} {B g r c : Nat} {A : Nat → Nat} {F G : Nat → Nat → Int} (h : Grid w B g r c A F) (e : ∀ i k, i < r → k < c → F i k = G i k) : Grid w B g r c A G :=
  ⟨h.low, h.lt, h.hdr, fun i hi => ⟨(h.row i hi).1.congr fun k hk => e i k hi hk, (h.row i hi).2⟩, h.ne, h.inj⟩
theorem Grid.set {w : World} {B g r c : Nat} {A : Nat → Nat} {F : Nat → Nat → Int} (h : Grid w B g r c A F) {i : Nat} (hi : i < r) (k : Nat) (v : Int) :
    Grid ((w.setCell ⟨A i, k * 2, none⟩ (.bool (canon v).neg)).setCell ⟨A i, k * 2 + 1, none⟩ (.string (canon v).mag)) B g r c A (fun a b => if a = i ∧ b = k then v else F a b) := by
  refine ⟨h.low, by simpa using h.lt, fun j hj => ?_, fun j hj => ⟨?_, (h.row j hj).2⟩, h.ne, h.inj⟩
  · have := h.ne i hi
    rw [World.cell?_setCell_other _ _ _ _ (by intro hh; simp only [Addr.mk.injEq] at hh; omega), World.cell?_setCell_other _ _ _ _ (by intro hh; simp only [Addr.mk.injEq] at hh; omega)]
    exact h.hdr j hj
  · by_cases e : j = i
    · subst e
      exact ((h.row j hj).1.set k v).congr fun b _ => by
        by_cases eb : b = k
        · rw [if_pos eb, if_pos ⟨rfl, eb⟩]
        · rw [if_neg eb, if_neg (fun hh => eb hh.2)]
    · have hne : A j ≠ A i := by
        rcases Nat.lt_or_gt_of_ne e with hlt | hgt
        · exact h.inj j i hlt hi
        · exact fun hh => h.inj i j hgt hj hh.symm
      have hk2 : ((w.setCell ⟨A i, k * 2, none⟩ (.bool (canon v).neg)).setCell ⟨A i, k * 2 + 1, none⟩ (.string (canon v).mag)).heap[A j]? = w.heap[A j]? := by
        rw [heap_setCell_other _ _ _ _ hne, heap_setCell_other _ _ _ _ hne]
      exact ((h.row j hj).1.kept hk2).congr fun b _ => by rw [if_neg (fun hh => e hh.1)]
theorem Grid.mat {w : World} {B g r c : Nat} {A : Nat → Nat} {F : Nat → Nat → Int} (h : Grid w B g r c A F) : MatF w (some ⟨g, 0, none⟩) r c F :=
  ⟨fun i => (some ⟨A i, 0, none⟩, c), .inr ⟨g, 0, rfl, h.lt, fun i hi j hj => by
    have : j = 0 := by omega
    subst this
    simpa using h.hdr i hi⟩, fun i hi => (h.row i hi).1.z.row⟩
theorem SumG.grid {w : World} {B M : Nat} {v : Value} {r n : Nat} {S : Nat → Nat → Int} (h : SumG w B M v r n S) (h0 : 0 < r) : ∃ g cap A, v = .slice (some ⟨g, 0, none⟩) r cap ∧ Grid w B g r n A S := by
  obtain ⟨Q, h1, h2, h3⟩ := h
  have hl : ((List.range r).map fun j => Value.slice (some ⟨Q j, 0, none⟩) n n).length = r := by simp
  have hrow := h1
  have h4 : w.ownsRow B 26 1 v ((List.range r).map fun j => Value.slice (some ⟨Q j, 0, none⟩) n n).length ((List.range r).map fun j => Value.slice (some ⟨Q j, 0, none⟩) n n) := h1
  rw [hl] at h4
  rcases h4.2 with ⟨_, h5⟩ | ⟨g, cap, cur, rfl, hg, hh, hnc, _, hsz, htk⟩
  · omega
  · refine ⟨g, cap, Q, rfl, hg, (Array.getElem?_eq_some_iff.1 hh).1, fun i hi => ?_, fun i hi => ⟨(h2 i hi).1, (h2 i hi).2.1⟩, fun i hi hh2 => ?_, h3⟩
    · have := h4.cells (g := g) rfl i (.slice (some ⟨Q i, 0, none⟩) n n) (by simp [List.getElem?_range hi])
      rwa [Addr.add_lit, Nat.zero_add] at this
    · have := own_ne_row hrow (h2 i hi).1
      rw [hh2] at this
      exact this rfl
def RetGrid (r c : Nat) (F : Nat → Nat → Int) (w : World) (e : Ending) (w' : World) : Prop := ∃ g cap A, e = .returned (.slice (some ⟨g, 0, none⟩) r cap) ∧ Grid w' w.heap.size g r c A F ∧ Below w.heap.size w w'
end Go.Proofs.YtlaoijfphkhchaaGreat
namespace Go.Proofs.YtlaoijfphkhchaaGreat
open Go.RowKit Go.Shelf
/-- How many of the first edges lead from s to t. -/
def cntE (E : Nat → Nat → Int) : Nat → Nat → Nat → Nat
  | 0, _, _ => 0
  | i + 1, s, t => cntE E i s t + if E i 0 = (s : Int) ∧ E i 2 = (t : Int) then 1 else 0
theorem cntE_le (E : Nat → Nat → Int) (i s t : Nat) : cntE E i s t ≤ i := by
  induction i with
  | zero => exact Nat.le_refl _
  | succ i ih => unfold cntE; split <;> omega
def adjE (E : Nat → Nat → Int) (n s t : Nat) : Int := (cntE E n s t : Nat)
/-- The edges lead to states of the graph. -/
def EdOk (N n : Nat) (E : Nat → Nat → Int) : Prop := ∀ i, i < n → ∃ s t : Nat, E i 0 = s ∧ E i 2 = t ∧ s < N ∧ t < N
/-- Block g is a table of 32 rows of 32 integers, and may be written. -/
def CntAt (w : World) (g : Nat) (f : Nat → Nat → Nat) : Prop := g < w.heap.size ∧ ∀ s t, s < 32 → t < 32 → w.cell? ⟨g, s * 32 + t, none⟩ = some (.int .i64 (f s t : Nat)) ∧ w.frozen? ⟨g, s * 32 + t, none⟩ = false
theorem CntAt.below {w w' : World} {g B : Nat} {f : Nat → Nat → Nat} (h : CntAt w g f) (hb : Below B w w') (hg : g < B) : CntAt w' g f :=
  ⟨Nat.lt_of_lt_of_le h.1 hb.size, fun s t hs ht => ⟨(hb.cell (p := ⟨g, _, none⟩) hg).trans (h.2 s t hs ht).1, (hb.frozen (p := ⟨g, _, none⟩) hg).trans (h.2 s t hs ht).2⟩⟩
theorem CntAt.congr {w : World} {g : Nat} {f h : Nat → Nat → Nat} (hz : CntAt w g f) (e : ∀ s t, s < 32 → t < 32 → f s t = h s t) : CntAt w g h := ⟨hz.1, fun s t hs ht => by rw [← e s t hs ht]; exact hz.2 s t hs ht⟩
theorem CntAt.set {w : World} {g s t : Nat} {f : Nat → Nat → Nat} (h : CntAt w g f) (_hs : s < 32) (ht : t < 32) (v : Nat) : CntAt (w.setCell ⟨g, s * 32 + t, none⟩ (.int .i64 v)) g (fun a b => if a = s ∧ b = t then v else f a b) := by
  refine ⟨by simpa using h.1, fun a b ha hb => ⟨?_, by rw [World.frozen?_setCell]; exact (h.2 a b ha hb).2⟩⟩
  dsimp only
  by_cases e : a = s ∧ b = t
  · obtain ⟨rfl, rfl⟩ := e
    rw [if_pos ⟨rfl, rfl⟩]
    exact World.cell?_setCell_same w _ _ (h.2 a b ha hb).1
  · rw [if_neg e, World.cell?_setCell_other _ _ _ _ (by intro hh; simp only [Addr.mk.injEq] at hh; omega)]
    exact (h.2 a b ha hb).1
theorem cntE_step {E : Nat → Nat → Int} {k s t : Nat} (h0 : E k 0 = s) (h2 : E k 2 = t) (a b : Nat) : (if a = s ∧ b = t then cntE E k s t + 1 else cntE E k a b) = cntE E (k + 1) a b := by
  show _ = cntE E k a b + _
  rw [h0, h2]
  by_cases e : a = s ∧ b = t
  · obtain ⟨rfl, rfl⟩ := e
    rw [if_pos ⟨rfl, rfl⟩, if_pos ⟨rfl, rfl⟩]
  · rw [if_neg e, if_neg (by omega), Nat.add_zero]
end Go.Proofs.YtlaoijfphkhchaaGreat
namespace Go.Proofs.YtlaoijfphkhchaaGreat
open Go.RowKit

/-- What integer.Check returns. -/
def chkZ (z : ZI) : Int := if z = canon (valZ z) then 0 else 1
set_option maxRecDepth 100000 in
set_option maxHeartbeats 8000000 in
theorem check_any (z : ZI) (hz : z.mag.size ≤ 100000000) (w : World) :
    Calls Tryz.prog 35 #[.agg #[.bool z.neg, .string z.mag]] w fun e w' => e = .returned (.int .i64 (chkZ z)) ∧ Below w.heap.size w w' := by
  obtain ⟨m, hm⟩ : ∃ m, canon (valZ z) = m := ⟨_, rfl⟩
  have Hsm : Hid (mkZ z.neg (absZ z) = m) := Lib.hid (by rw [sameZ_val, hm])
  have hres : chkZ z = if ((m.neg == z.neg) && (m.mag.toList == z.mag.toList)) = true then 0 else 1 := by
    unfold chkZ
    rw [hm]
    have : (z = m) ↔ ((m.neg == z.neg) && (m.mag.toList == z.mag.toList)) = true := by
      rcases z with ⟨a, ⟨⟨s⟩⟩⟩
      rcases m with ⟨b, ⟨⟨t⟩⟩⟩
      rw [ByteArray.toList_eq, ByteArray.toList_eq]
      simp only [Bool.and_eq_true, beq_iff_eq, ZI.mk.injEq, ByteArray.mk.injEq, Array.mk.injEq]
      exact ⟨fun h => ⟨h.1.symm, h.2.symm⟩, fun h => ⟨h.1.symm, h.2.symm⟩⟩
    by_cases h : z = m
    · rw [if_pos h, if_pos (this.1 h)]
    · rw [if_neg h, if_neg (fun k => h (this.2 k))]
  clear hm
  cases hb1 : (m.neg == z.neg) <;> cases hb2 : (m.mag.toList == z.mag.toList)
  all_goals
   rw [hb1, hb2] at hres
   simp only [Bool.and_true, Bool.and_false, Bool.and_self, if_true, Bool.false_eq_true, if_false] at hres
   have Hres := Lib.hid hres
   clear hres
   go_enter Tryz.func35, Tryz.ntmps35
   go_wp2_with fail
   obtain ⟨W, hW⟩ : ∃ W, (w.alloc (.cells #[.bool z.neg, .string z.mag] 40)) = W := ⟨_, rfl⟩
   have hA : BoxAt W w.heap.size (.bool z.neg) (.string z.mag) := by rw [← hW]; exact BoxAt.new w (.bool z.neg) (.string z.mag) 40
   have hb0 : Below w.heap.size w W := by rw [← hW]; exact (Below.refl _ _).alloc (Nat.le_refl _) _
   have hs0 : W.heap.size = w.heap.size + 1 := by rw [← hW]; simp
   rw [hW]
   have HA := Lib.hid hA
   have Hb0 := Lib.hid hb0
   have Hs0 := Lib.hid hs0
   obtain ⟨a0, a1, _, _, _⟩ := hA
   clear hb0 hs0 hW
   go_region_held3 (fun w' => w'.cell? ⟨w.heap.size, 0, none⟩ = some (.bool z.neg) ∧ w'.cell? ⟨w.heap.size, 1, none⟩ = some (.string z.mag)) (go_keep)
     (first
       | (go_at_call 54; go_fit (digits_any z hz _); rintro e w2 ⟨p, c, rfl, hN, hc1, hc2, hb⟩; have HN := Lib.hid hN; have Hb2 := Lib.hid (show Below W.heap.size W w2 from Below.trans (by repeat (first | exact Below.refl _ _ | refine Below.drew ?_ | refine below_dr ?_)) (hb.mono (Nat.le_refl _))); have HA2 := Lib.hid (HA.out.below Hb2.out (by have := Hs0.out; omega)); obtain ⟨b0, b1, _, _, _⟩ := HA2.out; clear hb hN)
       | (go_at_call 47; go_fit (number_digs _ _ p c _ (HN.out.below (Nat.le_refl _) (by repeat (first | exact Below.refl _ _ | refine Below.drew ?_ | refine below_dr ?_))) hc1 hc2); rintro e w3 ⟨rfl, hb⟩; rw [Hsm.out]; have Hb3 := Lib.hid (show Below W.heap.size W w3 from Below.trans Hb2.out (Below.trans (by repeat (first | exact Below.refl _ _ | refine Below.drew ?_ | refine below_dr ?_)) (hb.mono (by simpa using Hb2.out.size)))); have HA3 := Lib.hid (HA.out.below Hb3.out (by have := Hs0.out; omega)); obtain ⟨b0, b1, _, _, _⟩ := HA3.out; clear hb))
   go_wp2
   go_ret
   exact ⟨by rw [Hres.out]; rfl, Hb0.out.trans (by repeat (first | exact Hb3.out.mono (by have := Hs0.out; omega) | refine Below.drew ?_ | refine below_dr ?_))⟩
end Go.Proofs.YtlaoijfphkhchaaGreat
namespace Go.Proofs.YtlaoijfphkhchaaGreat
open Go.RowKit Go.Shelf

/-- A list of lists of numbers, whatever they are. -/
structure GM where
  r : Nat
  L : Nat → Nat
  Z : Nat → Nat → ZI
def GRow (w : World) (p : Option Addr) (c : Nat) (Z : Nat → ZI) : Prop := SlAt 2 w p c (fun k j => zg (Z k) j)
def GM.At (m : GM) (w : World) (p : Option Addr) : Prop := ∃ H : Nat → Option Addr × Nat, SlAt 1 w p m.r (fun i _ => .slice (H i).1 (m.L i) (H i).2) ∧ ∀ i, i < m.r → GRow w (H i).1 (m.L i) (m.Z i)
theorem GM.At.below {m : GM} {w w' : World} {p : Option Addr} (h : m.At w p) {B : Nat} (hB : w.heap.size ≤ B) (hb : Below B w w') : m.At w' p := by
  obtain ⟨H, h1, h2⟩ := h
  exact ⟨H, h1.mono hB hb, fun i hi => (h2 i hi).mono hB hb⟩
/-- The sizes that the walks need. -/
def GM.Fit (m : GM) : Prop := m.r ≤ 1000000 ∧ ∀ i, i < m.r → m.L i ≤ 1000000 ∧ ∀ k, k < m.L i → (m.Z i k).mag.size ≤ 100000000
def okZ (z : ZI) : Bool := decide (z = canon (valZ z))
def GM.chk (m : GM) : Int :=
  if m.r = 0 ∨ m.L 0 = 0 then 5 else if 32 < m.r ∨ 32 < m.L 0 then 4 else if anyN (fun i => m.L i != m.L 0) m.r then 11 else if anyN (fun i => anyN (fun k => !okZ (m.Z i k)) (m.L i)) m.r then 1 else 0
def RetInt (v : Int) (w : World) (e : Ending) (w' : World) : Prop := e = .returned (.int .i64 v) ∧ Below w.heap.size w w'

set_option maxRecDepth 100000 in
set_option maxHeartbeats 4000000 in
theorem odd1_any (z : ZI) (hz : z.mag.size ≤ 100000000) (w : World) :
    Calls Tryz.prog 114 #[.agg #[.bool z.neg, .string z.mag]] w (RetB (!okZ z) w) := by
  go_enter Tryz.func114, Tryz.ntmps114
  go_wp2_with fail
  refine (check_any z hz _).mono ?_
  rintro e w2 ⟨rfl, hb⟩
  dsimp only
  have Hb : Hid (Below w.heap.size w w2) := Lib.hid (((Below.refl w.heap.size w).alloc (Nat.le_refl _) _).trans (hb.mono (by simp)))
  clear hb
  by_cases h : z = canon (valZ z)
  · have hc : chkZ z = 0 := if_pos h
    have ho : okZ z = true := decide_eq_true h
    have Ho := Lib.hid ho
    rw [hc]
    clear h hc ho
    go_wp2
    go_ret
    exact ⟨by rw [Ho.out]; rfl, Hb.out⟩
  · have hc : chkZ z = 1 := if_neg h
    have ho : okZ z = false := decide_eq_false h
    have Ho := Lib.hid ho
    rw [hc]
    clear h hc ho
    go_wp2
    go_ret
    exact ⟨by rw [Ho.out]; rfl, Hb.out⟩

set_option maxRecDepth 100000 in
set_option maxHeartbeats 4000000 in
theorem odd_any (n : Nat) (p : Option Addr) (c : Nat) (Z : Nat → ZI) (hn : n ≤ 1000000000000) (w : World) (hp : GRow w p n Z) (hz : ∀ k, k < n → (Z k).mag.size ≤ 100000000) :
    Calls Tryz.prog 108 #[.slice p n c] w (RetB (anyN (fun k => !okZ (Z k)) n) w) := by
  have HC := Lib.hid (containsFn_z n p c Z 114 #[] (fun k => !okZ (Z k)) w (enters_of Tryz.func114 (by kernel_rfl) rfl) hn hp (fun k W hk _ => odd1_any (Z k) (hz k hk) W))
  go_enter Tryz.func108, Tryz.ntmps108
  go_wp2_with fail
  refine HC.out.mono ?_
  rintro e w2 ⟨rfl, hb⟩
  dsimp only
  have Hb := Lib.hid hb
  clear hb
  go_wp2
  go_ret
  exact ⟨rfl, Hb.out⟩

set_option maxRecDepth 100000 in
set_option maxHeartbeats 4000000 in
theorem check1_any (m : GM) (p : Option Addr) (cp g l : Nat) (q : Option Addr) (cq : Nat) (h0 : 0 < m.r) (w : World) (hg : w.cell? ⟨g, 0, none⟩ = some (.slice p m.r cp)) (hm : m.At w p) :
    Calls Tryz.prog 107 #[.slice q l cq, .pointer (some ⟨g, 0, none⟩)] w (RetB (l != m.L 0) w) := by
  obtain ⟨H, h1, h2⟩ := hm
  rcases h1 with h | ⟨b, off, rfl, hlt, hc⟩
  · omega
  have a2 : w.cell? ⟨b, off, none⟩ = some (.slice (H 0).1 (m.L 0) (H 0).2) := by simpa using hc 0 h0 0 (by omega)
  have r0 : (0 : Int) < (m.r : Int) := by omega
  generalize m.r = r at *
  generalize m.L 0 = c at *
  generalize (H 0).1 = q1 at *
  generalize (H 0).2 = c1 at *
  clear hc h2
  by_cases h : l = c
  · have e1 : ((l : Int) != (c : Int)) = false := by rw [h, bne_self_eq_false]
    have e2 : (l != c) = false := by rw [h, bne_self_eq_false]
    rw [e2]
    clear h e2
    go_enter Tryz.func107, Tryz.ntmps107
    go_wp2
    go_ret
    exact ⟨rfl, by first | exact Below.refl _ _ | exact (Below.refl _ _).drew⟩
  · have e1 : ((l : Int) != (c : Int)) = true := by rw [bne_iff_ne]; omega
    have e2 : (l != c) = true := by rw [bne_iff_ne]; exact h
    rw [e2]
    clear h e2
    go_enter Tryz.func107, Tryz.ntmps107
    go_wp2
    go_ret
    exact ⟨rfl, by first | exact Below.refl _ _ | exact (Below.refl _ _).drew⟩
end Go.Proofs.YtlaoijfphkhchaaGreat
