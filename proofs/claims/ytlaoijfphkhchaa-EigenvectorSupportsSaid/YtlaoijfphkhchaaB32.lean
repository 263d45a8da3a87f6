/- What a round keeps: all cells. eigenvector.less: its iterator. -/
import Derived.Test.YtlaoijfphkhchaaB8
import Derived.Test.YtlaoijfphkhchaaB17
import Derived.Test.YtlaoijfphkhchaaB18
import Derived.Test.YtlaoijfphkhchaaB31
namespace Go.Proofs.Ytlaoijfphkhchaa
open Go.RowKit Go.Shelf
/-- What a round keeps: all cells. -/
def KpC (W W' : World) : Prop := W.heap.size ≤ W'.heap.size ∧ ∀ (b : Nat) (o : Obj), W.heap[b]? = some o → o.isCells = true → W'.heap[b]? = some o
theorem KpC.trans {A B C : World} (h : KpC A B) (k : KpC B C) : KpC A C := ⟨Nat.le_trans h.1 k.1, fun b o hb hc => k.2 b o (h.2 b o hb hc) hc⟩
theorem KpC.put {W : World} {l : Nat} {o : Obj} (o' : Obj) (hl : W.heap[l]? = some o) (hc : o.isCells = false) : KpC W (W.putObj l o') :=
  ⟨by simp, fun b p hb hp => by
    by_cases e : b = l
    · subst e; rw [hl] at hb; cases hb; rw [hc] at hp; cases hp
    · rw [World.putObj_heap_other e]; exact hb⟩
theorem KpC.of_below {W W' : World} (h : Below W.heap.size W W') : KpC W W' := ⟨h.size, fun b o hb _ => by rw [h.block b (Array.getElem?_eq_some_iff.1 hb).1]; exact hb⟩
theorem KpC.cell {W W' : World} (h : KpC W W') {a : Addr} {v : Value} (hc : W.cell? a = some v) (ho : ∀ o, W.heap[a.block]? = some o → o.isCells = true) : W'.cell? a = some v := by
  obtain ⟨o, hb, _⟩ : ∃ o, W.heap[a.block]? = some o ∧ True := by
    unfold World.cell? at hc
    cases e : W.heap[a.block]? with
    | none => simp [e] at hc
    | some o => exact ⟨o, rfl, trivial⟩
  have := h.2 _ _ hb (ho _ hb)
  rw [← hc]; unfold World.cell?; rw [this, hb]
theorem kpc_cells {W : World} {a : Addr} {v : Value} (hc : W.cell? a = some v) (o : Obj) (ho : W.heap[a.block]? = some o) : o.isCells = true := by
  unfold World.cell? at hc
  rw [ho] at hc
  cases o <;> simp_all [Obj.isCells]
theorem AbT.drew {β : Type} {T : Nat → World → Prop} {I : β → World → Prop} (h : AbT T I) {s : β} {W : World} (hs : I s W) : I s W.drew :=
  h s W _ none hs (below_grown0 ((Below.refl _ W).drew)) (fun r e => by cases e)
theorem SlAt.kept {sz : Nat} {W W' : World} {p : Option Addr} {n : Nat} {C : Nat → Nat → Value} (h : SlAt sz W p n C) (k : KpC W W') : SlAt sz W' p n C := by
  rcases h with h | ⟨b, off, rfl, hlt, hc⟩
  · exact .inl h
  · exact .inr ⟨b, off, rfl, Nat.lt_of_lt_of_le hlt k.1, fun i hi j hj => k.cell (hc i hi j hj) (kpc_cells (hc i hi j hj))⟩
theorem boxed_kept {W W' : World} {B : Nat} {t : TypeId} {v : Value} (h : Boxed W B t v) (k : KpC W W') : Boxed W' B t v := k.2 _ _ h rfl
theorem BoxAt3.kept {W W' : World} {g : Nat} {a b c : Value} (h : BoxAt3 W g a b c) (k : KpC W W') : BoxAt3 W' g a b c :=
  ⟨Nat.lt_of_lt_of_le h.1 k.1, k.cell h.2.1 (kpc_cells h.2.1), k.cell h.2.2.1 (kpc_cells h.2.2.1), k.cell h.2.2.2 (kpc_cells h.2.2.2)⟩
/-- What abides a turn of a block of no cells. -/
theorem cell_turnB {W W' : World} {row : Option Nat} {B : Nat} {a : Addr} {v : Value} (h : W.cell? a = some v) (hg : W.grownBy W' row) (hr : ∀ r, row = some r → TurnT B (fun _ _ => False) r W) : W'.cell? a = some v := by
  obtain ⟨o, ho, hoc⟩ : ∃ o, W.heap[a.block]? = some o ∧ o.isCells = true := by
    unfold World.cell? at h
    cases e : W.heap[a.block]? with
    | none => simp [e] at h
    | some o => exact ⟨o, rfl, kpc_cells (a := a) (v := v) (by unfold World.cell?; exact h) o e⟩
  have hne : some a.block ≠ row := fun e => by
    rcases hr _ e.symm with h1 | ⟨_, o2, ho2, hc2⟩
    · exact h1
    · rw [ho] at ho2; cases ho2; rw [hoc] at hc2; cases hc2
  have hb := hg.block a.block (Array.getElem?_eq_some_iff.1 ho).1 hne
  rw [← h]; unfold World.cell?; rw [hb]
theorem SlAt.turn {W W' : World} {row : Option Nat} {B sz n : Nat} {p : Option Addr} {C : Nat → Nat → Value} (h : SlAt sz W p n C) (hg : W.grownBy W' row) (hr : ∀ r, row = some r → TurnT B (fun _ _ => False) r W) : SlAt sz W' p n C := by
  rcases h with h | ⟨b, off, rfl, hlt, hc⟩
  · exact .inl h
  · exact .inr ⟨b, off, rfl, Nat.lt_of_lt_of_le hlt hg.size, fun i hi j hj => cell_turnB (hc i hi j hj) hg hr⟩
end Go.Proofs.Ytlaoijfphkhchaa
namespace Go.Proofs.Ytlaoijfphkhchaa
open Go.RowKit Go.Shelf
attribute [local go_sem] Oper.semAt_some
/-- The vector with one component less by 1. -/
def decE (v : Nat → Int) (s : Nat) : Nat → Int := fun k => if k = s then v k - 1 else v k
def encL (N : Nat) (x : Nat × Option Addr × Nat) : Array Value := #[.slice x.2.1 N x.2.2]
/-- What is yielded: the greatest vector below the vector with one positive component less. -/
def GLs (fr te : Nat → Nat) (n N m : Nat) (v : Nat → Int) (x : Nat × Option Addr × Nat) (W : World) : Prop := ∃ u, x.1 < N ∧ v x.1 ≠ 0 ∧ GrO fr te n N m (decE v x.1) u ∧ VRow W x.2.1 N u
/-- All positive components have had their turn. -/
def AllS (N : Nat) (v : Nat → Int) (xs : List (Nat × Option Addr × Nat)) : Prop := ∀ s, s < N → v s ≠ 0 → ∃ x ∈ xs, x.1 = s
/-- What the iterator reads. -/
structure LessP (LL : Int) (N n m : Nat) (E : Nat → Nat → Int) (p : Option Addr) (c : Nat) (v : Nat → Int) (pv : Option Addr) (cv Bv Bg Bm : Nat) (W : World) : Prop where
  bv : Boxed W Bv 38 (.slice pv N cv)
  bg : BoxAt3 W Bg (.int .i64 LL) (.int .i64 (N : Int)) (.slice p n c)
  bm : Boxed W Bm 3 (.int .i64 (m : Int))
  edges : EdgAt W p n E
  row : VRow W pv N v
theorem LessP.kept {LL : Int} {N n m : Nat} {E : Nat → Nat → Int} {p : Option Addr} {c : Nat} {v : Nat → Int} {pv : Option Addr} {cv Bv Bg Bm : Nat} {W W' : World} (h : LessP LL N n m E p c v pv cv Bv Bg Bm W) (k : KpC W W') : LessP LL N n m E p c v pv cv Bv Bg Bm W' :=
  ⟨boxed_kept h.bv k, h.bg.kept k, boxed_kept h.bm k, SlAt.kept h.edges k, SlAt.kept h.row k⟩
theorem LessP.below {LL : Int} {N n m : Nat} {E : Nat → Nat → Int} {p : Option Addr} {c : Nat} {v : Nat → Int} {pv : Option Addr} {cv Bv Bg Bm : Nat} {W W' : World} (h : LessP LL N n m E p c v pv cv Bv Bg Bm W) (k : Below W.heap.size W W') : LessP LL N n m E p c v pv cv Bv Bg Bm W' := h.kept (KpC.of_below k)
set_option maxRecDepth 100000 in
theorem less_any (LL S : Int) (n : Nat) (p : Option Addr) (c : Nat) (x : Value) (m : Int) (w : World) (hx : ∃ q k, x = .slice q S.toNat k) :
    Calls Try.prog 65 #[.agg #[.int .i64 LL, .int .i64 S, .slice p n c], x, .int .i64 m] w fun e w' =>
      e = .returned (.func (.func 92) #[] #[.pointer (some ⟨w.heap.size + 1, 0, none⟩), .pointer (some ⟨w.heap.size, 0, none⟩), .pointer (some ⟨w.heap.size + 1 + 1, 0, none⟩)]) ∧
        w' = ((w.alloc (.cells #[.int .i64 LL, .int .i64 S, .slice p n c] 24)).alloc (.cells #[x] 38)).alloc (.cells #[.int .i64 m] 3) := by
  obtain ⟨q, k, rfl⟩ := hx
  go_enter Try.func65, Try.ntmps65
  go_wp2
  go_ret
  exact ⟨rfl, rfl⟩
set_option maxRecDepth 100000 in
set_option maxHeartbeats 8000000 in
theorem less1_in (l : Nat) (LL : Int) (N n m : Nat) (E : Nat → Nat → Int) (p : Option Addr) (c : Nat) (v : Nat → Int) (pv : Option Addr) (cv Bv Bg Bm : Nat) (hN : N ≤ 1000000) (hn : n ≤ 1000000) (hm0 : 0 < m) (hm : m ≤ 256) (hok : EdOk N n E) (hv : ∀ s, s < N → 0 ≤ v s ∧ v s ≤ 1000000)
    (J Jx : List (Nat × Option Addr × Nat) → World → Prop) (hJ : AbT (fun _ _ => False) J)
    (hY : ∀ pre x W1, J pre W1 → GLs (frE E) (toE E) n N m v x W1 → YieldAt Fence.wide 2 Try.prog l (encL N x) W1 fun e W' => (e = .returned (.bool true) ∧ J (pre ++ [x]) W' ∧ KpC W1 W') ∨ (e = .returned (.bool false) ∧ Jx (pre ++ [x]) W'))
    (W : World) (hP : LessP LL N n m E p c v pv cv Bv Bg Bm W) (h0 : J [] W) :
    CallsIn Fence.wide 3 Try.prog 92 #[.func (.yield l) #[] #[], .pointer (some ⟨Bv, 0, none⟩), .pointer (some ⟨Bg, 0, none⟩), .pointer (some ⟨Bm, 0, none⟩)] W fun e W' => (∃ v, e = .returned v) ∧ ((∃ xs, AllS N v xs ∧ J xs W') ∨ ∃ pre, Jx pre W') := by
  refine callsIn_of_wp Try.func92 rfl trivial ?_ rfl
  simp only [Try.ntmps92, List.size_toArray, List.length_cons, List.length_nil, Nat.reduceAdd, Nat.reduceSub, Array.replicate_succ, Array.replicate_zero, List.push_toArray, List.append_toArray, List.nil_append, List.cons_append]
  have hvc := hP.bv.cell
  have HY := Lib.hid hY
  have HJA : Hid (∀ pre A B, J pre A → Below A.heap.size A B → J pre B) := Lib.hid (fun pre A B h hb => hJ _ _ _ none h (below_grown0 hb) (fun r e => by cases e))
  have HG := Lib.hid (fun W x q cq (hW : EdgAt W p n E) (hx : ∀ s, s < N → 0 ≤ x s ∧ x s ≤ 1000000) (hq : VRow W q N x) => greatest_any LL N n m E p c x q cq hN hn hm0 hm hok hx W hW hq)
  have Hv := Lib.hid hv
  clear hY hJ hok hv
  refine wpIn_wide.2 ?_
  go_wp2_with fail
  go_loopw [10] (fun iv wr => ∃ (i : Nat) (pre : List (Nat × Option Addr × Nat)), i ≤ N ∧ iv = .int .i64 (i : Nat) ∧ Hid (LessP LL N n m E p c v pv cv Bv Bg Bm wr) ∧ Hid (J pre wr) ∧ Hid (∀ s, s < i → v s ≠ 0 → ∃ x ∈ pre, x.1 = s)) (fun iv _ => N - (intOf iv).toNat)
  case atStart => exact ⟨0, [], by omega, by go_num, Lib.hid hP, Lib.hid h0, Lib.hid (fun s h => by omega)⟩
  case round =>
    clear hvc hP h0
    obtain ⟨i, pre, hi, rfl, HP, HJ, HC⟩ := hrel
    by_cases hil : i < N
    · have i3 : (i : Int) < (N : Int) := by omega
      have i4 : (0 : Int) ≤ (i : Int) := by omega
      obtain ⟨vb, vo, rfl, hvb, hvc⟩ := VRow.cells HP.out.row hil
      have y0 := hvc i hil
      have hv0 := Hv.out i hil
      obtain ⟨y, hy⟩ : ∃ y, v i = y := ⟨_, rfl⟩
      rw [hy] at y0 hv0
      by_cases hz : y = 0
      · have hzb : (y == 0) = true := by rw [hz]; rfl
        have HC2 : Hid (∀ s, s < i + 1 → v s ≠ 0 → ∃ x ∈ pre, x.1 = s) := Lib.hid (fun s hs h => by
          by_cases e : s = i
          · rw [e, hy] at h; exact absurd hz h
          · exact HC.out s (by omega) h)
        clear hvc hy hz HC
        go_wp2_with fail
        go_roundw
        case rel => exact ⟨i + 1, pre, by omega, by go_num, HP, HJ, HC2⟩
        case measure => simp [intOf]; omega
      · have hzb : (y == 0) = false := by rw [beq_eq_false_iff_ne]; exact hz
        have hbv := HP.out.bv.cell
        have HCl := Lib.hid (clone_any N (some ⟨vb, vo, none⟩) cv v hN wr HP.out.row)
        have Hyi := Lib.hid hy
        have y1 : 1 ≤ y := by omega
        have hyw : IntKind.i64.wrap (y - 1) = y - 1 := IntWalk.i64_in _ (by omega)
        clear hvc hy
        go_wp2_with fail
        refine HCl.out.mono ?_
        rintro e W2 ⟨q, cq, rfl, hq, hb2⟩
        dsimp only
        rcases hq with h | ⟨g, rfl, hg, hva⟩
        · omega
        obtain ⟨z0, z1⟩ := hva.2 i hil
        dsimp only at z0
        rw [Hyi.out] at z0
        have HVA := Lib.hid hva
        have Hb2 := Lib.hid hb2
        have Hgl := Lib.hid hg
        clear hva hb2 hbv hg y0 HCl
        go_upto_region 6 with (fail)
        have hva3 := (HVA.out.set (k := i) (y - 1)).congr (h := decE v i) fun k _ => by
          dsimp only [decE]
          by_cases e : k = i
          · rw [if_pos e, if_pos e, e, Hyi.out]
          · rw [if_neg e, if_neg e]
        have hb3 : Below wr.heap.size wr (W2.setCell ⟨g, i, none⟩ (.int .i64 (y - 1))) := Hb2.out.setCell (p := ⟨g, i, none⟩) Hgl.out _
        clear z0 z1
        generalize W2.setCell ⟨g, i, none⟩ (.int .i64 (y - 1)) = X at *
        have HP3 := Lib.hid (HP.out.below hb3)
        have HJ3 := Lib.hid (HJA.out pre _ _ HJ.out hb3)
        have hgr := HG.out X (decE v i) (some ⟨g, 0, none⟩) cq HP3.out.edges (fun s hs => by
          have := Hv.out s hs
          unfold decE
          split
          · rename_i e; rw [e, Hyi.out]; rw [e, Hyi.out] at this; omega
          · exact this) hva3.row
        have HGR := Lib.hid hgr
        obtain ⟨_, b0, b1, b2⟩ := HP3.out.bg
        have bm := HP3.out.bm.cell
        clear hgr hva3 hb3 HVA Hb2 Hgl HP HJ
        refine (wpIn_wide (n := 3)).1 ?_
        gi_wp2
        refine ⟨trivial, ?_⟩
        refine (callsIn_wide.2 HGR.out).mono ?_
        rintro e W4 ⟨u, hu, q4, cq4, rfl, hq4, hb4⟩
        have HJ4 := Lib.hid (HJA.out pre _ _ HJ3.out hb4)
        have HP4 := Lib.hid (HP3.out.below hb4)
        obtain ⟨fn, tmps, assign, body, hyl, hR⟩ := HY.out pre (i, q4, cq4) W4 HJ4.out ⟨u, hil, by dsimp only; rw [Hyi.out]; exact hz, hu, hq4.row⟩
        dsimp only [encL] at hyl
        have HR := Lib.hid hR
        clear hR hu hq4 hb4 HGR b0 b1 b2 bm HP3 HJ3
        gi_wp2
        refine HR.out.mono ?_
        rintro e W5 (⟨rfl, hJ5, hk5⟩ | ⟨rfl, hJx5⟩)
        · have HJ5 := Lib.hid hJ5
          have HP5 := Lib.hid (HP4.out.kept hk5)
          have HC2 : Hid (∀ s, s < i + 1 → v s ≠ 0 → ∃ x ∈ pre ++ [(i, q4, cq4)], x.1 = s) := Lib.hid (fun s hs h => by
            by_cases e : s = i
            · exact ⟨_, List.mem_append_right _ (List.mem_singleton.2 rfl), e.symm⟩
            · obtain ⟨x, hx, hxs⟩ := HC.out s (by omega) h
              exact ⟨x, List.mem_append_left _ hx, hxs⟩)
          clear hJ5 hk5 hyl HC
          gi_wp2
          go_wp2
          go_roundw
          case rel => exact ⟨i + 1, _, by omega, by go_num, HP5, HJ5, HC2⟩
          case measure => simp [intOf]; omega
        · have HJx := Lib.hid hJx5
          clear hJx5
          gi_wp2
          go_wp2
          refine bodyPost_ret (results_none rfl _ _ _) rfl ?_
          exact ⟨⟨_, rfl⟩, .inr ⟨_, HJx.out⟩⟩
    · have i3 : ¬ (i : Int) < (N : Int) := by omega
      have HC2 : Hid (AllS N v pre) := Lib.hid (fun s hs h => HC.out s (by omega) h)
      clear HC
      go_wp2
      go_end0
      exact ⟨⟨_, rfl⟩, .inl ⟨pre, HC2.out, HJ.out⟩⟩
end Go.Proofs.Ytlaoijfphkhchaa
