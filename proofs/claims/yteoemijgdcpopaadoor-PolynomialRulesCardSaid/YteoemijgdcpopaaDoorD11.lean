/- A range over an iterator (Range), where the assignment of the round's variables makes memory (a variable that a round boxes). The walks of polynomial.descending and of its iterator. The walks of matrix.column and of its iterator. A region that draws its order, inside a round: by the plain walk's laws. -/
import Derived.Test.YteoemijgdcpopaaDoorD10
import Derived.Test.YteoemijgdcpopaaDoorD9
import Derived.Shelf.RegionOpen
import Derived.WalkKit
import Derived.WalkSpells
import Derived.WalkLawsBesides
import Derived.TacticsInMore
import Derived.LoopNIn
import Derived.LoopIn
import Derived.Deep.CutBlock
import Derived.Deep.DeepFit
import Derived.KernelRfl
import Derived.Lib.Hide
import Derived.Outline
import Derived.Test.YteoemijgdcpopaaDoorD8
import Derived.OrdersIn
import Derived.OrdersHeld
import Derived.TacticsIn
namespace Go.Proofs.YteoemijgdcpopaaDoor
open Go.RowKit

theorem rangeT2 {α : Type} {P : Program} {n : Nat} {g : Operand} {ps : Array Tmp} {assign body : Code} {Q : Exit → Act → World → Prop} {a : Act} {w : World}
    (h1 : 1 ≤ n) {gf : Nat} {lb : Array Value} (hg : a.eval g = .func (.func gf) #[] lb) (eg : ∀ args w, (callFunc gf args).run P w = .ok (.enter gf args) w)
    {encs : α → Array Value} {G : List α → α → World → Prop} {S : List α → Prop} {T : Nat → World → Prop} {Kp : World → World → Prop} {Pre : World → Prop} (hseq : SeqT P (n - 1) gf lb encs G S T Kp Pre)
    (hT : ∀ r W, T r W → r < w.heap.size)
    (hKt : ∀ {A B C : World}, Kp A B → Kp B C → Kp A C) (hKb : ∀ (W : World) (l : Nat) (o o' : Obj), w.heap.size ≤ l → W.heap[l]? = some o → o.isCells = false → Kp W (W.putObj l o'))
    (hPre : ∀ W, Below w.heap.size w W → Pre W) (hps : ∀ x, (encs x).size = ps.size)
    (I : List α → World → Prop) (Ix : Code → List α → World → Prop) (hI : AbT (TurnT w.heap.size T) I) (hIx : ∀ c, AbT (TurnT w.heap.size T) (Ix c)) (h0 : I [] w) (M : List α × α × Act → World → Prop) (hM : AbT (TurnT w.heap.size T) M)
    (hassign : ∀ (l : Nat) (pre : List α) (x : α) (W : World) (K : Act → World → Prop), I pre W → G pre x W → (∀ a₁ W1, M (pre, x, a₁) W1 → KeepsFrom w.heap.size W W1 → Kp W W1 → K a₁ W1) →
      assign.wpIn (Fence.wide.inRound l) (n - 1 - 1) P (Exit.then K (fun _ _ _ => False)) { tmps := (ps.zip (encs x)).foldl (fun t (p, v) => t.setIfInBounds p v) a.tmps, defers := [] } W)
    (hbody : ∀ (l : Nat) (pre : List α) (x : α) (a₁ : Act) (W : World), M (pre, x, a₁) W → body.wpIn (Fence.wide.inRound l) (n - 1 - 1) P (postT w.heap.size Kp I Ix (pre ++ [x]) W) a₁ W)
    (hdone : ∀ (D : Nat) (xs : List α) (W : World), w.heap.size ≤ D → S xs → I xs W → W.heap[D]? = some (.deferred (some [])) → Q .normal { a with defers := { target := .collected D, args := #[] } :: a.defers } W)
    (hstop : ∀ (D : Nat) (c : Code) (pre : List α) (W : World), w.heap.size ≤ D → Ix c pre W → W.heap[D]? = some (.deferred (some [])) → c.wpIn Fence.wide n P Q { a with defers := { target := .collected D, args := #[] } :: a.defers } W) :
    (Code.rangeFunc g ps assign body).wpIn Fence.wide n P Q a w := by
  refine wpIn_rangeFunc ?_
  intro fn hfn
  rw [show Fence.wide.round = none from rfl]
  obtain ⟨rec, hrec⟩ : ∃ rec : LoopState → Option Code → Loop, rec = fun st pe => { state := st, pending := pe, fn, tmps := a.tmps, params := ps, assign, body, defers := w.heap.size } := ⟨_, rfl⟩
  obtain ⟨W1, hW1⟩ : ∃ W1, (w.alloc (.deferred (some []))).alloc (.loop (rec .ready none)) = W1 := ⟨_, rfl⟩
  have hL1 : W1.heap[w.heap.size + 1]? = some (.loop (rec .ready none)) := by
    rw [← hW1]; have := World.alloc_heap_new (w.alloc (.deferred (some []))) (.loop (rec .ready none)); rwa [World.size_alloc] at this
  have hK1 : W1.heap[w.heap.size]? = some (.deferred (some [])) := by
    rw [← hW1]; exact (Below.heap_alloc _ _ _ (by simp)).trans (World.alloc_heap_new w _)
  have hI1 : I [] W1 := by rw [← hW1]; exact hI.alloc _ (hI.alloc _ h0)
  have hb1 : Below w.heap.size w W1 := by
    rw [← hW1]; exact ((Below.refl _ w).alloc (Nat.le_refl _) _).alloc (by simp) _
  refine ⟨w.heap.size + 1, [{ target := .collected w.heap.size, args := #[] }], W1, { target := .fn (.func gf) lb, args := #[.func (.yield (w.heap.size + 1)) #[] #[]] }, W1, gf,
    #[.func (.yield (w.heap.size + 1)) #[] #[]] ++ lb, W1, ?_, ?_, fun _ _ => trivial, ?_, fun _ => h1, ?_⟩
  · rw [← hW1, hrec]; exact run_enterLoop_outer _ _ _ _ _
  · simp only [resolve, hg]
    simp [go_sem]
  · simp [invoke, go_sem, eg]
  · have hkp : ∀ {A B : World} {row : Option Nat} {k : Nat} {o : Obj}, A.grownBy B row → (∀ r, row = some r → T r A) → w.heap.size ≤ k → A.heap[k]? = some o → B.heap[k]? = some o := fun hg' hr hk ho =>
      (hg'.block _ (Array.getElem?_eq_some_iff.1 ho).1 (fun e => by have := hT _ _ (hr _ e.symm); omega)).trans ho
    refine (hseq (w.heap.size + 1)
      (fun k W => I k W ∧ W.heap[w.heap.size + 1]? = some (.loop (rec .ready none)) ∧ W.heap[w.heap.size]? = some (.deferred (some [])))
      (fun k W => ∃ c, Ix c k W ∧ W.heap[w.heap.size + 1]? = some (.loop (rec .done (some c))) ∧ W.heap[w.heap.size]? = some (.deferred (some [])))
      W1 (hPre _ hb1)
      (fun s A B row hs hg' hr => ⟨hI s A B row hs.1 hg' (fun r e => .inl (hr r e)), hkp hg' hr (by omega) hs.2.1, hkp hg' hr (Nat.le_refl _) hs.2.2⟩)
      (fun s A B row hs hg' hr => by
        obtain ⟨c, hc, hl, hk⟩ := hs
        exact ⟨c, hIx c s A B row hc hg' (fun r e => .inl (hr r e)), hkp hg' hr (by omega) hl, hkp hg' hr (Nat.le_refl _) hk⟩)
      ?_ ⟨hI1, hL1, hK1⟩).mono ?_
    · rintro k x W ⟨hi, hl, hk⟩ hgx
      have hlt : w.heap.size + 1 < W.heap.size := (Array.getElem?_eq_some_iff.1 hl).1
      have hy := run_yield (P := P) (args := encs x) hl (by rw [hrec]; exact hps x)
      rw [hrec] at hy
      refine ⟨fn, _, assign, body, hy, roundIn_of_wpIn hfn (hassign _ k x W _ hi hgx fun a₁ Wa hMa hka hkpa => ?_)⟩
      have hl := hka.same _ _ (by omega) hl rfl
      have hk := hka.same _ _ (Nat.le_refl _) hk rfl
      have hlt : w.heap.size + 1 < Wa.heap.size := (Array.getElem?_eq_some_iff.1 hl).1
      refine ⟨_, run_beginRound hl (by rw [hrec]), ?_⟩
      have hl2 : (Wa.putObj (w.heap.size + 1) (.loop { rec .ready none with state := .busy })).heap[w.heap.size + 1]? = some (.loop { rec .ready none with state := .busy }) := World.putObj_heap_same hlt
      have hk2 : (Wa.putObj (w.heap.size + 1) (.loop { rec .ready none with state := .busy })).heap[w.heap.size]? = some (.deferred (some [])) := (World.putObj_heap_other (by omega)).trans hk
      have hw2 : Kp W (Wa.putObj (w.heap.size + 1) (.loop { rec .ready none with state := .busy })) := hKt hkpa (hKb _ _ _ _ (by omega) hl rfl)
      refine wpIn_mono (hbody _ k x a₁ _ (hM.putObj _ hMa (by omega) hl rfl)) ?_
      have fin : ∀ (jump : Option Code) (W3 : World), KeepsFrom w.heap.size (Wa.putObj (w.heap.size + 1) (.loop { rec .ready none with state := .busy })) W3 →
          (Instr.endRound (w.heap.size + 1) jump).run P W3 = .ok (.bool jump.isNone) (W3.putObj (w.heap.size + 1) (.loop (rec (if jump.isNone then .ready else .done) jump))) ∧
          W3.heap[w.heap.size + 1]? = some (.loop { rec .ready none with state := .busy }) ∧
          (W3.putObj (w.heap.size + 1) (.loop (rec (if jump.isNone then .ready else .done) jump))).heap[w.heap.size + 1]? = some (.loop (rec (if jump.isNone then .ready else .done) jump)) ∧
          (W3.putObj (w.heap.size + 1) (.loop (rec (if jump.isNone then .ready else .done) jump))).heap[w.heap.size]? = some (.deferred (some [])) := fun jump W3 hk3 => by
        have hl3 := hk3.same _ _ (by omega) hl2 rfl
        have := run_endRound (P := P) jump hl3
        rw [hrec] at this ⊢
        exact ⟨this, by rw [hrec] at hl3; exact hl3, World.putObj_heap_same (Array.getElem?_eq_some_iff.1 hl3).1, (World.putObj_heap_other (by omega)).trans (hk3.same _ _ (Nat.le_refl _) hk2 rfl)⟩
      rintro e a3 W3 hp
      cases e with
      | normal =>
        obtain ⟨hk3, hkp3, hi3⟩ := hp
        obtain ⟨hr, hl3, hl4, hk4⟩ := fin none W3 hk3
        exact ⟨_, _, hr, .inl ⟨rfl, ⟨hI.putObj _ hi3 (by omega) hl3 rfl, hl4, hk4⟩, hKt (hKt hw2 hkp3) (hKb _ _ _ _ (by omega) hl3 rfl)⟩⟩
      | ret =>
        obtain ⟨hk3, hi3⟩ := hp
        obtain ⟨hr, hl3, hl4, hk4⟩ := fin (some .ret) W3 hk3
        exact ⟨_, _, hr, .inr ⟨rfl, .ret, (hIx _).putObj _ hi3 (by omega) hl3 rfl, hl4, hk4⟩⟩
      | exit id =>
        obtain ⟨hk3, hi3⟩ := hp
        obtain ⟨hr, hl3, hl4, hk4⟩ := fin (some (.exit id)) W3 hk3
        exact ⟨_, _, hr, .inr ⟨rfl, .exit id, (hIx _).putObj _ hi3 (by omega) hl3 rfl, hl4, hk4⟩⟩
      | goto t =>
        obtain ⟨hk3, hi3⟩ := hp
        obtain ⟨hr, hl3, hl4, hk4⟩ := fin (some (.goto t)) W3 hk3
        exact ⟨_, _, hr, .inr ⟨rfl, .goto t, (hIx _).putObj _ hi3 (by omega) hl3 rfl, hl4, hk4⟩⟩
      | panic ch => exact hp.elim
      | outgrown => exact hp.elim
    · rintro e W2 ⟨⟨v, rfl⟩, (⟨xs, hS, hi, hl, hk⟩ | ⟨k, c, hi, hl, hk⟩)⟩
      · exact ⟨none, _, by have := run_endLoop (P := P) hl (by rw [hrec]; simp); rw [hrec] at this; exact this, hdone _ _ _ (Nat.le_refl _) hS (hI.putObj _ hi (by omega) hl rfl) ((World.putObj_heap_other (by omega)).trans hk)⟩
      · exact ⟨some c, _, by have := run_endLoop (P := P) hl (by rw [hrec]; simp); rw [hrec] at this; exact this, hstop _ c k _ (Nat.le_refl _) ((hIx c).putObj _ hi (by omega) hl rfl) ((World.putObj_heap_other (by omega)).trans hk)⟩
/-- .. in the plain walk. -/
theorem rangeW2 {α : Type} {P : Program} {g : Operand} {ps : Array Tmp} {assign body : Code} {Q : Exit → Act → World → Prop} {a : Act} {w : World}
    {gf : Nat} {lb : Array Value} (hg : a.eval g = .func (.func gf) #[] lb) (eg : ∀ args w, (callFunc gf args).run P w = .ok (.enter gf args) w)
    {encs : α → Array Value} {G : List α → α → World → Prop} {S : List α → Prop} {T : Nat → World → Prop} {Kp : World → World → Prop} {Pre : World → Prop} (hseq : SeqT P 3 gf lb encs G S T Kp Pre)
    (hT : ∀ r W, T r W → r < w.heap.size)
    (hKt : ∀ {A B C : World}, Kp A B → Kp B C → Kp A C) (hKb : ∀ (W : World) (l : Nat) (o o' : Obj), w.heap.size ≤ l → W.heap[l]? = some o → o.isCells = false → Kp W (W.putObj l o'))
    (hPre : ∀ W, Below w.heap.size w W → Pre W) (hps : ∀ x, (encs x).size = ps.size)
    (I : List α → World → Prop) (Ix : Code → List α → World → Prop) (hI : AbT (TurnT w.heap.size T) I) (hIx : ∀ c, AbT (TurnT w.heap.size T) (Ix c)) (h0 : I [] w) (M : List α × α × Act → World → Prop) (hM : AbT (TurnT w.heap.size T) M)
    (hassign : ∀ (l : Nat) (pre : List α) (x : α) (W : World) (K : Act → World → Prop), I pre W → G pre x W → (∀ a₁ W1, M (pre, x, a₁) W1 → KeepsFrom w.heap.size W W1 → Kp W W1 → K a₁ W1) →
      assign.wpIn (Fence.wide.inRound l) 2 P (Exit.then K (fun _ _ _ => False)) { tmps := (ps.zip (encs x)).foldl (fun t (p, v) => t.setIfInBounds p v) a.tmps, defers := [] } W)
    (hbody : ∀ (l : Nat) (pre : List α) (x : α) (a₁ : Act) (W : World), M (pre, x, a₁) W → body.wpIn (Fence.wide.inRound l) 2 P (postT w.heap.size Kp I Ix (pre ++ [x]) W) a₁ W)
    (hdone : ∀ (D : Nat) (xs : List α) (W : World), w.heap.size ≤ D → S xs → I xs W → W.heap[D]? = some (.deferred (some [])) → Q .normal { a with defers := { target := .collected D, args := #[] } :: a.defers } W)
    (hstop : ∀ (D : Nat) (c : Code) (pre : List α) (W : World), w.heap.size ≤ D → Ix c pre W → W.heap[D]? = some (.deferred (some [])) → c.wp P Q { a with defers := { target := .collected D, args := #[] } :: a.defers } W) :
    (Code.rangeFunc g ps assign body).wp P Q a w :=
  wpIn_wide.1 (rangeT2 (n := 4) (by decide) hg eg hseq hT hKt hKb hPre hps I Ix hI hIx h0 M hM hassign hbody hdone (fun D c pre W h1 h2 h3 => wpIn_wide.2 (hstop D c pre W h1 h2 h3)))
end Go.Proofs.YteoemijgdcpopaaDoor
namespace Go.Proofs.YteoemijgdcpopaaDoor
open Go.RowKit Go.Shelf
attribute [local go_sem] Oper.semAt_some

theorem descending_any (q : Option Addr) (n cq : Nat) (w : World) :
    Calls Tryd.prog 47 #[.slice q n cq] w fun e w' => e = .returned (.func (.func 80) #[] #[.pointer (some ⟨w.heap.size, 0, none⟩)]) ∧ w' = w.alloc (.cells #[.slice q n cq] 22) := by
  go_enter Tryd.func47, Tryd.ntmps47
  go_wp2
  go_ret
  exact ⟨rfl, rfl⟩
def encD (x : Nat × Int) : Array Value := #[.int .i64 (x.1 : Int), .agg #[.bool (canon x.2).neg, .string (canon x.2).mag]]
/-- What has been yielded when the coefficients from k on have. -/
def desL (F : Nat → Int) (n k : Nat) : List (Nat × Int) := (List.range (n - k)).map fun t => (n - 1 - t, F (n - 1 - t))
theorem desL_succ (F : Nat → Int) {n k : Nat} (h : k < n) : desL F n k = desL F n (k + 1) ++ [(k, F k)] := by
  unfold desL
  rw [show n - k = (n - (k + 1)) + 1 from by omega, List.range_succ, List.map_append, show n - (k + 1) = n - 1 - k from by omega]
  simp [show n - 1 - (n - 1 - k) = k from by omega]
theorem desL_top (F : Nat → Int) (n : Nat) : desL F n n = [] := by simp [desL]
theorem desL_inj {F : Nat → Int} {n a b : Nat} (ha : a ≤ n) (hb : b ≤ n) (h : desL F n a = desL F n b) : a = b := by
  have := congrArg List.length h
  simp [desL] at this
  omega
def GDes (F : Nat → Int) (n : Nat) (pre : List (Nat × Int)) (x : Nat × Int) (_ : World) : Prop := ∃ k, k < n ∧ pre = desL F n (k + 1) ∧ x = (k, F k)

set_option maxRecDepth 100000 in
set_option maxHeartbeats 4000000 in
theorem des1_in (l Bm n : Nat) (q : Option Addr) (cq : Nat) (F : Nat → Int) (J Jx : List (Nat × Int) → World → Prop) (Kp : World → World → Prop) (K : World → Prop) (hK1 : ∀ W, K W → RowF W q n F ∧ Boxed W Bm 22 (.slice q n cq)) (hK2 : ∀ A B, K A → Kp A B → K B)
    (hY : ∀ pre x W1, J pre W1 → GDes F n pre x W1 → YieldAt Fence.wide 2 Tryd.prog l (encD x) W1 fun e W' => (e = .returned (.bool true) ∧ J (pre ++ [x]) W' ∧ Kp W1 W') ∨ (e = .returned (.bool false) ∧ Jx (pre ++ [x]) W'))
    (W : World) (hW : K W) (hn : n ≤ 1000000) (h0 : J [] W) :
    CallsIn Fence.wide 3 Tryd.prog 80 #[.func (.yield l) #[] #[], .pointer (some ⟨Bm, 0, none⟩)] W fun e W' => (∃ v, e = .returned v) ∧ ((∃ xs, xs = desL F n 0 ∧ J xs W') ∨ ∃ pre, Jx pre W') := by
  refine callsIn_of_wp Tryd.func80 rfl trivial ?_ rfl
  simp only [Tryd.ntmps80, List.size_toArray, List.length_cons, List.length_nil, Nat.reduceAdd, Nat.reduceSub, Array.replicate_succ, Array.replicate_zero, List.push_toArray, List.append_toArray, List.nil_append, List.cons_append]
  have hmc := (hK1 W hW).2.cell
  have HY := Lib.hid hY
  have HK1 := Lib.hid hK1
  have HK2 := Lib.hid hK2
  clear hY hK1 hK2
  refine wpIn_wide.2 ?_
  go_wp2
  go_loopw [3] (fun v wr => ∃ j : Nat, j ≤ n ∧ v = .int .i64 ((j : Int) - 1) ∧ Hid (K wr) ∧ Hid (J (desL F n j) wr)) (fun v _ => (intOf v + 1).toNat)
  case atStart => exact ⟨n, Nat.le_refl _, by go_num, Lib.hid hW, Lib.hid (by rw [desL_top]; exact h0)⟩
  case round =>
    clear hmc h0 hW
    obtain ⟨j, hj, rfl, Hb, HJ1⟩ := hrel
    by_cases hj0 : 0 < j
    · obtain ⟨k, rfl⟩ : ∃ k, j = k + 1 := ⟨j - 1, by omega⟩
      rw [show ((k + 1 : Nat) : Int) - 1 = (k : Int) from by omega]
      have hlt : k < n := by omega
      obtain ⟨hG1, hm1⟩ := HK1.out wr Hb.out
      obtain ⟨bb, bo, rfl, _, hbc⟩ := hG1.cells hlt
      obtain ⟨b3, b4⟩ := hbc k hlt
      have hmc := hm1.cell
      have k0 : (0 : Int) ≤ (k : Int) := by omega
      have k1 : (k : Int) < (n : Int) := by omega
      obtain ⟨fn, tmps, assign, body, hyl, hR⟩ := HY.out (desL F n (k + 1)) (k, F k) wr HJ1.out ⟨k, hlt, rfl, rfl⟩
      dsimp only [encD] at hyl
      have hsuc := desL_succ F hlt
      have HR := Lib.hid hR
      have Hsuc := Lib.hid hsuc
      obtain ⟨Y, hY⟩ : ∃ Y, canon (F k) = Y := ⟨_, rfl⟩
      rw [hY] at b3 b4 hyl
      clear hG1 hm1 hbc hR hsuc hY
      go_upto_region 3 with (fail)
      refine (wpIn_wide (n := 3)).1 ?_
      gi_wp2
      refine HR.out.mono ?_
      rintro e W3 (⟨rfl, hJ3, hk3⟩ | ⟨rfl, hJx3⟩)
      · have HJ3 : Hid (J (desL F n k) W3) := Lib.hid (by rw [Hsuc.out]; exact hJ3)
        have Hb3 := Lib.hid (HK2.out _ _ Hb.out hk3)
        clear hJ3 hk3 b3 b4 hyl hmc
        gi_wp2
        go_wp2
        go_roundw
        case rel => exact ⟨k, by omega, by go_num, Hb3, HJ3⟩
        case measure => simp [intOf]
      · have HJx := Lib.hid hJx3
        clear hJx3
        gi_wp2
        go_wp2
        refine bodyPost_ret (results_none rfl _ _ _) rfl ?_
        exact ⟨⟨_, rfl⟩, .inr ⟨_, HJx.out⟩⟩
    · obtain rfl : j = 0 := by omega
      go_wp2
      go_end0
      exact ⟨⟨_, rfl⟩, .inl ⟨_, rfl, HJ1.out⟩⟩
end Go.Proofs.YteoemijgdcpopaaDoor
namespace Go.Proofs.YteoemijgdcpopaaDoor
open Go.RowKit Go.Shelf
attribute [local go_sem] Oper.semAt_some

def encC (x : Nat × Int) : Array Value := #[.int .i64 (x.1 : Int), .agg #[.bool (canon x.2).neg, .string (canon x.2).mag]]
/-- What has been yielded when j elements have. -/
def colL (G : Nat → Nat → Int) (k j : Nat) : List (Nat × Int) := (List.range j).map fun j => (j, G j k)
theorem colL_succ (G : Nat → Nat → Int) (k j : Nat) : colL G k (j + 1) = colL G k j ++ [(j, G j k)] := by unfold colL; rw [List.range_succ, List.map_append]; rfl
def GCol (G : Nat → Nat → Int) (n k : Nat) (pre : List (Nat × Int)) (x : Nat × Int) (_ : World) : Prop := ∃ j, j < n ∧ pre = colL G k j ∧ x = (j, G j k)
/-- What a round keeps: what lies below B, and the iterator's two boxes. -/
def KpCol (B Bm Bk : Nat) (W W' : World) : Prop := Below B W W' ∧ W'.heap[Bm]? = W.heap[Bm]? ∧ W'.heap[Bk]? = W.heap[Bk]?
theorem KpCol.trans {B Bm Bk : Nat} {X Y Z : World} (h : KpCol B Bm Bk X Y) (k : KpCol B Bm Bk Y Z) : KpCol B Bm Bk X Z := ⟨h.1.trans k.1, k.2.1.trans h.2.1, k.2.2.trans h.2.2⟩

end Go.Proofs.YteoemijgdcpopaaDoor
namespace Go.Proofs.YteoemijgdcpopaaDoor
open Go.RowKit

theorem op_lift {l n : Nat} {P : Program} {o : Oper} {a : Act} {w : World} {K : Act → World → Prop} {Q : Exit → Act → World → Prop} (hd : ∀ c, o.op ≠ .defer c) (h : o.wp P a w K Q) : o.wpIn (Fence.wide.inRound l) n P a w K Q := by
  unfold Oper.wp at h
  unfold Oper.wpIn
  refine ⟨fun _ _ => trivial, ?_⟩
  rw [show (Fence.wide.inRound l).round = some l from rfl, Oper.semAt_some l _ o hd]
  generalize (execOp a.eval o).run P w = r at *
  cases r with
  | ok x w' =>
    cases x <;> simp only [Oper.upon, Oper.uponIn] at h ⊢
    case value => exact h
    case skip => exact h
    case defer => exact h
    case enter f args => exact ⟨fun h => by simp [Fence.wide, Fence.inRound] at h, CallsIn.inRound l (callsIn_wide.2 h)⟩
    case row row args => exact ⟨fun h => by simp [Fence.wide, Fence.inRound] at h, fun c cs _ => let ⟨v, w', r, s⟩ := h c cs; ⟨v, w', r, stepsIn_wide.2 s⟩⟩
  | halt x w' => cases x <;> simp only [Oper.upon, Oper.uponIn] at h ⊢ <;> exact h
theorem any_lift {l n : Nat} {P : Program} {md : Region.Mode} {ops : Array Oper} {Q : Exit → Act → World → Prop} (hops : ∀ (i : Nat) (o : Oper), ops[i]? = some o → ∀ c, o.op ≠ .defer c) (hQ : ¬ LetsOut Q) :
    ∀ (fuel : Nat) (listed : Array Bool) (a : Act) (w : World), wpAny P md ops Q fuel listed a w → wpAnyIn (Fence.wide.inRound l) n P md ops Q fuel listed a w := by
  intro fuel
  induction fuel with
  | zero => intro listed a w h; exact h
  | succ fuel ih =>
    intro listed a w h
    refine ⟨h.1, fun i hi => ?_⟩
    have h2 := h.2 i hi
    unfold wpOp at h2
    unfold wpOpIn
    cases ho : ops[i]? with
    | none => rw [ho] at h2; exact ih _ _ _ h2
    | some o =>
      rw [ho] at h2
      dsimp only at h2 ⊢
      split
      · rename_i hw
        rw [if_pos hw] at h2
        rcases h2 with h3 | ⟨_, h3⟩
        · exact op_lift (hops i o ho) (Oper.wp_mono (fun a w h => ih _ a w h) h3)
        · exact absurd h3 hQ
      · rename_i hw
        rw [if_neg hw] at h2
        exact ⟨fun _ _ => trivial, ih _ _ _ h2⟩
/-- No defer statement. -/
def noDefer (ops : Array Oper) : Bool := ops.all fun o => match o.op with | .defer _ => false | _ => true
theorem noDefer_spec {ops : Array Oper} (h : noDefer ops = true) (i : Nat) (o : Oper) (ho : ops[i]? = some o) (c : Call) : o.op ≠ .defer c := by
  intro he
  have h2 := Array.all_eq_true_iff_forall_mem.1 h o (Array.mem_of_getElem? ho)
  rw [he] at h2
  cases h2
/-- A region that draws its order, inside a round: what is left to show is the plain walk's. -/
theorem region_lift {l n id : Nat} {P : Program} {ops : Array Oper} {Q : Exit → Act → World → Prop} {a : Act} {w : World} (hm : P.follows .mixedOrders = true) (hops : noDefer ops = true) (hQ : ¬ LetsOut Q)
    (h : wpAny P .any ops Q ops.size (Array.replicate ops.size false) a w.drew) : (Code.region id ops true).wpIn (Fence.wide.inRound l) n P Q a w :=
  wpIn_region_any hm (any_lift (noDefer_spec hops) hQ _ _ _ _ h)
end Go.Proofs.YteoemijgdcpopaaDoor
