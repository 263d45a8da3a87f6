/- eigenvector.Refute. -/
import Derived.Test.YtlaoijfphkhchaaB37
import Derived.Test.YtlaoijfphkhchaaB39
import Derived.Test.YtlaoijfphkhchaaB40
import Derived.Test.YtlaoijfphkhchaaB14
namespace Go.Proofs.Ytlaoijfphkhchaa
open Go.RowKit Go.Shelf
/-- A list of rows, i of them made. -/
structure GridQ (w : World) (B g r c i : Nat) (A : Nat → Nat) (F : Nat → Nat → Int) : Prop where
  low : B ≤ g
  hdr : HAt w g r (fun j => if j < i then .slice (some ⟨A j, 0, none⟩) c c else .slice none 0 0)
  row : ∀ j, j < i → RowT w (A j) c (F j) ∧ B ≤ A j ∧ A j ≠ g
  inj : ∀ j k, j < k → k < i → A j ≠ A k
theorem GridQ.start (w : World) (B r c : Nat) (t : TypeId) (F : Nat → Nat → Int) (h : B ≤ w.heap.size) : GridQ (w.alloc (.cells (madeCells #[.slice none 0 0] r) t)) B w.heap.size r c 0 (fun _ => 0) F :=
  ⟨h, (made_hdr w r t).congr fun k _ => by rw [if_neg (by omega)], fun j hj => by omega, fun j k _ hk => by omega⟩
theorem GridQ.enter {w : World} {B g r c i : Nat} {A : Nat → Nat} {F : Nat → Nat → Int} (h : GridQ w B g r c i A F) (hi : i < r) :
    GridQ ((w.alloc (.cells (madeCells #[.bool false, .string ⟨#[]⟩] (c * 2)) 28)).setCell ⟨g, i, none⟩ (.slice (some ⟨w.heap.size, 0, none⟩) c c)) B g r c (i + 1) (fun j => if j = i then w.heap.size else A j) (fun j k => if j = i then 0 else F j k) := by
  have hg := h.hdr.1
  have hal := (Below.refl w.heap.size w).alloc (Nat.le_refl _) (.cells (madeCells #[.bool false, .string ⟨#[]⟩] (c * 2)) 28)
  refine ⟨h.low, ?_, fun j hj => ?_, fun j k hjk hk => ?_⟩
  · refine ((h.hdr.below hal hg).set (k := i) _).congr fun j hj => ?_
    by_cases e : j = i
    · subst e; simp
    · simp only [if_neg e]
      by_cases h1 : j < i
      · rw [if_pos h1, if_pos (by omega)]
      · rw [if_neg h1, if_neg (by omega)]
  · by_cases e : j = i
    · rw [if_pos e]
      refine ⟨((RowT.of_made (w := w) (n := c)).kept (heap_setCell_other _ _ _ _ (by show w.heap.size ≠ g; omega))).congr fun k _ => (if_pos e).symm, Nat.le_trans h.low (by omega), by omega⟩
    · rw [if_neg e]
      obtain ⟨h1, h2, h3⟩ := h.row j (by omega)
      exact ⟨((h1.kept (hal.block _ h1.z.1)).kept (heap_setCell_other _ _ _ _ h3)).congr fun k _ => (if_neg e).symm, h2, h3⟩
  · rw [if_neg (show ¬ j = i by omega)]
    have h4 := (h.row j (by omega)).1.z.1
    by_cases e : k = i
    · rw [if_pos e]; omega
    · rw [if_neg e]; exact h.inj j k hjk (by omega)
theorem GridQ.call {w w' : World} {B g r c i : Nat} {A : Nat → Nat} {F : Nat → Nat → Int} (h : GridQ w B g r c i A F) (hb : Below w.heap.size w w') : GridQ w' B g r c i A F :=
  ⟨h.low, h.hdr.below hb h.hdr.1, fun j hj => ⟨(h.row j hj).1.kept (hb.block _ (h.row j hj).1.z.1), (h.row j hj).2⟩, h.inj⟩
theorem GridQ.set {w : World} {B g r c i : Nat} {A : Nat → Nat} {F : Nat → Nat → Int} (h : GridQ w B g r c i A F) {s : Nat} (hs : s < i) (k : Nat) (v : Int) :
    GridQ ((w.setCell ⟨A s, k * 2, none⟩ (.bool (canon v).neg)).setCell ⟨A s, k * 2 + 1, none⟩ (.string (canon v).mag)) B g r c i A (fun a b => if a = s ∧ b = k then v else F a b) := by
  obtain ⟨h1, h2, h3⟩ := h.row s hs
  refine ⟨h.low, (h.hdr.other _ _ (by exact h3)).other _ _ (by exact h3), fun j hj => ?_, h.inj⟩
  obtain ⟨k1, k2, k3⟩ := h.row j hj
  refine ⟨?_, k2, k3⟩
  by_cases e : j = s
  · subst e
    exact (h1.set k v).congr fun b _ => by simp
  · have hne : A j ≠ A s := by
      rcases Nat.lt_or_ge j s with hl | hl
      · exact h.inj j s hl hs
      · exact (h.inj s j (by omega) hj).symm
    exact ((k1.kept (heap_setCell_other _ _ _ _ hne)).kept (heap_setCell_other _ _ _ _ hne)).congr fun b _ => by rw [if_neg (fun hh => e hh.1)]
theorem GridQ.congr {w : World} {B g r c i : Nat} {A : Nat → Nat} {F H : Nat → Nat → Int} (h : GridQ w B g r c i A F) (e : ∀ j k, j < i → k < c → F j k = H j k) : GridQ w B g r c i A H :=
  ⟨h.low, h.hdr, fun j hj => ⟨(h.row j hj).1.congr fun k hk => e j k hj hk, (h.row j hj).2⟩, h.inj⟩
theorem GridQ.grid {w : World} {B g r c : Nat} {A : Nat → Nat} {F : Nat → Nat → Int} (h : GridQ w B g r c r A F) : Grid w B g r c A F :=
  ⟨h.low, h.hdr.1, fun i hi => by have := (h.hdr.2 i hi).1; simpa [hi] using this, fun i hi => ⟨(h.row i hi).1, (h.row i hi).2.1⟩, fun i hi => (h.row i hi).2.2, h.inj⟩
theorem adjC_eq {n : Nat} (hn : 0 < n) (A : Nat → Nat → Int) (i k : Nat) (hi : i < n) (hk : k < n) : adjC n A i k = adjL n A i k := by
  have h := (chr_gen n hn A).2.2.1 i k hi hk
  unfold adjC
  rw [h]
  unfold sgF
  split <;> split <;> omega
theorem mIA_step {m : Nat} {E : Nat → Nat → Int} {k s t : Nat} (h0 : E k 0 = s) (h2 : E k 2 = t) (a b : Nat) : (if a = s ∧ b = t then mIA m (adjE E k) s t - 1 else mIA m (adjE E k) a b) = mIA m (adjE E (k + 1)) a b := by
  have h := adjE_step h0 h2 a b
  unfold mIA
  rw [← h]
  split
  · rename_i e; obtain ⟨rfl, rfl⟩ := e; omega
  · rfl
theorem smE_adj {N n : Nat} {E : Nat → Nat → Int} (h : EdOk N n E) (v : Nat → Int) (s : Nat) : smE (frE E) (toE E) v n s = dotN (fun t => adjE E n s t * v t) N := by
  suffices hh : ∀ j, j ≤ n → smE (frE E) (toE E) v j s = dotN (fun t => adjE E j s t * v t) N from hh n (Nat.le_refl _)
  intro j
  induction j with
  | zero => intro _; rw [dotN_congr (g := fun _ => 0) fun t _ => by show adjE E 0 s t * v t = 0; unfold adjE cntE; simp, dotN_zero]; rfl
  | succ j ih =>
    intro hj
    obtain ⟨h1, h2, h3, h4⟩ := edOk_nat h j (by omega)
    rw [smE_succ, ih (by omega)]
    have e : dotN (fun t => adjE E (j + 1) s t * v t) N = dotN (fun t => adjE E j s t * v t + if toE E j = t then (if frE E j = s then v t else 0) else 0) N := dotN_congr fun t _ => by
      rw [← adjE_step h1 h2 s t]
      by_cases e1 : toE E j = t
      · rw [if_pos e1]
        by_cases e2 : frE E j = s
        · rw [if_pos e2, if_pos ⟨e2.symm, e1.symm⟩, e2, e1, Int.add_mul, Int.one_mul]
        · rw [if_neg e2, if_neg (fun hh => e2 hh.1.symm), Int.add_zero]
      · rw [if_neg e1, if_neg (fun hh => e1 hh.2.symm), Int.add_zero]
    rw [e, dotN_add, dotN_pick (fun t => if frE E j = s then v t else 0) N _ h4]
/-- What Refute makes: the sums of the rows of the adjugate. -/
def rfX (N n m : Nat) (E : Nat → Nat → Int) (s : Nat) : Int := dotN (fun j => adjL N (mIA m (adjE E n)) s j) N
def RetRf (fr te : Nat → Nat) (n N m : Nat) (X : Nat → Int) (w : World) (e : Ending) (w' : World) : Prop :=
  Below w.heap.size w w' ∧ ((rfsB fr te n N m X = true ∧ ∃ g, e = .returned (.tuple #[.slice (some ⟨g, 0, none⟩) N N, .int .i64 0]) ∧ RowF w' (some ⟨g, 0, none⟩) N X) ∨ (rfsB fr te n N m X = false ∧ e = .returned (.tuple #[.slice none 0 0, .int .i64 15])))
set_option maxRecDepth 100000 in
set_option maxHeartbeats 16000000 in
theorem Refute_ok (LL : Int) (N n m : Nat) (E : Nat → Nat → Int) (p : Option Addr) (c : Nat) (hg : gChk LL N n E = 0) (h0 : 0 < N) (h32 : N ≤ 32) (hm0 : 0 < m) (hm : m ≤ 256) (w : World) (hE : EdgAt w p n E) :
    Calls Try.prog 33 #[.agg #[.int .i64 LL, .int .i64 (N : Int), .slice p n c], .int .i64 (m : Int)] w (RetRf (frE E) (toE E) n N m (rfX N n m E) w) := by
  obtain ⟨_, _, _, hS, hn, _⟩ := gChk_zero hg
  have hok : EdOk N n E := by have := gChk_ok hg; simpa using this
  obtain ⟨W0, hW0⟩ : ∃ W, w.alloc (.cells #[.int .i64 LL, .int .i64 (N : Int), .slice p n c] 24) = W := ⟨_, rfl⟩
  have hb0 : Below w.heap.size w W0 := by rw [← hW0]; exact (Below.refl _ _).alloc (Nat.le_refl _) _
  have hbx : BoxAt3 W0 w.heap.size (.int .i64 LL) (.int .i64 (N : Int)) (.slice p n c) := by rw [← hW0]; exact BoxAt3.new w _ _ _ _
  have hE0 : EdgAt W0 p n E := hE.mono (Nat.le_refl _) hb0
  have HB : Hid (∀ W, Below W0.heap.size W0 W → BoxAt3 W w.heap.size (.int .i64 LL) (.int .i64 (N : Int)) (.slice p n c) ∧ Below w.heap.size w W) := Lib.hid (fun W hW => ⟨hbx.below hW, hb0.trans (hW.mono hb0.size)⟩)
  have HC := Lib.hid (whole_ok LL N n m E p c hg hm0 hm W0 hE0)
  have HEd : Hid (∀ W, Below W0.heap.size W0 W → EdgAt W p n E) := Lib.hid (fun W hW => hE0.mono (Nat.le_refl _) hW)
  have HOk := Lib.hid hok
  have HOf := Lib.hid (fun W => of_any (m : Int) (by omega) (by omega) W)
  have HO1 := Lib.hid (fun W => of_any 1 (by omega) (by omega) W)
  have hbn : BnM N N (mIA m (adjE E n)) 21 := fun i k _ _ => by
    unfold Bn mIA adjE
    have := cntE_le E n i k
    split <;> omega
  have HAj := Lib.hid (show ∀ (W : World) (q : Option Addr) (cq : Nat), MatF W q N N (mIA m (adjE E n)) → Calls Try.prog 68 #[.slice q N cq] W (RetMatE 0 N N (adjL N (mIA m (adjE E n))) W) from fun W q cq hM => (matAdj_any h0 h32 (mIA m (adjE E n)) q cq hbn (by omega) W hM).mono fun e w' h => by
    obtain ⟨hb, h⟩ := h
    rcases h with ⟨h1, q, k, he, hM⟩ | h
    · exact ⟨hb, .inl ⟨h1, q, k, he, hM.congr fun i k hi hk => adjC_eq h0 _ i k hi hk⟩⟩
    · exact ⟨hb, .inr h⟩)
  have hba : BnM N N (adjL N (mIA m (adjE E n))) 1024 := fun i k hi hk => by
    rw [← adjC_eq h0 _ i k hi hk]
    have h1 := (chrM_bn hbn (m := 5) h32 (N - 1)) i k hi hk
    have h2 : (N - 1) * (21 + 5 + 5 + 1) ≤ 31 * (21 + 5 + 5 + 1) := Nat.mul_le_mul_right _ (by omega)
    unfold adjC
    split
    · exact (h1.neg).up (by omega)
    · exact h1.up (by omega)
  have Hba := Lib.hid hba
  have HRf := Lib.hid (fun W q cq (hW : Below W0.heap.size W0 W) (hq : RowF W q N (rfX N n m E)) => refusal_any LL N n m E p c (rfX N n m E) q cq (by omega) (by omega) hm hok (e := 1029) (by omega) (fun s hs => Bn.dot (e := 1024) (m := 5) N h32 fun j hj => hba s j hs hj) W (hE0.mono (Nat.le_refl _) hW) hq)
  obtain ⟨_, c0, c1, c2⟩ := hbx
  have hsz : w.heap.size ≤ W0.heap.size := hb0.size
  have n0 : ((N : Int) == 0) = false := by rw [beq_eq_false_iff_ne]; omega
  have n1 : ¬ (32 : Int) < (N : Int) := by omega
  clear hE hE0 hb0 hg hok hbn hba
  go_enter Try.func33, Try.ntmps33
  go_wp2_with fail
  try rw [hW0]
  refine HC.out.mono ?_
  rintro e W1 ⟨rfl, hb⟩
  dsimp only
  have Hb1 := Lib.hid hb
  obtain ⟨⟨_, z0, z1, z2⟩, _⟩ := HB.out _ hb
  have hmk := make_rows N (by omega) W1
  have Hgr := Lib.hid (GridQ.start W1 W1.heap.size N N 53 (fun a b => if a = b then (m : Int) else 0) (Nat.le_refl _))
  have Hb : Hid (Below W1.heap.size W1 (W1.alloc (.cells (madeCells #[.slice none 0 0] N) 53))) := Lib.hid ((Below.refl _ _).alloc (Nat.le_refl _) _)
  have HBb : Hid (∀ W, Below W1.heap.size W1 W → BoxAt3 W w.heap.size (.int .i64 LL) (.int .i64 (N : Int)) (.slice p n c) ∧ Below w.heap.size w W ∧ Below W0.heap.size W0 W) := Lib.hid (fun W hW => by
    have h := Hb1.out.trans (hW.mono Hb1.out.size)
    exact ⟨(HB.out W h).1, (HB.out W h).2, h⟩)
  clear hb HC c0 c1 c2 hW0 HB
  obtain ⟨g0, hg0⟩ : ∃ g, w.heap.size = g := ⟨_, rfl⟩
  rw [hg0] at z0 z1 z2 HBb hsz
  try rw [hg0]
  go_wp2_with fail
  clear hmk z0 z1 z2
  have Hg0 := Lib.hid hg0
  obtain ⟨gm, hgm⟩ : ∃ g, W1.heap.size = g := ⟨_, rfl⟩
  have hgl : W1.heap.size ≤ gm := by omega
  rw [hgm] at Hgr
  try rw [hgm]
  generalize W1.alloc (.cells (madeCells #[.slice none 0 0] N) 53) = V at *
  clear hg0 hgm Hb1
  go_loopw [35] (fun iv wr => ∃ (i : Nat) (A : Nat → Nat), i ≤ N ∧ iv = .int .i64 (i : Nat) ∧ Hid (GridQ wr gm gm N N i A (fun a b => if a = b then (m : Int) else 0)) ∧ Hid (Below W1.heap.size W1 wr)) (fun iv _ => N - (intOf iv).toNat)
  case atStart => exact ⟨0, _, by omega, by go_num, Hgr, Hb⟩
  case round =>
    clear Hgr Hb
    obtain ⟨i, A, hi, rfl, HG, Hb⟩ := hrel
    by_cases hil : i < N
    · have i1 : (i : Int) < (N : Int) := by omega
      have i0 : (0 : Int) ≤ (i : Int) := by omega
      obtain ⟨⟨_, _, z1, _⟩, _, _⟩ := HBb.out _ Hb.out
      have hmk := make_zs N (by omega) wr
      have HG2 := Lib.hid (HG.out.enter hil)
      have hgw : gm < wr.heap.size := HG.out.hdr.1
      have Hb2 : Hid (Below W1.heap.size W1 ((wr.alloc (.cells (madeCells #[.bool false, .string ⟨#[]⟩] (N * 2)) 28)).setCell ⟨gm, i, none⟩ (.slice (some ⟨wr.heap.size, 0, none⟩) N N))) := Lib.hid ((Hb.out.alloc Hb.out.size _).setCell hgl _)
      have y0 := (HG.out.hdr.below ((Below.refl wr.heap.size wr).alloc (Nat.le_refl _) (.cells (madeCells #[.bool false, .string ⟨#[]⟩] (N * 2)) 28)) hgw).2 i hil
      obtain ⟨y1, y2⟩ := y0
      dsimp only at y1
      rw [if_neg (Nat.lt_irrefl i)] at y1
      have hz1 := cell_below ((Below.refl wr.heap.size wr).alloc (Nat.le_refl _) (.cells (madeCells #[.bool false, .string ⟨#[]⟩] (N * 2)) 28)) z1
      generalize wr.alloc (.cells (madeCells #[.bool false, .string ⟨#[]⟩] (N * 2)) 28) = w2 at *
      obtain ⟨gi, hgi⟩ : ∃ gi, wr.heap.size = gi := ⟨_, rfl⟩
      rw [hgi] at hmk HG2 Hb2
      go_upto_region 13 with (fail)
      clear y1 y2 z1 hz1 hmk hgw
      generalize w2.setCell ⟨gm, i, none⟩ (.slice (some ⟨gi, 0, none⟩) N N) = X at *
      obtain ⟨A2, hA2⟩ : ∃ A2 : Nat → Nat, (fun j => if j = i then gi else A j) = A2 := ⟨_, rfl⟩
      have hA2i : A2 i = gi := by rw [← hA2]; simp
      rw [hA2] at HG2
      clear HG Hb hgi hA2
      have HXX : Hid (∀ W, Below X.heap.size X W → GridQ W gm gm N N (i + 1) A2 (fun j k => if j = i then 0 else if j = k then (m : Int) else 0) ∧ Below W1.heap.size W1 W) := Lib.hid (fun W hW => ⟨HG2.out.call hW, Hb2.out.trans (hW.mono Hb2.out.size)⟩)
      have HA2 := Lib.hid hA2i
      have hrl := (HG2.out.row i (by omega)).2
      rw [hA2i] at hrl
      obtain ⟨hrl1, hrl2⟩ := hrl
      obtain ⟨MM, hMM⟩ : ∃ Z, canon (m : Int) = Z := ⟨_, rfl⟩
      have HOm := Lib.hid HOf.out
      rw [hMM] at HOm
      have HMM := Lib.hid hMM
      obtain ⟨SS, hSe⟩ : ∃ SS : World → Prop, SS = fun W => W.cell? ⟨gm, i, none⟩ = some (.slice (some ⟨gi, 0, none⟩) N N) := ⟨_, rfl⟩
      have HS : Hid (∀ W, Below X.heap.size X W → SS W) := Lib.hid (fun W hW => by
        have h := ((HXX.out W hW).1.hdr.2 i hil).1
        dsimp only at h
        rw [if_pos (by omega), HA2.out] at h
        rw [hSe]; exact h)
      have hd : Below X.heap.size X X.drew := (Below.refl _ _).drew
      clear hA2i hMM HG2 Hb2
      refine wp_region_held_drew (S := SS) (by kernel_rfl) (HS.out _ hd) (fun hSS => ?_)
      refine wpAnyH_take (i := 0) (v := ?_) rfl (by kernel_rfl) (by kernel_rfl) (by kernel_rfl) (fun _ _ _ h => h) (Or.inl ⟨by rfl, ?_⟩) (HS.out _ hd) ?_
      rotate_left 1
      next => intro w hSw; rw [hSe] at hSw; have s1 := hSw; go_simp; try with_reducible rfl
      try simp only [Act.put, List.getElem_toArray, List.getElem_cons_zero, List.getElem_cons_succ, List.setIfInBounds_toArray, List.set_cons_zero, List.set_cons_succ]
      refine wpAnyH_take (i := 1) (v := ?_) rfl (by kernel_rfl) (by kernel_rfl) (by kernel_rfl) (fun _ _ _ h => h) (Or.inl ⟨by rfl, ?_⟩) (HS.out _ hd) ?_
      rotate_left 1
      next => intro w hSw; rw [hSe] at hSw; have s1 := hSw; go_simp; try with_reducible rfl
      try simp only [Act.put, List.getElem_toArray, List.getElem_cons_zero, List.getElem_cons_succ, List.setIfInBounds_toArray, List.set_cons_zero, List.set_cons_succ]
      refine wpAnyH_take (i := 2) (v := ?_) rfl (by kernel_rfl) (by kernel_rfl) (by kernel_rfl) (fun _ _ _ h => h) (Or.inl ⟨by rfl, ?_⟩) (HS.out _ hd) ?_
      rotate_left 1
      next => intro w hSw; rw [hSe] at hSw; have s1 := hSw; go_simp; try with_reducible rfl
      try simp only [Act.put, List.getElem_toArray, List.getElem_cons_zero, List.getElem_cons_succ, List.setIfInBounds_toArray, List.set_cons_zero, List.set_cons_succ]
      refine wpAnyH_take (i := 3) (v := ?_) rfl (by kernel_rfl) (by kernel_rfl) (by kernel_rfl) (fun _ _ _ h => h) (Or.inl ⟨by rfl, ?_⟩) (HS.out _ hd) ?_
      rotate_left 1
      next => intro w hSw; rw [hSe] at hSw; have s1 := hSw; go_simp; try with_reducible rfl
      try simp only [Act.put, List.getElem_toArray, List.getElem_cons_zero, List.getElem_cons_succ, List.setIfInBounds_toArray, List.set_cons_zero, List.set_cons_succ]
      refine wpAnyH_take (i := 4) (v := ?_) rfl (by kernel_rfl) (by kernel_rfl) (by kernel_rfl) (fun _ _ _ h => h) (Or.inl ⟨by rfl, ?_⟩) (HS.out _ hd) ?_
      rotate_left 1
      next => intro w hSw; rw [hSe] at hSw; have s1 := hSw; go_simp; try with_reducible rfl
      try simp only [Act.put, List.getElem_toArray, List.getElem_cons_zero, List.getElem_cons_succ, List.setIfInBounds_toArray, List.set_cons_zero, List.set_cons_succ]
      refine wpAnyH_take (i := 5) (v := ?_) rfl (by kernel_rfl) (by kernel_rfl) (by kernel_rfl) (fun _ _ _ h => h) (Or.inl ⟨by rfl, ?_⟩) (HS.out _ hd) ?_
      rotate_left 1
      next => intro w hSw; rw [hSe] at hSw; have s1 := hSw; go_simp; try with_reducible rfl
      try simp only [Act.put, List.getElem_toArray, List.getElem_cons_zero, List.getElem_cons_succ, List.setIfInBounds_toArray, List.set_cons_zero, List.set_cons_succ]
      try simp only [Act.put, List.getElem_toArray, List.getElem_cons_zero, List.getElem_cons_succ, List.setIfInBounds_toArray, List.set_cons_zero, List.set_cons_succ]
      refine wpAnyH_ready (rs := [6]) (by kernel_rfl) (by simp) ?_
      refine AllReadyH.cons rfl (fun K hK => ?_) AllReadyH.nil
      go_simp
      refine (HOm.out _).mono ?_
      rintro e w1 ⟨rfl, hbc⟩
      have hb1 : Below X.heap.size X w1 := hd.trans (hbc.mono hd.size)
      dsimp only
      refine hK.out _ _ (HS.out _ hb1) (fun _ => ?_)
      clear hK K hbc
      refine wpAnyH_take (i := 7) (v := ?_) rfl (by kernel_rfl) (by kernel_rfl) (by kernel_rfl) (fun _ _ _ h => h) (Or.inl ⟨by rfl, ?_⟩) (HS.out _ hb1) ?_
      rotate_left 1
      next => intro w hSw; rw [hSe] at hSw; have s1 := hSw; go_simp; try with_reducible rfl
      try simp only [Act.put, List.getElem_toArray, List.getElem_cons_zero, List.getElem_cons_succ, List.setIfInBounds_toArray, List.set_cons_zero, List.set_cons_succ]
      try simp only [Act.put, List.getElem_toArray, List.getElem_cons_zero, List.getElem_cons_succ, List.setIfInBounds_toArray, List.set_cons_zero, List.set_cons_succ]
      refine wpAnyH_ready (rs := [8]) (by kernel_rfl) (by simp) ?_
      refine AllReadyH.cons rfl (fun K hK => ?_) AllReadyH.nil
      obtain ⟨hg1, hb2⟩ := HXX.out _ hb1
      obtain ⟨⟨z0, z1⟩, z2, z3⟩ := (hg1.row i (by omega)).1.z.2 i hil
      rw [HA2.out] at z0 z1 z2 z3
      have hst := hg1.set (show i < i + 1 by omega) i (m : Int)
      rw [HA2.out, HMM.out] at hst
      have hss := HS.out _ hb1
      have hs2 : SS ((w1.setCell ⟨gi, i * 2, none⟩ (.bool MM.neg)).setCell ⟨gi, i * 2 + 1, none⟩ (.string MM.mag)) := by
        rw [hSe] at hss ⊢
        dsimp only at hss ⊢
        rw [World.cell?_setCell_other _ _ _ _ (by intro hh; simp only [Addr.mk.injEq] at hh; omega), World.cell?_setCell_other _ _ _ _ (by intro hh; simp only [Addr.mk.injEq] at hh; omega)]
        exact hss
      have F1 := Lib.hid (hst.congr (H := fun a b => if a = b then (m : Int) else 0) fun a b ha hb => by
        by_cases e : a = i
        · rw [e]
          by_cases e2 : b = i
          · rw [if_pos ⟨rfl, e2⟩, if_pos e2.symm]
          · rw [if_neg (fun hh => e2 hh.2), if_pos rfl, if_neg (Ne.symm e2)]
        · rw [if_neg (fun hh => e hh.1), if_neg e])
      have F2 := Lib.hid ((hb2.setCell (p := ⟨gi, i * 2, none⟩) (show W1.heap.size ≤ gi by omega) (.bool MM.neg)).setCell (p := ⟨gi, i * 2 + 1, none⟩) (show W1.heap.size ≤ gi by omega) (.string MM.mag))
      go_simp
      refine hK.out _ _ hs2 (fun _ => ?_)
      clear hK K z0 z1 z2 z3 hss hs2 hg1 hb2 hst
      refine wpAnyH_done (by kernel_rfl) ?_ _
      go_wp2_with fail
      go_roundw
      case rel => exact ⟨i + 1, A2, by omega, by go_num, F1, F2⟩
      case measure => simp [intOf]; omega
    · have i1 : ¬ (i : Int) < (N : Int) := by omega
      have hie : i = N := by omega
      rw [hie] at HG
      obtain ⟨⟨_, z0, z1, z2⟩, _, _⟩ := HBb.out _ Hb.out
      have HG0 : Hid (Grid wr gm gm N N A (mIA m (adjE E 0))) := Lib.hid (HG.out.grid.congr fun a b _ _ => by
        unfold mIA adjE cntE; simp)
      clear hie HG HOf
      go_wp2_with fail
      clear z0 z1 z2
      obtain ⟨V2, hV2⟩ : ∃ V, wr = V := ⟨_, rfl⟩
      rw [hV2] at HG0 Hb ⊢
      clear hV2
      go_loopw [56] (fun iv wr => ∃ k : Nat, k ≤ n ∧ iv = .int .i64 (k : Nat) ∧ Hid (Grid wr gm gm N N A (mIA m (adjE E k))) ∧ Hid (Below W1.heap.size W1 wr)) (fun iv _ => n - (intOf iv).toNat)
      case atStart => exact ⟨0, by omega, by go_num, HG0, Hb⟩
      case round =>
        clear HG0 Hb
        obtain ⟨k, hk, rfl, HG, Hb⟩ := hrel
        by_cases hlt : k < n
        · have k1 : (k : Int) < (n : Int) := by omega
          have k0 : (0 : Int) ≤ (k : Int) := by omega
          obtain ⟨b, off, rfl, hbl, hcE⟩ : ∃ b off, p = some ⟨b, off, none⟩ ∧ b < wr.heap.size ∧ ∀ i, i < n → ∀ j, j < 3 → wr.cell? ⟨b, off + i * 3 + j, none⟩ = some (edC E i j) := by
            rcases HEd.out _ (HBb.out _ Hb.out).2.2 with h | h
            · omega
            · exact h
          have x0 := hcE k hlt 0 (by omega)
          have x1 := hcE k hlt 1 (by omega)
          have x2 := hcE k hlt 2 (by omega)
          simp only [edC, Nat.add_zero] at x0 x1 x2
          obtain ⟨s, t, hs, ht, hsN, htN⟩ := HOk.out k hlt
          have Hst : Hid (∀ a b, (if a = s ∧ b = t then mIA m (adjE E k) s t - 1 else mIA m (adjE E k) a b) = mIA m (adjE E (k + 1)) a b) := Lib.hid (mIA_step hs ht)
          rw [hs] at x0
          rw [ht] at x2
          obtain ⟨e1, he1⟩ : ∃ e, E k 1 = e := ⟨_, rfl⟩
          rw [he1] at x1
          clear hs ht he1 hcE
          have hsz2 : (canon (mIA m (adjE E k) s t)).mag.size ≤ 1000 := (show Bn (mIA m (adjE E k) s t) 21 from by
            unfold Bn mIA adjE
            have := cntE_le E k s t
            split <;> omega).size 1000 (by decide)
          have s0 : (0 : Int) ≤ (s : Int) := by omega
          have s1 : (s : Int) < (N : Int) := by omega
          have t0 : (0 : Int) ≤ (t : Int) := by omega
          have t1 : (t : Int) < (N : Int) := by omega
          go_upto_region 18 with (fail)
          obtain ⟨X, hX⟩ : ∃ W, wr.alloc (.cells #[.int .i64 (s : Int), .int .i64 e1, .int .i64 (t : Int)] 97) = W := ⟨_, rfl⟩
          have hbv : Below wr.heap.size wr X := by rw [← hX]; exact (Below.refl _ _).alloc (Nat.le_refl _) _
          have hxx := BoxAt3.new wr (.int .i64 (s : Int)) (.int .i64 e1) (.int .i64 (t : Int)) 97
          obtain ⟨hx, hhx⟩ : ∃ h, wr.heap.size = h := ⟨_, rfl⟩
          rw [hX, hhx] at hxx
          try rw [hX]
          try rw [hhx]
          have hg1 := HG.out.call hbv
          have hb1 := Hb.out.trans (hbv.mono Hb.out.size)
          have hxr : A s < hx ∧ gm < hx := by rw [← hhx]; exact ⟨(HG.out.row s hsN).1.z.1, HG.out.lt⟩
          clear hX hhx hbv x0 x1 x2 HG Hb hbl
          obtain ⟨_, d0, _, d2⟩ := hxx
          have c0 := hg1.hdr s hsN
          have hAg := hg1.ne s hsN
          obtain ⟨SS, hSe⟩ : ∃ SS : World → Prop, SS = fun W => W.cell? ⟨gm, s, none⟩ = some (.slice (some ⟨A s, 0, none⟩) N N) ∧ W.cell? ⟨hx, 0, none⟩ = some (.int .i64 (s : Int)) ∧ W.cell? ⟨hx, 2, none⟩ = some (.int .i64 (t : Int)) := ⟨_, rfl⟩
          have HS : Hid (∀ W, Below X.heap.size X W → SS W) := Lib.hid (fun W hW => by rw [hSe]; exact ⟨cell_below hW c0, cell_below hW d0, cell_below hW d2⟩)
          have HXX : Hid (∀ W, Below X.heap.size X W → Grid W gm gm N N A (mIA m (adjE E k)) ∧ Below W1.heap.size W1 W) := Lib.hid (fun W hW => ⟨hg1.call hW, hb1.trans (hW.mono hb1.size)⟩)
          have hgA : gm ≤ A s := (hg1.row s hsN).2
          clear c0 d0 d2 hg1 hb1
          have HA := Lib.hid (fun W => sub_any (canon (mIA m (adjE E k) s t)) (canon 1) (by omega) (by decide) W)
          rw [valZ_canon, valZ_canon] at HA
          obtain ⟨x, hxe⟩ : ∃ x, mIA m (adjE E k) s t = x := ⟨_, rfl⟩
          have Hxe := Lib.hid hxe
          rw [hxe] at HA Hst
          obtain ⟨u, hue⟩ : ∃ u, x - 1 = u := ⟨_, rfl⟩
          rw [hue] at HA Hst
          have Hst2 : Hid (∀ a b, (if a = s ∧ b = t then u else mIA m (adjE E k) a b) = mIA m (adjE E (k + 1)) a b) := Lib.hid Hst.out
          obtain ⟨XX, hXX⟩ : ∃ Z, canon x = Z := ⟨_, rfl⟩
          obtain ⟨UU, hUU⟩ : ∃ Z, canon u = Z := ⟨_, rfl⟩
          have HO := Lib.hid HO1.out
          obtain ⟨OO, hOO⟩ : ∃ Z, canon 1 = Z := ⟨_, rfl⟩
          rw [hXX, hUU, hOO] at HA
          rw [hOO] at HO
          have HXc := Lib.hid hXX
          have HUc := Lib.hid hUU
          clear hxe hue Hst hsz2 hXX hUU hOO
          have hd : Below X.heap.size X X.drew := (Below.refl X.heap.size X).drew
          refine wp_region_held_drew (S := SS) (by kernel_rfl) (HS.out _ hd) (fun hSS => ?_)
          refine wpAnyH_take (i := 0) (v := ?_) rfl (by kernel_rfl) (by kernel_rfl) (by kernel_rfl) (fun _ _ _ h => h) (Or.inl ⟨by rfl, ?_⟩) (HS.out _ hd) ?_
          rotate_left 1
          next => intro w hSw; rw [hSe] at hSw; obtain ⟨s1, s2, s3⟩ := hSw; go_simp; try with_reducible rfl
          try simp only [Act.put, List.getElem_toArray, List.getElem_cons_zero, List.getElem_cons_succ, List.setIfInBounds_toArray, List.set_cons_zero, List.set_cons_succ]
          refine wpAnyH_take (i := 1) (v := ?_) rfl (by kernel_rfl) (by kernel_rfl) (by kernel_rfl) (fun _ _ _ h => h) (Or.inl ⟨by rfl, ?_⟩) (HS.out _ hd) ?_
          rotate_left 1
          next => intro w hSw; rw [hSe] at hSw; obtain ⟨s1, s2, s3⟩ := hSw; go_simp; try with_reducible rfl
          try simp only [Act.put, List.getElem_toArray, List.getElem_cons_zero, List.getElem_cons_succ, List.setIfInBounds_toArray, List.set_cons_zero, List.set_cons_succ]
          refine wpAnyH_take (i := 2) (v := ?_) rfl (by kernel_rfl) (by kernel_rfl) (by kernel_rfl) (fun _ _ _ h => h) (Or.inl ⟨by rfl, ?_⟩) (HS.out _ hd) ?_
          rotate_left 1
          next => intro w hSw; rw [hSe] at hSw; obtain ⟨s1, s2, s3⟩ := hSw; go_simp; try with_reducible rfl
          try simp only [Act.put, List.getElem_toArray, List.getElem_cons_zero, List.getElem_cons_succ, List.setIfInBounds_toArray, List.set_cons_zero, List.set_cons_succ]
          refine wpAnyH_take (i := 3) (v := ?_) rfl (by kernel_rfl) (by kernel_rfl) (by kernel_rfl) (fun _ _ _ h => h) (Or.inl ⟨by rfl, ?_⟩) (HS.out _ hd) ?_
          rotate_left 1
          next => intro w hSw; rw [hSe] at hSw; obtain ⟨s1, s2, s3⟩ := hSw; go_simp; try with_reducible rfl
          try simp only [Act.put, List.getElem_toArray, List.getElem_cons_zero, List.getElem_cons_succ, List.setIfInBounds_toArray, List.set_cons_zero, List.set_cons_succ]
          refine wpAnyH_take (i := 4) (v := ?_) rfl (by kernel_rfl) (by kernel_rfl) (by kernel_rfl) (fun _ _ _ h => h) (Or.inl ⟨by rfl, ?_⟩) (HS.out _ hd) ?_
          rotate_left 1
          next => intro w hSw; rw [hSe] at hSw; obtain ⟨s1, s2, s3⟩ := hSw; go_simp; try with_reducible rfl
          try simp only [Act.put, List.getElem_toArray, List.getElem_cons_zero, List.getElem_cons_succ, List.setIfInBounds_toArray, List.set_cons_zero, List.set_cons_succ]
          refine wpAnyH_take (i := 5) (v := ?_) rfl (by kernel_rfl) (by kernel_rfl) (by kernel_rfl) (fun _ _ _ h => h) (Or.inl ⟨by rfl, ?_⟩) (HS.out _ hd) ?_
          rotate_left 1
          next => intro w hSw; rw [hSe] at hSw; obtain ⟨s1, s2, s3⟩ := hSw; go_simp; try with_reducible rfl
          try simp only [Act.put, List.getElem_toArray, List.getElem_cons_zero, List.getElem_cons_succ, List.setIfInBounds_toArray, List.set_cons_zero, List.set_cons_succ]
          refine wpAnyH_take (i := 6) (v := ?_) rfl (by kernel_rfl) (by kernel_rfl) (by kernel_rfl) (fun _ _ _ h => h) (Or.inl ⟨by rfl, ?_⟩) (HS.out _ hd) ?_
          rotate_left 1
          next => intro w hSw; rw [hSe] at hSw; obtain ⟨s1, s2, s3⟩ := hSw; go_simp; try with_reducible rfl
          try simp only [Act.put, List.getElem_toArray, List.getElem_cons_zero, List.getElem_cons_succ, List.setIfInBounds_toArray, List.set_cons_zero, List.set_cons_succ]
          refine wpAnyH_take (i := 7) (v := ?_) rfl (by kernel_rfl) (by kernel_rfl) (by kernel_rfl) (fun _ _ _ h => h) (Or.inl ⟨by rfl, ?_⟩) (HS.out _ hd) ?_
          rotate_left 1
          next => intro w hSw; rw [hSe] at hSw; obtain ⟨s1, s2, s3⟩ := hSw; go_simp; try with_reducible rfl
          try simp only [Act.put, List.getElem_toArray, List.getElem_cons_zero, List.getElem_cons_succ, List.setIfInBounds_toArray, List.set_cons_zero, List.set_cons_succ]
          refine wpAnyH_take (i := 8) (v := ?_) rfl (by kernel_rfl) (by kernel_rfl) (by kernel_rfl) (fun _ _ _ h => h) (Or.inl ⟨by rfl, ?_⟩) (HS.out _ hd) ?_
          rotate_left 1
          next => intro w hSw; rw [hSe] at hSw; obtain ⟨s1, s2, s3⟩ := hSw; go_simp; try with_reducible rfl
          try simp only [Act.put, List.getElem_toArray, List.getElem_cons_zero, List.getElem_cons_succ, List.setIfInBounds_toArray, List.set_cons_zero, List.set_cons_succ]
          refine wpAnyH_take (i := 9) (v := ?_) rfl (by kernel_rfl) (by kernel_rfl) (by kernel_rfl) (fun _ _ _ h => h) (Or.inl ⟨by rfl, ?_⟩) (HS.out _ hd) ?_
          rotate_left 1
          next => intro w hSw; rw [hSe] at hSw; obtain ⟨s1, s2, s3⟩ := hSw; go_simp; try with_reducible rfl
          try simp only [Act.put, List.getElem_toArray, List.getElem_cons_zero, List.getElem_cons_succ, List.setIfInBounds_toArray, List.set_cons_zero, List.set_cons_succ]
          refine wpAnyH_take (i := 10) (v := ?_) rfl (by kernel_rfl) (by kernel_rfl) (by kernel_rfl) (fun _ _ _ h => h) (Or.inl ⟨by rfl, ?_⟩) (HS.out _ hd) ?_
          rotate_left 1
          next => intro w hSw; rw [hSe] at hSw; obtain ⟨s1, s2, s3⟩ := hSw; go_simp; try with_reducible rfl
          try simp only [Act.put, List.getElem_toArray, List.getElem_cons_zero, List.getElem_cons_succ, List.setIfInBounds_toArray, List.set_cons_zero, List.set_cons_succ]
          refine wpAnyH_take (i := 11) (v := ?_) rfl (by kernel_rfl) (by kernel_rfl) (by kernel_rfl) (fun _ _ _ h => h) (Or.inl ⟨by rfl, ?_⟩) (HS.out _ hd) ?_
          rotate_left 1
          next => intro w hSw; rw [hSe] at hSw; obtain ⟨s1, s2, s3⟩ := hSw; go_simp; try with_reducible rfl
          try simp only [Act.put, List.getElem_toArray, List.getElem_cons_zero, List.getElem_cons_succ, List.setIfInBounds_toArray, List.set_cons_zero, List.set_cons_succ]
          refine wpAnyH_take (i := 12) (v := ?_) rfl (by kernel_rfl) (by kernel_rfl) (by kernel_rfl) (fun _ _ _ h => h) (Or.inl ⟨by rfl, ?_⟩) (HS.out _ hd) ?_
          rotate_left 1
          next => intro w hSw; rw [hSe] at hSw; obtain ⟨s1, s2, s3⟩ := hSw; go_simp; try with_reducible rfl
          try simp only [Act.put, List.getElem_toArray, List.getElem_cons_zero, List.getElem_cons_succ, List.setIfInBounds_toArray, List.set_cons_zero, List.set_cons_succ]
          refine wpAnyH_take (i := 13) (v := ?_) rfl (by kernel_rfl) (by kernel_rfl) (by kernel_rfl) (fun _ _ _ h => h) (Or.inl ⟨by rfl, ?_⟩) (HS.out _ hd) ?_
          rotate_left 1
          next => intro w hSw; rw [hSe] at hSw; obtain ⟨s1, s2, s3⟩ := hSw; go_simp; try with_reducible rfl
          try simp only [Act.put, List.getElem_toArray, List.getElem_cons_zero, List.getElem_cons_succ, List.setIfInBounds_toArray, List.set_cons_zero, List.set_cons_succ]
          refine wpAnyH_take (i := 14) (v := ?_) rfl (by kernel_rfl) (by kernel_rfl) (by kernel_rfl) (fun _ _ _ h => h) (Or.inl ⟨by rfl, ?_⟩) (HS.out _ hd) ?_
          rotate_left 1
          next => intro w hSw; rw [hSe] at hSw; obtain ⟨s1, s2, s3⟩ := hSw; go_simp; try with_reducible rfl
          try simp only [Act.put, List.getElem_toArray, List.getElem_cons_zero, List.getElem_cons_succ, List.setIfInBounds_toArray, List.set_cons_zero, List.set_cons_succ]
          try simp only [Act.put, List.getElem_toArray, List.getElem_cons_zero, List.getElem_cons_succ, List.setIfInBounds_toArray, List.set_cons_zero, List.set_cons_succ]
          refine wpAnyH_ready (rs := [15, 16]) (by kernel_rfl) (by simp) ?_
          refine AllReadyH.cons rfl (fun K hK => ?_) (AllReadyH.cons rfl (fun K hK => ?_) AllReadyH.nil)
          · obtain ⟨hg1, _⟩ := HXX.out _ hd
            obtain ⟨⟨z0, z1⟩, z2, z3⟩ := (hg1.row s hsN).1.z.2 t htN
            rw [Hxe.out, HXc.out] at z0 z1
            go_simp
            refine hK.out _ _ (HS.out _ hd) (fun _ => ?_)
            clear hK K z0 z1 z2 z3 hg1
            try simp only [Act.put, List.getElem_toArray, List.getElem_cons_zero, List.getElem_cons_succ, List.setIfInBounds_toArray, List.set_cons_zero, List.set_cons_succ]
            refine wpAnyH_ready (rs := [16]) (by kernel_rfl) (by simp) ?_
            refine AllReadyH.cons rfl (fun K hK => ?_) AllReadyH.nil
            go_simp
            refine (HO.out _).mono ?_
            rintro e w2 ⟨rfl, hbc⟩
            have hb2 : Below X.heap.size X w2 := hd.trans (hbc.mono hd.size)
            dsimp only
            refine hK.out _ _ (HS.out _ hb2) (fun _ => ?_)
            clear hK K hbc
            try simp only [Act.put, List.getElem_toArray, List.getElem_cons_zero, List.getElem_cons_succ, List.setIfInBounds_toArray, List.set_cons_zero, List.set_cons_succ]
            refine wpAnyH_ready (rs := [17]) (by kernel_rfl) (by simp) ?_
            refine AllReadyH.cons rfl (fun K hK => ?_) AllReadyH.nil
            go_simp
            refine (HA.out _).mono ?_
            rintro e w3 ⟨rfl, hbc⟩
            have hb3 : Below X.heap.size X w3 := hb2.trans (hbc.mono hb2.size)
            dsimp only
            refine hK.out _ _ (HS.out _ hb3) (fun _ => ?_)
            clear hK K hbc
            refine wpAnyH_take (i := 18) (v := ?_) rfl (by kernel_rfl) (by kernel_rfl) (by kernel_rfl) (fun _ _ _ h => h) (Or.inl ⟨by rfl, ?_⟩) (HS.out _ hb3) ?_
            rotate_left 1
            next => intro w hSw; rw [hSe] at hSw; obtain ⟨s1, s2, s3⟩ := hSw; go_simp; try with_reducible rfl
            try simp only [Act.put, List.getElem_toArray, List.getElem_cons_zero, List.getElem_cons_succ, List.setIfInBounds_toArray, List.set_cons_zero, List.set_cons_succ]
            try simp only [Act.put, List.getElem_toArray, List.getElem_cons_zero, List.getElem_cons_succ, List.setIfInBounds_toArray, List.set_cons_zero, List.set_cons_succ]
            refine wpAnyH_ready (rs := [19]) (by kernel_rfl) (by simp) ?_
            refine AllReadyH.cons rfl (fun K hK => ?_) AllReadyH.nil
            obtain ⟨hg1, hb2⟩ := HXX.out _ hb3
            obtain ⟨⟨z0, z1⟩, z2, z3⟩ := (hg1.row s hsN).1.z.2 t htN
            have hst := hg1.set hsN t u
            rw [HUc.out] at hst
            have hss := HS.out _ hb3
            have hs2 : SS ((w3.setCell ⟨A s, t * 2, none⟩ (.bool UU.neg)).setCell ⟨A s, t * 2 + 1, none⟩ (.string UU.mag)) := by
              rw [hSe] at hss ⊢
              obtain ⟨s1, s2, s3⟩ := hss
              refine ⟨?_, ?_, ?_⟩ <;> (rw [World.cell?_setCell_other _ _ _ _ (by intro hh; simp only [Addr.mk.injEq] at hh; omega), World.cell?_setCell_other _ _ _ _ (by intro hh; simp only [Addr.mk.injEq] at hh; omega)]; assumption)
            have F1 := Lib.hid (hst.congr fun a b _ _ => Hst2.out a b)
            have F2 := Lib.hid ((hb2.setCell (p := ⟨A s, t * 2, none⟩) (show W1.heap.size ≤ A s by omega) (.bool UU.neg)).setCell (p := ⟨A s, t * 2 + 1, none⟩) (show W1.heap.size ≤ A s by omega) (.string UU.mag))
            go_simp
            refine hK.out _ _ hs2 (fun _ => ?_)
            clear hK K z0 z1 z2 z3 hss hs2 hg1 hb2 hst
            refine wpAnyH_done (by kernel_rfl) ?_ _
            go_wp2_with fail
            go_roundw
            case rel => exact ⟨k + 1, by omega, by go_num, F1, F2⟩
            case measure => simp [intOf]; omega
          · go_simp
            refine (HO.out _).mono ?_
            rintro e w4 ⟨rfl, hbc⟩
            have hb4 : Below X.heap.size X w4 := hd.trans (hbc.mono hd.size)
            dsimp only
            refine hK.out _ _ (HS.out _ hb4) (fun _ => ?_)
            clear hK K hbc
            try simp only [Act.put, List.getElem_toArray, List.getElem_cons_zero, List.getElem_cons_succ, List.setIfInBounds_toArray, List.set_cons_zero, List.set_cons_succ]
            refine wpAnyH_ready (rs := [15]) (by kernel_rfl) (by simp) ?_
            refine AllReadyH.cons rfl (fun K hK => ?_) AllReadyH.nil
            obtain ⟨hg1, _⟩ := HXX.out _ hb4
            obtain ⟨⟨z0, z1⟩, z2, z3⟩ := (hg1.row s hsN).1.z.2 t htN
            rw [Hxe.out, HXc.out] at z0 z1
            go_simp
            refine hK.out _ _ (HS.out _ hb4) (fun _ => ?_)
            clear hK K z0 z1 z2 z3 hg1
            try simp only [Act.put, List.getElem_toArray, List.getElem_cons_zero, List.getElem_cons_succ, List.setIfInBounds_toArray, List.set_cons_zero, List.set_cons_succ]
            refine wpAnyH_ready (rs := [17]) (by kernel_rfl) (by simp) ?_
            refine AllReadyH.cons rfl (fun K hK => ?_) AllReadyH.nil
            go_simp
            refine (HA.out _).mono ?_
            rintro e w5 ⟨rfl, hbc⟩
            have hb5 : Below X.heap.size X w5 := hb4.trans (hbc.mono hb4.size)
            dsimp only
            refine hK.out _ _ (HS.out _ hb5) (fun _ => ?_)
            clear hK K hbc
            refine wpAnyH_take (i := 18) (v := ?_) rfl (by kernel_rfl) (by kernel_rfl) (by kernel_rfl) (fun _ _ _ h => h) (Or.inl ⟨by rfl, ?_⟩) (HS.out _ hb5) ?_
            rotate_left 1
            next => intro w hSw; rw [hSe] at hSw; obtain ⟨s1, s2, s3⟩ := hSw; go_simp; try with_reducible rfl
            try simp only [Act.put, List.getElem_toArray, List.getElem_cons_zero, List.getElem_cons_succ, List.setIfInBounds_toArray, List.set_cons_zero, List.set_cons_succ]
            try simp only [Act.put, List.getElem_toArray, List.getElem_cons_zero, List.getElem_cons_succ, List.setIfInBounds_toArray, List.set_cons_zero, List.set_cons_succ]
            refine wpAnyH_ready (rs := [19]) (by kernel_rfl) (by simp) ?_
            refine AllReadyH.cons rfl (fun K hK => ?_) AllReadyH.nil
            obtain ⟨hg1, hb2⟩ := HXX.out _ hb5
            obtain ⟨⟨z0, z1⟩, z2, z3⟩ := (hg1.row s hsN).1.z.2 t htN
            have hst := hg1.set hsN t u
            rw [HUc.out] at hst
            have hss := HS.out _ hb5
            have hs2 : SS ((w5.setCell ⟨A s, t * 2, none⟩ (.bool UU.neg)).setCell ⟨A s, t * 2 + 1, none⟩ (.string UU.mag)) := by
              rw [hSe] at hss ⊢
              obtain ⟨s1, s2, s3⟩ := hss
              refine ⟨?_, ?_, ?_⟩ <;> (rw [World.cell?_setCell_other _ _ _ _ (by intro hh; simp only [Addr.mk.injEq] at hh; omega), World.cell?_setCell_other _ _ _ _ (by intro hh; simp only [Addr.mk.injEq] at hh; omega)]; assumption)
            have F1 := Lib.hid (hst.congr fun a b _ _ => Hst2.out a b)
            have F2 := Lib.hid ((hb2.setCell (p := ⟨A s, t * 2, none⟩) (show W1.heap.size ≤ A s by omega) (.bool UU.neg)).setCell (p := ⟨A s, t * 2 + 1, none⟩) (show W1.heap.size ≤ A s by omega) (.string UU.mag))
            go_simp
            refine hK.out _ _ hs2 (fun _ => ?_)
            clear hK K z0 z1 z2 z3 hss hs2 hg1 hb2 hst
            refine wpAnyH_done (by kernel_rfl) ?_ _
            go_wp2_with fail
            go_roundw
            case rel => exact ⟨k + 1, by omega, by go_num, F1, F2⟩
            case measure => simp [intOf]; omega
        · have k1 : ¬ (k : Int) < (n : Int) := by omega
          have hkn : k = n := by omega
          rw [hkn] at HG
          have HAd := Lib.hid (HAj.out wr _ N HG.out.mat)
          have Hb3 := Lib.hid Hb.out
          clear hkn HG Hb HAj HEd HO1
          go_wp2_with fail
          refine HAd.out.mono ?_
          rintro e Y ⟨hb, hr⟩
          rcases hr with ⟨_, q1, k1, rfl, hM⟩ | ⟨hh, _⟩
          rotate_left 1
          · exact absurd rfl hh
          dsimp only
          have hbY := Hb3.out.trans (hb.mono Hb3.out.size)
          obtain ⟨⟨_, z0, z1, z2⟩, _, _⟩ := HBb.out _ hbY
          have hmk := make_zs N (by omega) Y
          have Hrow : Hid (RowT (Y.alloc (.cells (madeCells #[.bool false, .string ⟨#[]⟩] (N * 2)) 28)) Y.heap.size N (fun s => if s < 0 then rfX N n m E s else 0)) := Lib.hid (RowT.of_made.congr fun s _ => (if_neg (by omega)).symm)
          have Hal : Hid (Below Y.heap.size Y (Y.alloc (.cells (madeCells #[.bool false, .string ⟨#[]⟩] (N * 2)) 28))) := Lib.hid ((Below.refl _ _).alloc (Nat.le_refl _) _)
          have HM := Lib.hid hM
          have HbY := Lib.hid hbY
          clear hb hM hbY HAd Hb3
          go_wp2_with fail
          clear hmk z0 z1 z2
          obtain ⟨go, hgo⟩ : ∃ g, Y.heap.size = g := ⟨_, rfl⟩
          rw [hgo] at Hrow Hal ⊢
          have Hgo := Lib.hid hgo
          generalize Y.alloc (.cells (madeCells #[.bool false, .string ⟨#[]⟩] (N * 2)) 28) = V3 at *
          clear hgo
          obtain ⟨ab, ao, rfl, hpl, H, hH, hR⟩ := HM.out.cells h0
          have HMc : Hid (∀ W, Below go Y W → ∀ i, i < N → W.cell? ⟨ab, ao + i, none⟩ = some (.slice (H i).1 N (H i).2) ∧ RowF W (H i).1 N (adjL N (mIA m (adjE E n)) i)) := Lib.hid (fun W hW i hi => by
            have hW2 : Below Y.heap.size Y W := by rw [Hgo.out]; exact hW
            exact ⟨cell_below hW2 (hH i hi), (hR i hi).below (Nat.le_refl _) hW2⟩)
          have HMb : Hid (∀ i, i < N → ∀ b, (H i).1 = some b → b.block < go) := Lib.hid (fun i hi b hb => by
            obtain ⟨rb, ro, he, hl, _⟩ := RowF.cells (hR i hi) h0
            rw [he] at hb
            cases hb
            rw [← Hgo.out]
            exact hl)
          clear hH hR hpl HM
          go_loopw [93] (fun iv wr => ∃ i : Nat, i ≤ N ∧ iv = .int .i64 (i : Nat) ∧ Hid (RowT wr go N (fun s => if s < i then rfX N n m E s else 0)) ∧ Hid (Below go Y wr)) (fun iv _ => N - (intOf iv).toNat)
          case atStart => exact ⟨0, by omega, by go_num, Hrow, Hal⟩
          case round =>
            clear Hrow Hal
            obtain ⟨i, hi, rfl, Hrow, Hal⟩ := hrel
            by_cases hil : i < N
            · have i3 : (i : Int) < (N : Int) := by omega
              have i4 : (0 : Int) ≤ (i : Int) := by omega
              obtain ⟨d0, hrw⟩ := HMc.out _ Hal.out i hil
              have hb0 := HMb.out i hil
              obtain ⟨hp, hhp⟩ : ∃ h, (H i).1 = h := ⟨_, rfl⟩
              obtain ⟨hc, hhc⟩ : ∃ h, (H i).2 = h := ⟨_, rfl⟩
              rw [hhp] at d0 hrw hb0
              rw [hhc] at d0
              have HRw : Hid (∀ W, Below go Y W → RowF W hp N (adjL N (mIA m (adjE E n)) i)) := Lib.hid (fun W hW => by rw [← hhp]; exact (HMc.out W hW i hil).2)
              obtain ⟨rb, ro, rfl, _, _⟩ := RowF.cells hrw hil
              have hrb : rb < go := hb0 _ rfl
              have Hrow0 : Hid (RowT wr go N (fun s => if s < i then rfX N n m E s else if s = i then dotN (fun j => adjL N (mIA m (adjE E n)) i j) 0 else 0)) := Lib.hid (Hrow.out.congr fun s _ => by
                by_cases e : s < i
                · rw [if_pos e, if_pos e]
                · rw [if_neg e, if_neg e]; split <;> rfl)
              have Hal0 : Hid (Below go Y wr) := Lib.hid Hal.out
              clear hrw hb0 hhp hhc Hrow Hal
              go_wp2_with fail
              clear d0
              go_loopw [100] (fun jv wr => ∃ j : Nat, j ≤ N ∧ jv = .int .i64 (j : Nat) ∧ Hid (RowT wr go N (fun s => if s < i then rfX N n m E s else if s = i then dotN (fun j => adjL N (mIA m (adjE E n)) i j) j else 0)) ∧ Hid (Below go Y wr)) (fun jv _ => N - (intOf jv).toNat)
              case atStart => exact ⟨0, by omega, by go_num, Hrow0, Hal0⟩
              case round =>
                clear Hrow0 Hal0
                obtain ⟨j, hj, rfl, Hrow, Hal⟩ := hrel
                by_cases hjl : j < N
                · have j3 : (j : Int) < (N : Int) := by omega
                  have j4 : (0 : Int) ≤ (j : Int) := by omega
                  obtain ⟨rb', ro', he, _, hrc⟩ := RowF.cells (HRw.out _ Hal.out) hjl
                  cases he
                  obtain ⟨d0, d1⟩ := hrc j hjl
                  have hs1 : Bn (dotN (fun j => adjL N (mIA m (adjE E n)) i j) j) 1029 := Bn.dot (e := 1024) (m := 5) j (by omega) fun l hl => Hba.out i l hil (by omega)
                  have hs2 := Hba.out i j hil hjl
                  have Hnx : Hid (∀ s, (if s = i then dotN (fun j => adjL N (mIA m (adjE E n)) i j) j + adjL N (mIA m (adjE E n)) i j else if s < i then rfX N n m E s else if s = i then dotN (fun j => adjL N (mIA m (adjE E n)) i j) j else 0) = if s < i then rfX N n m E s else if s = i then dotN (fun j => adjL N (mIA m (adjE E n)) i j) (j + 1) else 0) := Lib.hid (fun s => by
                    by_cases e : s = i
                    · rw [if_pos e, if_neg (by omega), if_pos e]; rfl
                    · rw [if_neg e]
                      by_cases e2 : s < i
                      · rw [if_pos e2, if_pos e2]
                      · rw [if_neg e2, if_neg e, if_neg e2, if_neg e])
                  have HX0 : Hid ((if i < i then rfX N n m E i else if i = i then dotN (fun j => adjL N (mIA m (adjE E n)) i j) j else 0) = dotN (fun j => adjL N (mIA m (adjE E n)) i j) j) := Lib.hid (by rw [if_neg (Nat.lt_irrefl i), if_pos rfl])
                  have HA := Lib.hid (fun W => addc_any (dotN (fun j => adjL N (mIA m (adjE E n)) i j) j) (adjL N (mIA m (adjE E n)) i j) (hs1.size _ (by omega)) (hs2.size _ (by omega)) W)
                  obtain ⟨y, hy⟩ : ∃ y, adjL N (mIA m (adjE E n)) i j = y := ⟨_, rfl⟩
                  obtain ⟨x, hx⟩ : ∃ y, dotN (fun j => adjL N (mIA m (adjE E n)) i j) j = y := ⟨_, rfl⟩
                  rw [hy] at d0 d1
                  rw [hx, hy] at HA
                  have HX1 : Hid ((if i < i then rfX N n m E i else if i = i then dotN (fun j => adjL N (mIA m (adjE E n)) i j) j else 0) = x) := Lib.hid (HX0.out.trans hx)
                  obtain ⟨u, hu⟩ : ∃ u, x + y = u := ⟨_, rfl⟩
                  have HNX : Hid (∀ s, (if s = i then u else if s < i then rfX N n m E s else if s = i then dotN (fun j => adjL N (mIA m (adjE E n)) i j) j else 0) = if s < i then rfX N n m E s else if s = i then dotN (fun j => adjL N (mIA m (adjE E n)) i j) (j + 1) else 0) := Lib.hid (fun s => by rw [← Hnx.out s, ← hu, ← hx, ← hy])
                  rw [hu] at HA
                  obtain ⟨XX, hXX⟩ : ∃ Z, canon x = Z := ⟨_, rfl⟩
                  obtain ⟨YY, hYY⟩ : ∃ Z, canon y = Z := ⟨_, rfl⟩
                  obtain ⟨UU, hUU⟩ : ∃ Z, canon u = Z := ⟨_, rfl⟩
                  rw [hXX, hYY, hUU] at HA
                  rw [hYY] at d0 d1
                  have HXc := Lib.hid hXX
                  have HUc := Lib.hid hUU
                  have hgw : go < wr.heap.size := Hrow.out.z.1
                  clear hrc hs1 hs2 Hnx HX0 hx hy hu hXX hYY hUU
                  go_upto_region 30 with (fail)
                  clear d0 d1
                  have hal := (Below.refl wr.heap.size wr).alloc (Nat.le_refl _) (.cells #[.bool YY.neg, .string YY.mag] 28)
                  have hbx := BoxAt.new wr (.bool YY.neg) (.string YY.mag) 28
                  have hr2 := Hrow.out.kept (hal.block _ hgw)
                  have hb2 := Hal.out.trans (hal.mono (Nat.le_of_lt hgw))
                  obtain ⟨gb, hgb⟩ : ∃ g, wr.heap.size = g := ⟨_, rfl⟩
                  rw [hgb] at hbx hgw ⊢
                  clear hgb hal Hrow Hal
                  generalize wr.alloc (.cells #[.bool YY.neg, .string YY.mag] 28) = X at *
                  have HXX : Hid (∀ W, Below X.heap.size X W → RowT W go N (fun s => if s < i then rfX N n m E s else if s = i then dotN (fun j => adjL N (mIA m (adjE E n)) i j) j else 0) ∧ Below go Y W) := Lib.hid (fun W hW => ⟨hr2.kept (hW.block _ hr2.z.1), hb2.trans (hW.mono (Nat.le_of_lt hr2.z.1))⟩)
                  obtain ⟨SS, hSe⟩ : ∃ SS : World → Prop, SS = fun W => W.cell? ⟨gb, 0, none⟩ = some (.bool YY.neg) ∧ W.cell? ⟨gb, 1, none⟩ = some (.string YY.mag) := ⟨_, rfl⟩
                  have HS : Hid (∀ W, Below X.heap.size X W → SS W) := Lib.hid (fun W hW => by
                    have b := hbx.below hW hbx.2.2.2.2
                    rw [hSe]; exact ⟨b.1, b.2.1⟩)
                  have hd : Below X.heap.size X X.drew := (Below.refl _ _).drew
                  clear hbx hr2 hb2
                  refine wp_region_held_drew (S := SS) (by kernel_rfl) (HS.out _ hd) (fun hSS => ?_)
                  refine wpAnyH_take (i := 0) (v := ?_) rfl (by kernel_rfl) (by kernel_rfl) (by kernel_rfl) (fun _ _ _ h => h) (Or.inl ⟨by rfl, ?_⟩) (HS.out _ hd) ?_
                  rotate_left 1
                  next => intro w hSw; rw [hSe] at hSw; obtain ⟨s1, s2⟩ := hSw; go_simp; try with_reducible rfl
                  try simp only [Act.put, List.getElem_toArray, List.getElem_cons_zero, List.getElem_cons_succ, List.setIfInBounds_toArray, List.set_cons_zero, List.set_cons_succ]
                  refine wpAnyH_take (i := 1) (v := ?_) rfl (by kernel_rfl) (by kernel_rfl) (by kernel_rfl) (fun _ _ _ h => h) (Or.inl ⟨by rfl, ?_⟩) (HS.out _ hd) ?_
                  rotate_left 1
                  next => intro w hSw; rw [hSe] at hSw; obtain ⟨s1, s2⟩ := hSw; go_simp; try with_reducible rfl
                  try simp only [Act.put, List.getElem_toArray, List.getElem_cons_zero, List.getElem_cons_succ, List.setIfInBounds_toArray, List.set_cons_zero, List.set_cons_succ]
                  refine wpAnyH_take (i := 2) (v := ?_) rfl (by kernel_rfl) (by kernel_rfl) (by kernel_rfl) (fun _ _ _ h => h) (Or.inl ⟨by rfl, ?_⟩) (HS.out _ hd) ?_
                  rotate_left 1
                  next => intro w hSw; rw [hSe] at hSw; obtain ⟨s1, s2⟩ := hSw; go_simp; try with_reducible rfl
                  try simp only [Act.put, List.getElem_toArray, List.getElem_cons_zero, List.getElem_cons_succ, List.setIfInBounds_toArray, List.set_cons_zero, List.set_cons_succ]
                  refine wpAnyH_take (i := 3) (v := ?_) rfl (by kernel_rfl) (by kernel_rfl) (by kernel_rfl) (fun _ _ _ h => h) (Or.inl ⟨by rfl, ?_⟩) (HS.out _ hd) ?_
                  rotate_left 1
                  next => intro w hSw; rw [hSe] at hSw; obtain ⟨s1, s2⟩ := hSw; go_simp; try with_reducible rfl
                  try simp only [Act.put, List.getElem_toArray, List.getElem_cons_zero, List.getElem_cons_succ, List.setIfInBounds_toArray, List.set_cons_zero, List.set_cons_succ]
                  refine wpAnyH_take (i := 4) (v := ?_) rfl (by kernel_rfl) (by kernel_rfl) (by kernel_rfl) (fun _ _ _ h => h) (Or.inl ⟨by rfl, ?_⟩) (HS.out _ hd) ?_
                  rotate_left 1
                  next => intro w hSw; rw [hSe] at hSw; obtain ⟨s1, s2⟩ := hSw; go_simp; try with_reducible rfl
                  try simp only [Act.put, List.getElem_toArray, List.getElem_cons_zero, List.getElem_cons_succ, List.setIfInBounds_toArray, List.set_cons_zero, List.set_cons_succ]
                  refine wpAnyH_take (i := 6) (v := ?_) rfl (by kernel_rfl) (by kernel_rfl) (by kernel_rfl) (fun _ _ _ h => h) (Or.inl ⟨by rfl, ?_⟩) (HS.out _ hd) ?_
                  rotate_left 1
                  next => intro w hSw; rw [hSe] at hSw; obtain ⟨s1, s2⟩ := hSw; go_simp; try with_reducible rfl
                  try simp only [Act.put, List.getElem_toArray, List.getElem_cons_zero, List.getElem_cons_succ, List.setIfInBounds_toArray, List.set_cons_zero, List.set_cons_succ]
                  try simp only [Act.put, List.getElem_toArray, List.getElem_cons_zero, List.getElem_cons_succ, List.setIfInBounds_toArray, List.set_cons_zero, List.set_cons_succ]
                  refine wpAnyH_ready (rs := [5]) (by kernel_rfl) (by simp) ?_
                  refine AllReadyH.cons rfl (fun K hK => ?_) AllReadyH.nil
                  obtain ⟨hg1, _⟩ := HXX.out _ hd
                  obtain ⟨⟨z0, z1⟩, z2, z3⟩ := hg1.z.2 i hil
                  dsimp only at z0 z1
                  rw [HX1.out, HXc.out] at z0 z1
                  go_simp
                  refine hK.out _ _ (HS.out _ hd) (fun _ => ?_)
                  clear hK K z0 z1 z2 z3 hg1
                  try simp only [Act.put, List.getElem_toArray, List.getElem_cons_zero, List.getElem_cons_succ, List.setIfInBounds_toArray, List.set_cons_zero, List.set_cons_succ]
                  refine wpAnyH_ready (rs := [7]) (by kernel_rfl) (by simp) ?_
                  refine AllReadyH.cons rfl (fun K hK => ?_) AllReadyH.nil
                  go_simp
                  refine (HA.out _).mono ?_
                  rintro e w6 ⟨rfl, hbc⟩
                  have hb6 : Below X.heap.size X w6 := hd.trans (hbc.mono hd.size)
                  dsimp only
                  refine hK.out _ _ (HS.out _ hb6) (fun _ => ?_)
                  clear hK K hbc
                  refine wpAnyH_take (i := 8) (v := ?_) rfl (by kernel_rfl) (by kernel_rfl) (by kernel_rfl) (fun _ _ _ h => h) (Or.inl ⟨by rfl, ?_⟩) (HS.out _ hb6) ?_
                  rotate_left 1
                  next => intro w hSw; rw [hSe] at hSw; obtain ⟨s1, s2⟩ := hSw; go_simp; try with_reducible rfl
                  try simp only [Act.put, List.getElem_toArray, List.getElem_cons_zero, List.getElem_cons_succ, List.setIfInBounds_toArray, List.set_cons_zero, List.set_cons_succ]
                  try simp only [Act.put, List.getElem_toArray, List.getElem_cons_zero, List.getElem_cons_succ, List.setIfInBounds_toArray, List.set_cons_zero, List.set_cons_succ]
                  refine wpAnyH_ready (rs := [9]) (by kernel_rfl) (by simp) ?_
                  refine AllReadyH.cons rfl (fun K hK => ?_) AllReadyH.nil
                  obtain ⟨hg1, hb2⟩ := HXX.out _ hb6
                  obtain ⟨⟨z0, z1⟩, z2, z3⟩ := hg1.z.2 i hil
                  have hst := hg1.set i u
                  rw [HUc.out] at hst
                  have hss := HS.out _ hb6
                  have hs2 : SS ((w6.setCell ⟨go, i * 2, none⟩ (.bool UU.neg)).setCell ⟨go, i * 2 + 1, none⟩ (.string UU.mag)) := by
                    rw [hSe] at hss ⊢
                    obtain ⟨s1, s2⟩ := hss
                    refine ⟨?_, ?_⟩ <;> (rw [World.cell?_setCell_other _ _ _ _ (by intro hh; simp only [Addr.mk.injEq] at hh; omega), World.cell?_setCell_other _ _ _ _ (by intro hh; simp only [Addr.mk.injEq] at hh; omega)]; assumption)
                  have F1 := Lib.hid (hst.congr fun s _ => HNX.out s)
                  have F2 := Lib.hid ((hb2.setCell (p := ⟨go, i * 2, none⟩) (Nat.le_refl _) (.bool UU.neg)).setCell (p := ⟨go, i * 2 + 1, none⟩) (Nat.le_refl _) (.string UU.mag))
                  go_simp
                  refine hK.out _ _ hs2 (fun _ => ?_)
                  clear hK K z0 z1 z2 z3 hss hs2 hg1 hb2 hst
                  refine wpAnyH_done (by kernel_rfl) ?_ _
                  go_wp2_with fail
                  go_roundw
                  case rel => exact ⟨j + 1, by omega, by go_num, F1, F2⟩
                  case measure => simp [intOf]; omega
                · have j3 : ¬ (j : Int) < (N : Int) := by omega
                  have hje : j = N := by omega
                  rw [hje] at Hrow
                  have Hrow2 : Hid (RowT wr go N (fun s => if s < i + 1 then rfX N n m E s else 0)) := Lib.hid (Hrow.out.congr fun s _ => by
                    by_cases e : s < i
                    · rw [if_pos e, if_pos (by omega)]
                    · rw [if_neg e]
                      by_cases e2 : s = i
                      · rw [if_pos e2, if_pos (by omega), e2]; rfl
                      · rw [if_neg e2, if_neg (by omega)])
                  clear hje Hrow
                  go_wp2_with fail
                  go_roundw
                  case rel => exact ⟨i + 1, by omega, by go_num, Hrow2, Hal⟩
                  case measure => simp [intOf]; omega
            · have i3 : ¬ (i : Int) < (N : Int) := by omega
              have hie : i = N := by omega
              rw [hie] at Hrow
              have Hrow2 : Hid (RowT wr go N (rfX N n m E)) := Lib.hid (Hrow.out.congr fun s hs => if_pos hs)
              have hbw : Below W1.heap.size W1 wr := HbY.out.trans (Hal.out.mono (by rw [← Hgo.out]; exact HbY.out.size))
              obtain ⟨⟨_, z0, z1, z2⟩, _, hbw0⟩ := HBb.out _ hbw
              have HRef := Lib.hid (HRf.out wr _ N hbw0 Hrow2.out.z.row)
              have Hbw := Lib.hid hbw
              obtain ⟨rb, hrb⟩ : ∃ b, rfsB (frE E) (toE E) n N m (rfX N n m E) = b := ⟨_, rfl⟩
              rw [hrb] at HRef
              have HRB := Lib.hid hrb
              clear hie Hrow hbw hbw0 HRf hrb
              go_wp2_with fail
              refine HRef.out.mono ?_
              rintro e w9 ⟨rfl, hb9⟩
              dsimp only
              have HB9 := Lib.hid (HBb.out _ (Hbw.out.trans (hb9.mono Hbw.out.size))).2.1
              rw [← Hg0.out] at HB9
              have Hrow9 := Lib.hid (Hrow2.out.kept (hb9.block _ Hrow2.out.z.1)).z.row
              clear hb9 HRef z0 z1 z2 Hbw Hrow2
              cases rb
              · go_wp2
                go_ret2
                exact ⟨HB9.out, .inr ⟨HRB.out, rfl⟩⟩
              · go_wp2
                go_ret2
                exact ⟨HB9.out, .inl ⟨HRB.out, _, rfl, Hrow9.out⟩⟩
end Go.Proofs.Ytlaoijfphkhchaa
