/- append in a region that draws its order; append of ints that lie somewhere. grooveref23.greatest. -/
import Derived.Deep.AppendLies
import Derived.Laws.AppendOwnNone
import Derived.Test.YtlaoijfphkhchaaGreatB17
import Derived.Test.YtlaoijfphkhchaaGreatB14
import Derived.Test.YtlaoijfphkhchaaGreatB35
namespace Go.Proofs.YtlaoijfphkhchaaGreat
open Go.RowKit

theorem step_append_z1 {ops : Array Oper} {o : Oper} {a : Act} {K : Act → World → Prop} {Q : Exit → Act → World → Prop} {w : World} {E : Prop} (hgd : o.guard = none) (s x : Operand)
    (ho : o.op = .call { callee := .builtin .append, args := #[s, x], argTypes := #[26, 26] })
    (base : Nat) (v : Value) (xs : List Int) (hs : a.eval s = v) (hown : OwnZ w base v xs) (g c : Nat) (y : Int) (hx : a.eval x = .slice (some ⟨g, 0, none⟩) 1 c)
    (h0 : w.cell? ⟨g, 0, none⟩ = some (.bool (canon y).neg)) (h1 : w.cell? ⟨g, 1, none⟩ = some (.string (canon y).mag)) (hn : xs.length < 1000000000) (hbase : base ≤ w.heap.size)
    (h : ∀ v' w', OwnZ w' base v' (xs ++ [y]) → w.grownBy w' v.ownBlock → K (a.put o.dst v') w') :
    if Region.wanted o (yielded ops a.tmps) = true then Oper.wp Tryz.prog o a w K Q else E := by
  obtain ⟨i0, hi, hzz⟩ := Option.map_eq_some_iff.1 zInfo
  simp only [Prod.mk.injEq] at hzz
  obtain ⟨hz0, hz1, hz2⟩ := hzz
  refine step_append_lies w hgd s x _ ho base 40 i0 (.agg #[.bool false, .string ⟨#[]⟩]) 2 24 Tryz.underlying26 hi hz0 hz1 hz2 rfl (by decide) v xs.length (zL xs) hs hown ⟨g, 0, none⟩ 1 c (zL [y]) hx rfl ?_ (zL_one [y]) (by decide) ?_ ?_ hbase _ rfl ?_
  · intro j u hj
    match j, hj with
    | 0, hj => simp [zL] at hj; subst hj; simpa [Addr.add] using h0
    | 1, hj => simp [zL] at hj; subst hj; simpa [Addr.add] using h1
  · unfold maxLen; omega
  · omega
  · intro g' cap w' h2 h3 _ _
    exact h _ w' (by unfold OwnZ; rw [List.length_append, zL_append]; exact h2) h3
theorem step_append_i1 {ops : Array Oper} {o : Oper} {a : Act} {K : Act → World → Prop} {Q : Exit → Act → World → Prop} {w : World} {E : Prop} (hgd : o.guard = none) (s x : Operand)
    (ho : o.op = .call { callee := .builtin .append, args := #[s, x], argTypes := #[25, 25] })
    (base : Nat) (v : Value) (xs : List Int) (hs : a.eval s = v) (hown : OwnInts w base v xs) (g c : Nat) (y : Int) (hx : a.eval x = .slice (some ⟨g, 0, none⟩) 1 c)
    (hc : w.cell? ⟨g, 0, none⟩ = some (.int .i64 y)) (hn : xs.length < 1000000000) (hbase : base ≤ w.heap.size)
    (h : ∀ g' cap w', OwnInts w' base (.slice (some ⟨g', 0, none⟩) (xs.length + 1) cap) (xs ++ [y]) → w.grownBy w' v.ownBlock → K (a.put o.dst (.slice (some ⟨g', 0, none⟩) (xs.length + 1) cap)) w') :
    if Region.wanted o (yielded ops a.tmps) = true then Oper.wp Tryz.prog o a w K Q else E := by
  obtain ⟨i0, hi, hz0, hz1, hz2⟩ := info_parts intInfo
  refine step_append_lies w hgd s x _ ho base 3 i0 (.int .i64 0) 1 8 Tryz.underlying25 hi hz0 hz1 hz2 rfl (by decide) v xs.length (xs.map (Value.int .i64)) hs hown ⟨g, 0, none⟩ 1 c [.int .i64 y] hx rfl ?_ ?_ (by decide) ?_ ?_ hbase _ rfl ?_
  · intro j u hj
    match j, hj with
    | 0, hj => simp at hj; subst hj; simpa [Addr.add] using hc
  · intro u hu; simp at hu; subst hu; rfl
  · unfold maxLen; omega
  · omega
  · intro g' cap w' h2 h3 _ _
    exact h g' cap w' (by unfold OwnInts; simpa using h2) h3
/-- append(out, ys...) of ints that lie somewhere, or of none. -/
theorem wpList_append_ints {ops : Array Oper} {rest : List Oper} {o : Oper} {a : Act} {Q : Exit → Act → World → Prop} {w : World} (hgd : o.guard = none) (s x : Operand)
    (ho : o.op = .call { callee := .builtin .append, args := #[s, x], argTypes := #[25, 25] })
    (base : Nat) (v : Value) (xs : List Int) (hs : a.eval s = v) (hown : OwnInts w base v xs) (p : Option Addr) (c m : Nat) (ys : List Int) (hm : ys.length = m) (hx : a.eval x = .slice p m c)
    (hy : IntsAt w p ys) (hp : p = none → c = 0) (hn : xs.length + ys.length < 1000000000) (hbase : base ≤ w.heap.size)
    (h : ∀ v' w', OwnInts w' base v' (xs ++ ys) → Below base w w' → wpList Tryz.prog ops Q rest (a.put o.dst v') w') : wpList Tryz.prog ops Q (o :: rest) a w := by
  obtain ⟨i0, hi, hz0, hz1, hz2⟩ := info_parts intInfo
  subst hm
  rcases hyp : p with _ | ad
  · have hc := hp hyp
    have hl : ys = [] := by
      rcases hy with h | ⟨b, off, he, _⟩
      · exact List.length_eq_zero_iff.1 h
      · rw [hyp] at he; cases he
    subst hl
    rw [hyp, hc] at hx
    refine wpList_append_own_none hgd s x _ ho base 3 i0 1 Tryz.underlying25 hi v xs.length (xs.map (Value.int .i64)) hs hown hx ?_
    exact h v w (by rw [List.append_nil]; exact hown) (Below.refl _ _)
  · rw [hyp] at hx
    refine wpList_append_own _ hgd s x _ ho base 3 i0 (.int .i64 0) 1 8 Tryz.underlying25 hi hz0 hz1 hz2 rfl (by decide) v xs.length (xs.map (Value.int .i64)) hs hown ad ys.length c (ys.map (Value.int .i64)) hx (by simp) ?_ ?_ ?_ ?_ hbase ?_
    · intro j u hj
      have hjl : j < ys.length := by
        have := (List.getElem?_eq_some_iff.1 hj).1
        simpa using this
      obtain ⟨b, off, he, _, hc⟩ := hy.cells hjl
      rw [hyp] at he
      obtain rfl := Option.some.inj he
      rw [Addr.add_lit, hc j hjl]
      simp [hjl] at hj
      rw [← hj, List.getD_eq_getElem?_getD, List.getElem?_eq_getElem hjl]; rfl
    · intro u hu
      obtain ⟨z, _, rfl⟩ := List.mem_map.1 hu
      rfl
    · unfold maxLen; omega
    · omega
    · intro v' w' h2 h3 _
      exact h v' w' (by unfold OwnInts; simpa using h2) (below_append (Below.refl _ _) hown h3 hbase (Nat.le_refl _))
end Go.Proofs.YtlaoijfphkhchaaGreat
namespace Go.Proofs.YtlaoijfphkhchaaGreat
open Go.RowKit Go.Shelf
theorem own_vec {w : World} {B n : Nat} {v : Value} {f : Nat → Int} (ho : OwnInts w B v (vecL f n)) : ∃ p cap, v = .slice p n cap ∧ VOwn w B p n f := by
  unfold OwnInts at ho
  rw [vecL_len] at ho
  rcases ho.2 with ⟨rfl, h⟩ | ⟨g, cap, cur, rfl, hg, hh, hnc, r⟩
  · have hn : n = 0 := by simpa [vecL] using h
    subst hn
    exact ⟨none, 0, rfl, .inl rfl⟩
  · refine ⟨_, cap, rfl, .inr ⟨g, rfl, hg, ⟨(Array.getElem?_eq_some_iff.1 hh).1, fun k hk => ⟨?_, ?_⟩⟩⟩⟩
    · have := ho.cells (g := g) rfl k (.int .i64 (f k)) (by simp [vecL, hk])
      rw [← this, Addr.add_lit]; simp
    · unfold World.frozen?; simp only [hh]; simp
theorem VOwn.set {w : World} {B g n k : Nat} {f : Nat → Int} (h : VOwn w B (some ⟨g, 0, none⟩) n f) (v : Int) : VOwn (w.setCell ⟨g, k, none⟩ (.int .i64 v)) B (some ⟨g, 0, none⟩) n (fun i => if i = k then v else f i) := by
  rcases h with h | ⟨b, he, hg, h⟩
  · exact .inl h
  · cases he
    exact .inr ⟨g, rfl, hg, h.set v⟩
set_option maxRecDepth 100000 in
set_option maxHeartbeats 8000000 in
theorem rgreatest_any (LL : Int) (N n m : Nat) (E : Nat → Nat → Int) (p : Option Addr) (c : Nat) (v : Nat → Int) (pv : Option Addr) (cv : Nat) (hN : N ≤ 1000000) (hn : n ≤ 1000000) (hm0 : 0 < m) (hm : m ≤ 256) (hok : EdOk N n E) (hv : ∀ s, s < N → 0 ≤ v s ∧ v s ≤ 1000000) (hpc : pv = none → cv = 0) (w : World) (hE : EdgAt w p n E) (hV : VRow w pv N v) :
    Calls Tryz.prog 26 #[.agg #[.int .i64 LL, .int .i64 (N : Int), .slice p n c], .slice pv N cv, .int .i64 (m : Int)] w (RetGr (frE E) (toE E) n N m v w) := by
  have ht : ∀ e, e < n → toE E e < N := fun e he => (edOk_nat hok e he).2.2.2
  obtain ⟨W0, hW0⟩ : ∃ W, w.alloc (.cells #[.int .i64 LL, .int .i64 (N : Int), .slice p n c] 24) = W := ⟨_, rfl⟩
  have hb0 : Below w.heap.size w W0 := by rw [← hW0]; exact (Below.refl _ _).alloc (Nat.le_refl _) _
  have hbx : BoxAt3 W0 w.heap.size (.int .i64 LL) (.int .i64 (N : Int)) (.slice p n c) := by rw [← hW0]; exact BoxAt3.new w _ _ _ _
  have hE0 : EdgAt W0 p n E := hE.mono (Nat.le_refl _) hb0
  have hV0 : VRow W0 pv N v := hV.below (Nat.le_refl _) hb0
  have hya : Below W0.heap.size W0 (W0.alloc (.cells #[] 3)) := (Below.refl _ _).alloc (Nat.le_refl _) _
  have hia : IntsAt (W0.alloc (.cells #[] 3)) pv (vecL v N) := (hV0.below (Nat.le_refl _) hya).ints
  have HB : Hid (∀ W, Below W0.heap.size W0 W → BoxAt3 W w.heap.size (.int .i64 LL) (.int .i64 (N : Int)) (.slice p n c) ∧ Below w.heap.size w W) := Lib.hid (fun W hW => ⟨hbx.below hW, hb0.trans (hW.mono hb0.size)⟩)
  have HSu := Lib.hid (show ∀ (W : World) (x : Nat → Int) (q : Option Addr) (cq : Nat), Below W0.heap.size W0 W → (∀ s, s < N → 0 ≤ x s ∧ x s ≤ v s) → VRow W q N x → Calls Tryz.prog 31 #[.agg #[.int .i64 LL, .int .i64 (N : Int), .slice p n c], .slice q N cq] W (RetVecB N (smE (frE E) (toE E) x n) W) from fun W x q cq hW hx hq =>
    rSums_any LL N n E p c x q cq hN hn hok (fun s hs => ⟨(hx s hs).1, Int.le_trans (hx s hs).2 (hv s hs).2⟩) W (hE0.mono (Nat.le_refl _) hW) hq)
  have HI : Hid (InG (frE E) (toE E) n N m v v) := Lib.hid ⟨fun s hs => ⟨(hv s hs).1, Int.le_refl _⟩, fun _ _ hl => hl⟩
  have Hv := Lib.hid hv
  have Ht := Lib.hid ht
  have Hsm : Hid (∀ x : Nat → Int, (∀ s, s < N → 0 ≤ x s ∧ x s ≤ v s) → ∀ s, 0 ≤ smE (frE E) (toE E) x n s ∧ smE (frE E) (toE E) x n s ≤ 1000000000000) := Lib.hid (fun x hx s => by
    refine ⟨smE_nonneg ht (fun s hs => (hx s hs).1) s, ?_⟩
    have := smE_le (B := 1000000) (by omega) ht (fun s hs => Int.le_trans (hx s hs).2 (hv s hs).2) (fr := frE E) s
    omega)
  obtain ⟨_, c0, c1, c2⟩ := hbx
  have hsz : w.heap.size ≤ W0.heap.size := hb0.size
  have m1 : (1 : Int) ≤ (m : Int) := by omega
  clear hE hE0 hV hV0 hb0 hok hv ht
  go_enter Tryz.func26, Tryz.ntmps26
  go_wp2_with (at_builtin; refine wpList_append_ints rfl _ _ rfl W0.heap.size _ [] rfl (OwnInts.made W0 (Nat.le_refl _)) pv cv N (vecL v N) (vecL_len v N) rfl hia hpc ?_ ?_ ?_)
  · rw [vecL_len]; simp; omega
  · simp
  intro v9 w9 hown9 hb9
  try rw [List.nil_append] at hown9
  obtain ⟨q, cq, rfl, hq⟩ := own_vec hown9
  have Hq := Lib.hid hq
  have Hb := Lib.hid (hya.trans (hb9.mono (Nat.le_refl _)))
  clear hq hb9 hown9 hya hia c0 c1 c2 hW0
  go_wp2_with fail
  go_loopg [8] (szE v N) (fun g bv wr => ∃ x, Hid (VOwn wr W0.heap.size q N x) ∧ Hid (InG (frE E) (toE E) n N m v x) ∧ szE x N ≤ g ∧ Hid (Below W0.heap.size W0 wr))
  case atStart => exact ⟨v, Hq, HI, Nat.le_refl _, Hb⟩
  case round =>
    clear Hq Hb HI
    obtain ⟨x, Hq, HI, hg, Hb⟩ := hrel
    have hsu := HSu.out wr x q cq Hb.out HI.out.1 Hq.out.row
    obtain ⟨⟨_, z0, z1, z2⟩, _⟩ := HB.out _ Hb.out
    go_wp2_with fail
    refine hsu.mono ?_
    rintro e w2 ⟨g1, rfl, hz, hg1, hb2⟩
    dsimp only
    have Hq2 : Hid (VOwn w2 W0.heap.size q N (fun s => if s < 0 then stE (frE E) (toE E) n m x s else x s)) := Lib.hid ((Hq.out.below (Nat.le_refl _) hb2).congr fun s _ => (if_neg (Nat.not_lt_zero _)).symm)
    have Hb2 : Hid (Below W0.heap.size W0 w2) := Lib.hid (Hb.out.trans (hb2.mono Hb.out.size))
    have Hz : Hid (VAt w2 g1 N (smE (frE E) (toE E) x n)) := Lib.hid hz
    have Hwg : Hid (W0.heap.size ≤ g1) := Lib.hid (Nat.le_trans Hb.out.size hg1)
    have Hg := Lib.hid hg
    have Hlt : Hid (∀ gv : Nat, q = some ⟨gv, 0, none⟩ → 0 < N → gv ≠ g1) := Lib.hid (fun gv hgv h0 => by
      rcases Hq.out with h | ⟨gv', he, _, h3⟩
      · omega
      · rw [hgv] at he; cases he; have := Nat.lt_of_lt_of_le h3.1 hg1; omega)
    clear hsu hz hg1 hb2 Hq Hb z0 z1 z2 hg
    go_wp2_with fail
    go_loopw [8, 9] (fun bv tv wr => ∃ (i : Nat) (b : Bool), i ≤ N ∧ tv = .int .i64 (i : Nat) ∧ bv = .bool b ∧ Hid (VOwn wr W0.heap.size q N (fun s => if s < i then stE (frE E) (toE E) n m x s else x s)) ∧ Hid (VAt wr g1 N (smE (frE E) (toE E) x n)) ∧ Hid (Below W0.heap.size W0 wr) ∧ Hid (b = anyN (fun s => decide (stE (frE E) (toE E) n m x s ≠ x s)) i)) (fun _ tv _ => N - (intOf tv).toNat)
    case atStart => exact ⟨0, false, by omega, by go_num, rfl, Hq2, Hz, Hb2, Lib.hid rfl⟩
    case round =>
      clear Hq2 Hb2 Hz
      obtain ⟨i, b, hi, rfl, rfl, Hq, Hz, Hb, Hch⟩ := hrel
      obtain ⟨⟨_, z0, z1, z2⟩, _⟩ := HB.out _ Hb.out
      by_cases hil : i < N
      · have i3 : (i : Int) < (N : Int) := by omega
        have i4 : (0 : Int) ≤ (i : Int) := by omega
        rcases Hq.out with h0 | ⟨gv, rfl, hgv, hva⟩
        · omega
        obtain ⟨y0, _⟩ := hva.2 i hil
        obtain ⟨y1, _⟩ := Hz.out.2 i hil
        dsimp only at y0 y1
        rw [if_neg (Nat.lt_irrefl i)] at y0
        have Hne := Lib.hid (Hlt.out gv rfl (by omega))
        have hs0 := Hsm.out x HI.out.1 i
        have hx0 := (HI.out.1 i hil).1
        have hst : stE (frE E) (toE E) n m x i = if smE (frE E) (toE E) x n i / (m : Int) < x i then smE (frE E) (toE E) x n i / (m : Int) else x i := rfl
        have HXi : Hid (∀ s, (if s < i + 1 then stE (frE E) (toE E) n m x s else x s) = if s = i then stE (frE E) (toE E) n m x i else if s < i then stE (frE E) (toE E) n m x s else x s) := Lib.hid (fun s => by
          by_cases e : s = i
          · rw [if_pos e, if_pos (by omega), e]
          · rw [if_neg e]
            by_cases e2 : s < i
            · rw [if_pos e2, if_pos (by omega)]
            · rw [if_neg e2, if_neg (by omega)])
        have HC2 : Hid (anyN (fun s => decide (stE (frE E) (toE E) n m x s ≠ x s)) (i + 1) = (b || decide (stE (frE E) (toE E) n m x i ≠ x i))) := Lib.hid (by rw [Hch.out]; rfl)
        have HXs : Hid ((if i < i then stE (frE E) (toE E) n m x i else x i) = x i) := Lib.hid (if_neg (Nat.lt_irrefl i))
        obtain ⟨xi, hxi⟩ : ∃ z, x i = z := ⟨_, rfl⟩
        obtain ⟨si, hsi⟩ : ∃ z, smE (frE E) (toE E) x n i = z := ⟨_, rfl⟩
        obtain ⟨st, hse⟩ : ∃ z, stE (frE E) (toE E) n m x i = z := ⟨_, rfl⟩
        rw [hse] at hst HXi HC2
        rw [hxi] at y0 hst hx0 HC2
        rw [hsi] at y1 hs0 hst
        have Hxi := Lib.hid hxi
        obtain ⟨si0, si1⟩ := hs0
        have hq0 : 0 ≤ si / (m : Int) := Int.ediv_nonneg si0 (by omega)
        have hq1 : si / (m : Int) ≤ si := Int.ediv_le_self _ si0
        have hqw : IntKind.i64.wrap (si.tdiv (m : Int)) = si / (m : Int) := by
          rw [Int.tdiv_eq_ediv_of_nonneg si0]; exact IntWalk.i64_in _ (by omega)
        have hmz : ¬ m = 0 := by omega
        obtain ⟨qv, hqv⟩ : ∃ z, si / (m : Int) = z := ⟨_, rfl⟩
        rw [hqv] at hqw hst hq0 hq1
        have Hst := Lib.hid hst
        have Hgl := Lib.hid (show gv < wr.heap.size from hva.1)
        have Hgv := Lib.hid hgv
        obtain ⟨SS, hSe⟩ : ∃ SS : World → Prop, SS = fun W => W.cell? ⟨gv, i, none⟩ = some (.int .i64 xi) ∧ W.cell? ⟨g1, i, none⟩ = some (.int .i64 si) := ⟨_, rfl⟩
        have HS : Hid (∀ W, Below wr.heap.size wr W → SS W) := Lib.hid (fun W hW => by rw [hSe]; exact ⟨cell_below hW y0, cell_below hW y1⟩)
        have hd : Below wr.heap.size wr wr.drew := (Below.refl _ _).drew
        have K0 : wr.cell? ⟨gv, i, none⟩ = some (.int .i64 xi) ∧ wr.cell? ⟨g1, i, none⟩ = some (.int .i64 si) := ⟨y0, y1⟩
        have HK0 := Lib.hid K0
        clear K0 y0 y1 hst hxi hsi hse hqv hva hgv
        go_upto_region 7 with (fail)
        clear z0 z1 z2
        refine wp_region_held_drew (S := SS) (by kernel_rfl) (HS.out _ hd) (fun hSS => ?_)
        refine wpAnyH_take (i := 0) (v := ?_) rfl (by kernel_rfl) (by kernel_rfl) (by kernel_rfl) (fun _ _ _ h => h) (Or.inl ⟨by rfl, ?_⟩) (HS.out _ hd) ?_
        rotate_left 1
        next => intro w hSw; rw [hSe] at hSw; obtain ⟨s1, s2⟩ := hSw; go_simp; try with_reducible rfl
        try simp only [Act.put, List.getElem_toArray, List.getElem_cons_zero, List.getElem_cons_succ, List.setIfInBounds_toArray, List.set_cons_zero, List.set_cons_succ]
        refine wpAnyH_take (i := 1) (v := ?_) rfl (by kernel_rfl) (by kernel_rfl) (by kernel_rfl) (fun _ _ _ h => h) (Or.inl ⟨by rfl, ?_⟩) (HS.out _ hd) ?_
        rotate_left 1
        next => intro w hSw; rw [hSe] at hSw; obtain ⟨s1, s2⟩ := hSw; go_simp; try with_reducible rfl
        try simp only [Act.put, List.getElem_toArray, List.getElem_cons_zero, List.getElem_cons_succ, List.setIfInBounds_toArray, List.set_cons_zero, List.set_cons_succ]
        refine wpAnyH_take (i := 2) (v := ?_) rfl (by kernel_rfl) (by kernel_rfl) (by kernel_rfl) (fun _ _ _ h => h) (Or.inl ⟨by rfl, ?_⟩) (HS.out _ hd) ?_
        rotate_left 1
        next => intro w hSw; rw [hSe] at hSw; obtain ⟨s1, s2⟩ := hSw; go_simp; try with_reducible rfl
        try simp only [Act.put, List.getElem_toArray, List.getElem_cons_zero, List.getElem_cons_succ, List.setIfInBounds_toArray, List.set_cons_zero, List.set_cons_succ]
        refine wpAnyH_take (i := 3) (v := ?_) rfl (by kernel_rfl) (by kernel_rfl) (by kernel_rfl) (fun _ _ _ h => h) (Or.inl ⟨by rfl, ?_⟩) (HS.out _ hd) ?_
        rotate_left 1
        next => intro w hSw; rw [hSe] at hSw; obtain ⟨s1, s2⟩ := hSw; go_simp; try with_reducible rfl
        try simp only [Act.put, List.getElem_toArray, List.getElem_cons_zero, List.getElem_cons_succ, List.setIfInBounds_toArray, List.set_cons_zero, List.set_cons_succ]
        refine wpAnyH_take (i := 4) (v := ?_) rfl (by kernel_rfl) (by kernel_rfl) (by kernel_rfl) (fun _ _ _ h => h) (Or.inl ⟨by rfl, ?_⟩) (HS.out _ hd) ?_
        rotate_left 1
        next => intro w hSw; rw [hSe] at hSw; obtain ⟨s1, s2⟩ := hSw; go_simp; try with_reducible rfl
        try simp only [Act.put, List.getElem_toArray, List.getElem_cons_zero, List.getElem_cons_succ, List.setIfInBounds_toArray, List.set_cons_zero, List.set_cons_succ]
        refine wpAnyH_take (i := 5) (v := ?_) rfl (by kernel_rfl) (by kernel_rfl) (by kernel_rfl) (fun _ _ _ h => h) (Or.inl ⟨by rfl, ?_⟩) (HS.out _ hd) ?_
        rotate_left 1
        next => intro w hSw; rw [hSe] at hSw; obtain ⟨s1, s2⟩ := hSw; go_simp; try with_reducible rfl
        try simp only [Act.put, List.getElem_toArray, List.getElem_cons_zero, List.getElem_cons_succ, List.setIfInBounds_toArray, List.set_cons_zero, List.set_cons_succ]
        refine wpAnyH_take (i := 6) (v := ?_) rfl (by kernel_rfl) (by kernel_rfl) (by kernel_rfl) (fun _ _ _ h => h) (Or.inl ⟨by rfl, ?_⟩) (HS.out _ hd) ?_
        rotate_left 1
        next => intro w hSw; rw [hSe] at hSw; obtain ⟨s1, s2⟩ := hSw; go_simp; try with_reducible rfl
        try simp only [Act.put, List.getElem_toArray, List.getElem_cons_zero, List.getElem_cons_succ, List.setIfInBounds_toArray, List.set_cons_zero, List.set_cons_succ]
        refine wpAnyH_take (i := 7) (v := ?_) rfl (by kernel_rfl) (by kernel_rfl) (by kernel_rfl) (fun _ _ _ h => h) (Or.inl ⟨by rfl, ?_⟩) (HS.out _ hd) ?_
        rotate_left 1
        next => intro w hSw; rw [hSe] at hSw; obtain ⟨s1, s2⟩ := hSw; go_simp; try with_reducible rfl
        try simp only [Act.put, List.getElem_toArray, List.getElem_cons_zero, List.getElem_cons_succ, List.setIfInBounds_toArray, List.set_cons_zero, List.set_cons_succ]
        refine wpAnyH_take (i := 8) (v := ?_) rfl (by kernel_rfl) (by kernel_rfl) (by kernel_rfl) (fun _ _ _ h => h) (Or.inl ⟨by rfl, ?_⟩) (HS.out _ hd) ?_
        rotate_left 1
        next => intro w hSw; rw [hSe] at hSw; obtain ⟨s1, s2⟩ := hSw; go_simp; try with_reducible rfl
        try simp only [Act.put, List.getElem_toArray, List.getElem_cons_zero, List.getElem_cons_succ, List.setIfInBounds_toArray, List.set_cons_zero, List.set_cons_succ]
        refine wpAnyH_take (i := 9) (v := ?_) rfl (by kernel_rfl) (by kernel_rfl) (by kernel_rfl) (fun _ _ _ h => h) (Or.inl ⟨by rfl, ?_⟩) (HS.out _ hd) ?_
        rotate_left 1
        next => intro w hSw; rw [hSe] at hSw; obtain ⟨s1, s2⟩ := hSw; go_simp; try with_reducible rfl
        try simp only [Act.put, List.getElem_toArray, List.getElem_cons_zero, List.getElem_cons_succ, List.setIfInBounds_toArray, List.set_cons_zero, List.set_cons_succ]
        refine wpAnyH_take (i := 10) (v := ?_) rfl (by kernel_rfl) (by kernel_rfl) (by kernel_rfl) (fun _ _ _ h => h) (Or.inl ⟨by rfl, ?_⟩) (HS.out _ hd) ?_
        rotate_left 1
        next => intro w hSw; rw [hSe] at hSw; obtain ⟨s1, s2⟩ := hSw; go_simp; try with_reducible rfl
        try simp only [Act.put, List.getElem_toArray, List.getElem_cons_zero, List.getElem_cons_succ, List.setIfInBounds_toArray, List.set_cons_zero, List.set_cons_succ]
        refine wpAnyH_done (by kernel_rfl) ?_ _
        clear HS hSe hSS SS
        by_cases hgt : xi > qv
        · have hst2 : st = qv := by rw [Hst.out]; exact if_pos hgt
          have Hst2 := Lib.hid hst2
          obtain ⟨y0, y1⟩ := HK0.out
          have F1 := Lib.hid ((Hq.out.set (k := i) qv).congr (g := fun s => if s < i + 1 then stE (frE E) (toE E) n m x s else x s) fun s _ => by rw [HXi.out s, Hst2.out])
          have F2 := Lib.hid (Hz.out.other ⟨gv, i, none⟩ (.int .i64 qv) Hne.out)
          have F3 := Lib.hid (Hb.out.setCell (p := ⟨gv, i, none⟩) Hgv.out (.int .i64 qv))
          have F4 : Hid (true = anyN (fun s => decide (stE (frE E) (toE E) n m x s ≠ x s)) (i + 1)) := Lib.hid (by rw [HC2.out, Hst2.out, decide_eq_true (show qv ≠ xi by omega), Bool.or_true])
          clear hst2 Hst2 hd Hq Hz Hb Hch HC2 HXi HXs Hst HK0
          go_wp2_with fail
          clear y0 y1
          have G1 : Hid (VOwn (wr.setCell ⟨gv, i, none⟩ (.int .i64 qv)).drew W0.heap.size (some ⟨gv, 0, none⟩) N (fun s => if s < i + 1 then stE (frE E) (toE E) n m x s else x s)) := Lib.hid (F1.out.below (Nat.le_refl _) (Below.refl _ _).drew)
          have G2 := Lib.hid (F2.out.below (Below.refl _ _).drew F2.out.1)
          have G3 := Lib.hid F3.out.drew
          clear F1 F2 F3
          go_roundw
          case rel => exact ⟨i + 1, true, by omega, by go_num, rfl, G1, G2, G3, F4⟩
          case measure => simp [intOf]; omega
        · have hst2 : st = xi := by rw [Hst.out]; exact if_neg hgt
          have Hst2 := Lib.hid hst2
          have G1 : Hid (VOwn wr.drew W0.heap.size (some ⟨gv, 0, none⟩) N (fun s => if s < i + 1 then stE (frE E) (toE E) n m x s else x s)) := Lib.hid ((Hq.out.below (Nat.le_refl _) hd).congr fun s _ => by
            rw [HXi.out s, Hst2.out]
            by_cases e : s = i
            · rw [if_pos e, e, if_neg (Nat.lt_irrefl i), Hxi.out]
            · rw [if_neg e])
          have G2 := Lib.hid (Hz.out.below hd Hz.out.1)
          have G3 := Lib.hid Hb.out.drew
          have F4 : Hid (b = anyN (fun s => decide (stE (frE E) (toE E) n m x s ≠ x s)) (i + 1)) := Lib.hid (by rw [HC2.out, Hst2.out, decide_eq_false (show ¬ (xi ≠ xi) from fun h => h rfl), Bool.or_false])
          clear hst2 Hst2 hd Hq Hz Hb Hch HC2 HXi HXs Hst HK0
          go_wp2_with fail
          go_roundw
          case rel => exact ⟨i + 1, b, by omega, by go_num, rfl, G1, G2, G3, F4⟩
          case measure => simp [intOf]; omega
      · have i3 : ¬ (i : Int) < (N : Int) := by omega
        have hie : i = N := by omega
        rw [hie] at Hq Hch
        have Hq2 : Hid (VOwn wr W0.heap.size q N (stE (frE E) (toE E) n m x)) := Lib.hid (Hq.out.congr fun s hs => if_pos hs)
        clear hie Hq
        cases b
        · have hf : ∀ s, s < N → stE (frE E) (toE E) n m x s = x s := fun s hs => by
            have := anyN_false.1 Hch.out.symm s hs
            exact Classical.not_not.1 (of_decide_eq_false this)
          have Hl := Lib.hid (HI.out.last hm0 hf)
          have Hq3 := Lib.hid ((Hq2.out.congr hf).base hsz)
          have Hbw := Lib.hid (HB.out _ Hb.out).2
          clear hf Hq2 Hch
          go_wp2
          go_ret
          exact ⟨x, Hl.out, q, cq, rfl, Hq3.out, Hbw.out⟩
        · have hf : ¬ ∀ s, s < N → stE (frE E) (toE E) n m x s = x s := fun h => by
            obtain ⟨s, hs, h1⟩ := anyN_true.1 Hch.out.symm
            exact of_decide_eq_true h1 (h s hs)
          have hless := stE_less Ht.out (fun s hs => (HI.out.1 s hs).1) hf
          have HL := Lib.hid (Nat.lt_of_lt_of_le hless Hg.out)
          have HI2 := Lib.hid (HI.out.step hm0 Ht.out)
          clear hf hless Hg Hch
          go_wp2_with fail
          go_roundg (szE (stE (frE E) (toE E) n m x) N)
          case measure => exact HL.out
          case rel => exact ⟨_, Hq2, HI2, Nat.le_refl _, Hb⟩
end Go.Proofs.YtlaoijfphkhchaaGreat
