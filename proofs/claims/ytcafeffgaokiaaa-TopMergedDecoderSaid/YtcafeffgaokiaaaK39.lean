/- reduction.classes. -/
import Derived.Test.YtcafeffgaokiaaaK37
import Derived.Test.YtcafeffgaokiaaaK38
import Derived.Test.YtcafeffgaokiaaaShelfA
import Derived.OrdersHeld
import Derived.Deep.RegionHeld
namespace Go.Proofs.Ytcafeffgaokiaaa
open Go.RowKit Go.Maps
/-- What reduction.classes answers. -/
def ClsPost (m : EM) (I : Nat) (w : World) (e : Ending) (w' : World) : Prop :=
  ∃ (cs : List Nat) (k gc cc : Nat), e = .returned (.slice (some ⟨gc, 0, none⟩) m.r cc) ∧ OwnZ w' w.heap.size gc cc cs ∧ Below w.heap.size w w' ∧ cs.length = m.r ∧ Cnt (fun t => cs.getD t 0) m.r k ∧ Stable m I (fun t => cs.getD t 0) ∧ Grow (fun t => cs.getD t 0) m.r
/-- The classes so far. -/
def ClsI (m : EM) (cs : List Nat) (k : Nat) : Prop := cs.length = m.r ∧ Grow (fun t => cs.getD t 0) m.r ∧ Cnt (fun t => cs.getD t 0) m.r k
theorem clsI_nil {m : EM} (h : 0 < m.r) : ClsI m (List.replicate m.r 0) 1 := by
  have h0 : ∀ t, (List.replicate m.r 0).getD t 0 = 0 := fun t => by
    rw [List.getD_eq_getElem?_getD, List.getElem?_replicate]
    split <;> rfl
  refine ⟨by simp, fun s _ v hv => ?_, fun s _ => ?_, fun v hv => ⟨0, h, ?_⟩⟩
  · dsimp only at hv; rw [h0] at hv; omega
  · show (List.replicate m.r 0).getD s 0 < 1; rw [h0]; omega
  · show (List.replicate m.r 0).getD 0 0 = v; rw [h0]; omega
theorem maxN {xs : List Nat} {M : Int} (h0 : 0 < xs.length) (h1 : ∀ j, j < ((xs.map fun (x : Nat) => (x : Int)) ++ [-1]).length → ((xs.map fun (x : Nat) => (x : Int)) ++ [-1]).getD j 0 ≤ M) (h2 : ∃ j, j < ((xs.map fun (x : Nat) => (x : Int)) ++ [-1]).length ∧ ((xs.map fun (x : Nat) => (x : Int)) ++ [-1]).getD j 0 = M) : ∃ Mn : Nat, M = (Mn : Int) ∧ (∀ s, s < xs.length → xs.getD s 0 ≤ Mn) ∧ ∃ s, s < xs.length ∧ xs.getD s 0 = Mn := by
  have hg : ∀ j, j < xs.length → ((xs.map fun (x : Nat) => (x : Int)) ++ [-1]).getD j 0 = ((xs.getD j 0 : Nat) : Int) := fun j hj => by
    rw [List.getD_eq_getElem?_getD, List.getD_eq_getElem?_getD, List.getElem?_append_left (by simpa using hj), List.getElem?_map, List.getElem?_eq_getElem hj]
    rfl
  have hlen : ((xs.map fun (x : Nat) => (x : Int)) ++ [-1]).length = xs.length + 1 := by simp
  have hM : 0 ≤ M := by
    have := h1 0 (by omega)
    rw [hg 0 h0] at this
    omega
  obtain ⟨Mn, rfl⟩ : ∃ Mn : Nat, M = Mn := ⟨M.toNat, by omega⟩
  refine ⟨Mn, rfl, fun s hs => ?_, ?_⟩
  · have := h1 s (by omega)
    rw [hg s hs] at this
    omega
  · obtain ⟨j, hj, e⟩ := h2
    have hjl : j < xs.length := by
      refine Classical.byContradiction fun hn => ?_
      have hje : j = xs.length := by omega
      rw [hje, List.getD_eq_getElem?_getD, List.getElem?_append_right (by simp)] at e
      simp at e
    rw [hg j hjl] at e
    exact ⟨j, hjl, by omega⟩
theorem grow_le {f : Nat → Nat} {r s : Nat} (h : Grow f r) (hs : s < r) : f s ≤ s := cover_le f fun u hu => h s hs u hu
/-- What slices.Clone hands on. -/
theorem clone_own {W : World} {base r : Nat} {v : Value} {cs : List Nat} (hr : 0 < r) (hl : cs.length = r) (h : W.ownsRow base 3 1 v r (((cs.map fun (x : Nat) => (x : Int)).take r).map (Value.int .i64))) : ∃ gn cn, v = .slice (some ⟨gn, 0, none⟩) r cn ∧ OwnZ W base gn cn cs := by
  have e : ((cs.map fun (x : Nat) => (x : Int)).take r).map (Value.int .i64) = cs.map fun (x : Nat) => Value.int .i64 (x : Int) := by
    rw [List.take_of_length_le (by simp [hl]), List.map_map]; rfl
  rw [e] at h
  rcases h.2 with ⟨_, h0⟩ | ⟨g, cap, cur, hv, h3⟩
  · omega
  · refine ⟨g, cap, hv, ?_⟩
    rw [hv] at h
    unfold OwnZ
    rw [hl]
    exact h
theorem OwnZ.base {W : World} {base base' g c : Nat} {xs : List Nat} (h : OwnZ W base g c xs) (hb : base' ≤ g) : OwnZ W base' g c xs := by
  obtain ⟨h1, h2⟩ := h
  refine ⟨h1, ?_⟩
  rcases h2 with ⟨h3, _⟩ | ⟨g', cap, cur, h3, h4, h5⟩
  · simp at h3
  · have e : g = g' := by simp at h3; exact h3.1
    subst e
    exact .inr ⟨g, cap, cur, h3, hb, h5⟩
theorem OwnZ.below {W W' : World} {base g c : Nat} {xs : List Nat} (h : OwnZ W base g c xs) (hb : Below W.heap.size W W') : OwnZ W' base g c xs := h.block (hb.block g h.lt.2)
theorem OwnF.below {W W' : World} {b n : Nat} {D : DataW Unit} (h : OwnF W b n D) (hb : Below W.heap.size W W') : OwnF W' b n D := by
  obtain ⟨o, ho, _⟩ := h.obj
  exact h.of_block (hb.block b (Array.getElem?_eq_some_iff.1 ho).1)
set_option maxRecDepth 100000 in
set_option maxHeartbeats 8000000 in
theorem classes_any (l b : Int) (I B : Nat) (m : EM) (p : Option Addr) (c : Nat) (w : World) (hA : m.At w p) (hm : m.Ok I B) (hI : I ≤ 256) (hB : B ≤ 16) (r1 : 0 < m.r) (r2 : m.r ≤ 64) :
    Calls Try.prog 54 #[.agg #[.int .i64 l, .int .i64 b, .int .i64 (I : Int), .slice p m.r c]] w (ClsPost m I w) := by
  obtain ⟨V, hV⟩ : ∃ V, w.alloc (encO l b (I : Int) p m.r c) = V := ⟨_, rfl⟩
  have hbV : Below w.heap.size w V := by rw [← hV]; exact (Below.refl w.heap.size w).alloc (Nat.le_refl _) _
  obtain ⟨g, hg⟩ : ∃ g, w.heap.size = g := ⟨_, rfl⟩
  have o0 : V.heap[g]? = some (encO l b (I : Int) p m.r c) := by rw [← hV, ← hg]; exact World.alloc_heap_new w _
  have hsV : V.heap.size = g + 1 := by rw [← hV]; simp [hg]
  have HO := Lib.hid (fun (W : World) (h : Below V.heap.size V W) => show W.heap[g]? = some (encO l b (I : Int) p m.r c) from (h.block _ (by omega)).trans o0)
  obtain ⟨x0, x1, x2, x3⟩ := cells_encO o0
  clear o0
  unfold encO at hV
  have HbV := Lib.hid hbV
  have HA := Lib.hid hA
  have HM := Lib.hid hm
  clear hbV hA hm
  go_enter Try.func54, Try.ntmps54
  go_upto_region 1 with (fail)
  clear hV
  have hmk := fun (W : World) => zmake m.r (by omega) W
  go_upto_region 2 with (fail)
  clear hmk
  have hz := zmade V m.r g (by omega) (by omega)
  rw [hsV] at hz
  obtain ⟨W1, hW1⟩ : ∃ W, V.alloc (.cells (madeCells #[.int .i64 0] m.r) 3) = W := ⟨_, rfl⟩
  have hb1 : Below V.heap.size V W1 := by rw [← hW1]; exact (Below.refl _ _).alloc (Nat.le_refl _) _
  rw [hW1] at hz ⊢
  have HZ1 := Lib.hid hz
  have HB1 := Lib.hid hb1
  have HC1 := Lib.hid (clsI_nil r1)
  clear hz hb1 hW1
  go_wp2
  go_loopw [3, 4] (fun v3 v4 wr => ∃ (gc cc k : Nat) (cs : List Nat), v3 = .slice (some ⟨gc, 0, none⟩) m.r cc ∧ v4 = .int .i64 (k : Nat) ∧ Hid (OwnZ wr g gc cc cs) ∧ Hid (Below V.heap.size V wr) ∧ Hid (ClsI m cs k)) (fun _ v4 _ => m.r - (intOf v4).toNat)
  case atStart => exact ⟨g + 1, m.r, 1, _, rfl, rfl, HZ1, HB1, HC1⟩
  case round =>
    clear HZ1 HB1 HC1 x0 x1 x2 x3
    obtain ⟨gc, cc, k, cs, rfl, rfl, HZ, HB, HC⟩ := hrel
    obtain ⟨x0, x1, x2, x3⟩ := cells_encO (HO.out _ HB.out)
    have hmm := @run_makeMap Try.prog
    go_upto_region 4 with (fail)
    clear hmm
    obtain ⟨bm, hbm⟩ : ∃ x, wr.heap.size = x := ⟨_, rfl⟩
    obtain ⟨W2, hW2⟩ : ∃ W, wr.alloc (.map #[] 0) = W := ⟨_, rfl⟩
    have hb2 : Below wr.heap.size wr W2 := by rw [← hW2]; exact (Below.refl _ _).alloc (Nat.le_refl _) _
    have hF2 : OwnF W2 bm 0 (.map []) := by rw [← hW2, ← hbm]; exact World.ownsMap_made wr _ _ _
    have hs2 : W2.heap.size = bm + 1 := by rw [← hW2]; simp [hbm]
    have hgc : gc < bm := by have := HZ.out.lt; omega
    have HZ2 := Lib.hid (HZ.out.below hb2)
    have HB2 := Lib.hid (HB.out.trans (hb2.mono HB.out.size))
    have HF2 := Lib.hid hF2
    rw [hW2, hbm]
    have hlc := HC.out.1
    have HCl := Lib.hid (Try.slices_Clone_int gc 0 m.r cc (cs.map fun (x : Nat) => (x : Int)) W2 (by simp [hlc]) (by omega) (fun j hj => HZ2.out.ints j (by simpa using hj)))
    have HS2 := Lib.hid hs2
    clear hW2 hb2 hF2 hlc x0 x1 x2 x3 HZ HB hs2
    go_wp2_with fail
    refine HCl.out.mono ?_
    rintro e W3 ⟨v', rfl, hown, _, hb⟩
    obtain ⟨gn, cn, rfl, hZn⟩ := clone_own r1 HC.out.1 hown
    dsimp only
    have hgn : bm < gn := by have := hZn.lt.1; have := HS2.out; omega
    have HZ3 := Lib.hid (HZ2.out.below hb)
    have HF3 := Lib.hid (HF2.out.below hb)
    have HB3 := Lib.hid (HB2.out.trans (hb.mono HB2.out.size))
    have HN3 := Lib.hid (hZn.base (base' := g) (by have := hZn.lt.1; have := HB2.out.size; omega))
    have HR3 := Lib.hid (refI_nil HC.out.1 HC.out.2.1)
    clear hown hb hZn HCl HZ2 HF2 HB2 HS2
    obtain ⟨x0, x1, x2, x3⟩ := cells_encO (HO.out _ HB3.out)
    go_wp2
    go_loopw [23] (fun iv wr => ∃ (i : Nat) (ns : List Nat) (D : DataW Unit) (nD : Nat), i ≤ I ∧ iv = .int .i64 (i : Nat) ∧ Hid (OwnZ wr g gc cc cs) ∧ Hid (OwnZ wr g gn cn ns) ∧ Hid (OwnF wr bm nD D) ∧ Hid (Below V.heap.size V wr) ∧ Hid (RefI m cs i ns)) (fun iv _ => I - (intOf iv).toNat)
    case atStart => exact ⟨0, cs, _, 0, by omega, by go_num, HZ3, HN3, HF3, HB3, HR3⟩
    case round =>
      clear HZ3 HN3 HF3 HB3 HR3 x0 x1 x2 x3
      obtain ⟨i, g0, D, nD, hi, rfl, HZ, HN, HF, HB, HR⟩ := hrel
      obtain ⟨x0, x1, x2, x3⟩ := cells_encO (HO.out _ HB.out)
      by_cases hlt : i < I
      · have i1 : (i : Int) < (I : Int) := by omega
        have i0 : (0 : Int) ≤ (i : Int) := by omega
        obtain ⟨W4, hcl, hF4, hg4⟩ := run_clearM HF.out
        have hk4 : ∀ q o, q ≠ bm → wr.heap[q]? = some o → W4.heap[q]? = some o := fun q o hq ho => (hg4.block q (Array.getElem?_eq_some_iff.1 ho).1 (fun e => hq (by cases e; rfl))).trans ho
        have hg4g : W4.heap[g]? = some (encO l b (I : Int) p m.r c) := hk4 g _ (by have := HZ.out.lt; omega) (HO.out _ HB.out)
        have HZ4 : Hid (OwnZ W4 g gc cc cs) := Lib.hid (HZ.out.block (hg4.block gc HZ.out.lt.2 (fun e => by cases e; omega)))
        have HN4 : Hid (OwnZ W4 g gn cn g0) := Lib.hid (HN.out.block (hg4.block gn HN.out.lt.2 (fun e => by cases e; omega)))
        have HB4 : Hid (Below V.heap.size V W4) := Lib.hid (HB.out.grown hg4 HB.out.size (fun q e => by cases e; have := HZ.out.lt; omega))
        have HF4 := Lib.hid hF4
        have HP4 : Hid (PassI g0 (keyS3 m cs g0 i) m.r 0 0 g0) := Lib.hid (by have := passI_nil g0 (keyS3 m cs g0 i); rwa [HR.out.1] at this)
        have HM4 : Hid (PassM (.map []) (keyS3 m cs g0 i) 0 0 g0) := Lib.hid (passM_nil _ _)
        clear hF4 hk4
        go_upto_region 9 with (fail)
        clear hcl hg4 x0 x1 x2 x3 HZ HN HF HB
        obtain ⟨x0, x1, x2, x3⟩ := cells_encO hg4g
        clear hg4g
        go_wp2
        go_loopw [30] (fun sv wr => ∃ (s q : Nat) (ns : List Nat) (D : DataW Unit), s ≤ m.r ∧ sv = .int .i64 (s : Nat) ∧ Hid (OwnZ wr g gc cc cs) ∧ Hid (OwnZ wr g gn cn ns) ∧ Hid (OwnF wr bm s D) ∧ Hid (Below V.heap.size V wr) ∧ Hid (PassI g0 (keyS3 m cs g0 i) m.r s q ns) ∧ Hid (PassM D (keyS3 m cs g0 i) s q ns)) (fun sv _ => m.r - (intOf sv).toNat)
        case atStart => exact ⟨0, 0, g0, _, by omega, by go_num, HZ4, HN4, HF4, HB4, HP4, HM4⟩
        case round =>
          clear HZ4 HN4 HF4 HB4 HP4 HM4 x0 x1 x2 x3
          obtain ⟨s, q, ns, D, hs, rfl, HZ, HN, HF, HB, HP, HM4⟩ := hrel
          obtain ⟨x0, x1, x2, x3⟩ := cells_encO (HO.out _ HB.out)
          have HwB := Lib.hid (HbV.out.trans (HB.out.mono HbV.out.size))
          by_cases hlt2 : s < m.r
          · obtain ⟨rb, ro, rq, rc, rfl, hrb, hrow, hcells⟩ := EM.At.row (HA.out.below (Nat.le_refl _) HwB.out) hlt2
            rw [HM.out.len s hlt2] at hrow
            obtain ⟨cb, co, rfl, hcb, ct, cd⟩ := EM.cells hcells (by rw [HM.out.len s hlt2]; exact hlt)
            obtain ⟨t, ht⟩ : ∃ t, (m.T s i).toNat = t := ⟨_, rfl⟩
            have htr : t < m.r := by rw [← ht]; exact HM.out.to1 s i hlt2 hlt
            have hte : m.T s i = (t : Int) := by rw [← ht]; have := HM.out.to0 s i hlt2 hlt; omega
            rw [hte] at ct
            obtain ⟨dw, hdw⟩ : ∃ d, m.D s i = d := ⟨_, rfl⟩
            rw [hdw] at cd
            have hdz : dw.size = B := by rw [← hdw]; exact HM.out.wd s i hlt2 hlt
            obtain ⟨cl, hcl⟩ : ∃ x, cs.getD t 0 = x := ⟨_, rfl⟩
            obtain ⟨nl, hnl⟩ : ∃ x, ns.getD s 0 = x := ⟨_, rfl⟩
            have hc1 := (HZ.out.cell (k := t) (by rw [HC.out.1]; exact htr)).1
            obtain ⟨hn1, hn1f⟩ := HN.out.cell (k := s) (by rw [HP.out.1]; exact hlt2)
            rw [hcl] at hc1
            rw [hnl] at hn1
            have HKy : Hid (keyS3 m cs g0 i s = (nl, dw, cl)) := Lib.hid (by
              unfold keyS3
              rw [ht, hdw, hcl, ← hnl, HP.out.2.1 s (Nat.le_refl _)])
            have hclb : cl ≤ 1000 := by
              have h1 := HC.out.2.2.1 t htr
              have h2 := cnt_le HC.out.2.2
              dsimp only at h1
              omega
            have hs1 : (s : Int) < (m.r : Int) := by omega
            have hs0 : (0 : Int) ≤ (s : Int) := by omega
            have ht1 : (t : Int) < (m.r : Int) := by omega
            have ht0 : (0 : Int) ≤ (t : Int) := by omega
            clear hcells hte ht hdw hcl hnl
            go_upto_region 12 with (fail)
            obtain ⟨SS, hSe⟩ : ∃ SS : World → Prop, SS = fun W => W.cell? ⟨gn, s, none⟩ = some (.int .i64 (nl : Int)) ∧ W.cell? ⟨cb, co + i * 2, none⟩ = some (.int .i64 (t : Int)) ∧ W.cell? ⟨cb, co + i * 2 + 1, none⟩ = some (.string dw) ∧ W.cell? ⟨gc, t, none⟩ = some (.int .i64 (cl : Int)) := ⟨_, rfl⟩
            have hgn2 := HN.out.lt.2
            have hgc2 := HZ.out.lt.2
            have HS : Hid (∀ W, Below wr.heap.size wr W → SS W) := Lib.hid (fun W hW => by
              rw [hSe]
              exact ⟨(hW.cell (p := ⟨gn, s, none⟩) hgn2).trans hn1, (hW.cell (p := ⟨cb, co + i * 2, none⟩) hcb).trans ct, (hW.cell (p := ⟨cb, co + i * 2 + 1, none⟩) hcb).trans cd, (hW.cell (p := ⟨gc, t, none⟩) hgc2).trans hc1⟩)
            have hd : Below wr.heap.size wr wr.drew := (Below.refl _ _).drew
            refine wp_region_held_drew (S := SS) (by kernel_rfl) (HS.out _ hd) (fun hSS => ?_)
            refine wpAnyH_take (i := 0) (v := ?_) rfl (by kernel_rfl) (by kernel_rfl) (by kernel_rfl) (fun _ _ _ h => h) (Or.inl ⟨by rfl, ?_⟩) (HS.out _ hd) ?_
            rotate_left 1
            next => intro w hSw; rw [hSe] at hSw; obtain ⟨s1, s2, s3, s4⟩ := hSw; go_simp; try with_reducible rfl
            try simp only [Act.put, List.getElem_toArray, List.getElem_cons_zero, List.getElem_cons_succ, List.setIfInBounds_toArray, List.set_cons_zero, List.set_cons_succ]
            refine wpAnyH_take (i := 1) (v := ?_) rfl (by kernel_rfl) (by kernel_rfl) (by kernel_rfl) (fun _ _ _ h => h) (Or.inl ⟨by rfl, ?_⟩) (HS.out _ hd) ?_
            rotate_left 1
            next => intro w hSw; rw [hSe] at hSw; obtain ⟨s1, s2, s3, s4⟩ := hSw; go_simp; try with_reducible rfl
            try simp only [Act.put, List.getElem_toArray, List.getElem_cons_zero, List.getElem_cons_succ, List.setIfInBounds_toArray, List.set_cons_zero, List.set_cons_succ]
            refine wpAnyH_take (i := 2) (v := ?_) rfl (by kernel_rfl) (by kernel_rfl) (by kernel_rfl) (fun _ _ _ h => h) (Or.inl ⟨by rfl, ?_⟩) (HS.out _ hd) ?_
            rotate_left 1
            next => intro w hSw; rw [hSe] at hSw; obtain ⟨s1, s2, s3, s4⟩ := hSw; go_simp; try with_reducible rfl
            try simp only [Act.put, List.getElem_toArray, List.getElem_cons_zero, List.getElem_cons_succ, List.setIfInBounds_toArray, List.set_cons_zero, List.set_cons_succ]
            refine wpAnyH_take (i := 3) (v := ?_) rfl (by kernel_rfl) (by kernel_rfl) (by kernel_rfl) (fun _ _ _ h => h) (Or.inl ⟨by rfl, ?_⟩) (HS.out _ hd) ?_
            rotate_left 1
            next => intro w hSw; rw [hSe] at hSw; obtain ⟨s1, s2, s3, s4⟩ := hSw; go_simp; try with_reducible rfl
            try simp only [Act.put, List.getElem_toArray, List.getElem_cons_zero, List.getElem_cons_succ, List.setIfInBounds_toArray, List.set_cons_zero, List.set_cons_succ]
            refine wpAnyH_take (i := 4) (v := ?_) rfl (by kernel_rfl) (by kernel_rfl) (by kernel_rfl) (fun _ _ _ h => h) (Or.inl ⟨by rfl, ?_⟩) (HS.out _ hd) ?_
            rotate_left 1
            next => intro w hSw; rw [hSe] at hSw; obtain ⟨s1, s2, s3, s4⟩ := hSw; go_simp; try with_reducible rfl
            try simp only [Act.put, List.getElem_toArray, List.getElem_cons_zero, List.getElem_cons_succ, List.setIfInBounds_toArray, List.set_cons_zero, List.set_cons_succ]
            refine wpAnyH_take (i := 5) (v := ?_) rfl (by kernel_rfl) (by kernel_rfl) (by kernel_rfl) (fun _ _ _ h => h) (Or.inl ⟨by rfl, ?_⟩) (HS.out _ hd) ?_
            rotate_left 1
            next => intro w hSw; rw [hSe] at hSw; obtain ⟨s1, s2, s3, s4⟩ := hSw; go_simp; try with_reducible rfl
            try simp only [Act.put, List.getElem_toArray, List.getElem_cons_zero, List.getElem_cons_succ, List.setIfInBounds_toArray, List.set_cons_zero, List.set_cons_succ]
            refine wpAnyH_take (i := 6) (v := ?_) rfl (by kernel_rfl) (by kernel_rfl) (by kernel_rfl) (fun _ _ _ h => h) (Or.inl ⟨by rfl, ?_⟩) (HS.out _ hd) ?_
            rotate_left 1
            next => intro w hSw; rw [hSe] at hSw; obtain ⟨s1, s2, s3, s4⟩ := hSw; go_simp; try with_reducible rfl
            try simp only [Act.put, List.getElem_toArray, List.getElem_cons_zero, List.getElem_cons_succ, List.setIfInBounds_toArray, List.set_cons_zero, List.set_cons_succ]
            refine wpAnyH_take (i := 7) (v := ?_) rfl (by kernel_rfl) (by kernel_rfl) (by kernel_rfl) (fun _ _ _ h => h) (Or.inl ⟨by rfl, ?_⟩) (HS.out _ hd) ?_
            rotate_left 1
            next => intro w hSw; rw [hSe] at hSw; obtain ⟨s1, s2, s3, s4⟩ := hSw; go_simp; try with_reducible rfl
            try simp only [Act.put, List.getElem_toArray, List.getElem_cons_zero, List.getElem_cons_succ, List.setIfInBounds_toArray, List.set_cons_zero, List.set_cons_succ]
            refine wpAnyH_take (i := 8) (v := ?_) rfl (by kernel_rfl) (by kernel_rfl) (by kernel_rfl) (fun _ _ _ h => h) (Or.inl ⟨by rfl, ?_⟩) (HS.out _ hd) ?_
            rotate_left 1
            next => intro w hSw; rw [hSe] at hSw; obtain ⟨s1, s2, s3, s4⟩ := hSw; go_simp; try with_reducible rfl
            try simp only [Act.put, List.getElem_toArray, List.getElem_cons_zero, List.getElem_cons_succ, List.setIfInBounds_toArray, List.set_cons_zero, List.set_cons_succ]
            refine wpAnyH_take (i := 9) (v := ?_) rfl (by kernel_rfl) (by kernel_rfl) (by kernel_rfl) (fun _ _ _ h => h) (Or.inl ⟨by rfl, ?_⟩) (HS.out _ hd) ?_
            rotate_left 1
            next => intro w hSw; rw [hSe] at hSw; obtain ⟨s1, s2, s3, s4⟩ := hSw; go_simp; try with_reducible rfl
            try simp only [Act.put, List.getElem_toArray, List.getElem_cons_zero, List.getElem_cons_succ, List.setIfInBounds_toArray, List.set_cons_zero, List.set_cons_succ]
            refine wpAnyH_take (i := 10) (v := ?_) rfl (by kernel_rfl) (by kernel_rfl) (by kernel_rfl) (fun _ _ _ h => h) (Or.inl ⟨by rfl, ?_⟩) (HS.out _ hd) ?_
            rotate_left 1
            next => intro w hSw; rw [hSe] at hSw; obtain ⟨s1, s2, s3, s4⟩ := hSw; go_simp; try with_reducible rfl
            try simp only [Act.put, List.getElem_toArray, List.getElem_cons_zero, List.getElem_cons_succ, List.setIfInBounds_toArray, List.set_cons_zero, List.set_cons_succ]
            refine wpAnyH_take (i := 11) (v := ?_) rfl (by kernel_rfl) (by kernel_rfl) (by kernel_rfl) (fun _ _ _ h => h) (Or.inl ⟨by rfl, ?_⟩) (HS.out _ hd) ?_
            rotate_left 1
            next => intro w hSw; rw [hSe] at hSw; obtain ⟨s1, s2, s3, s4⟩ := hSw; go_simp; try with_reducible rfl
            try simp only [Act.put, List.getElem_toArray, List.getElem_cons_zero, List.getElem_cons_succ, List.setIfInBounds_toArray, List.set_cons_zero, List.set_cons_succ]
            refine wpAnyH_take (i := 12) (v := ?_) rfl (by kernel_rfl) (by kernel_rfl) (by kernel_rfl) (fun _ _ _ h => h) (Or.inl ⟨by rfl, ?_⟩) (HS.out _ hd) ?_
            rotate_left 1
            next => intro w hSw; rw [hSe] at hSw; obtain ⟨s1, s2, s3, s4⟩ := hSw; go_simp; try with_reducible rfl
            try simp only [Act.put, List.getElem_toArray, List.getElem_cons_zero, List.getElem_cons_succ, List.setIfInBounds_toArray, List.set_cons_zero, List.set_cons_succ]
            refine wpAnyH_take (i := 13) (v := ?_) rfl (by kernel_rfl) (by kernel_rfl) (by kernel_rfl) (fun _ _ _ h => h) (Or.inl ⟨by rfl, ?_⟩) (HS.out _ hd) ?_
            rotate_left 1
            next => intro w hSw; rw [hSe] at hSw; obtain ⟨s1, s2, s3, s4⟩ := hSw; go_simp; try with_reducible rfl
            try simp only [Act.put, List.getElem_toArray, List.getElem_cons_zero, List.getElem_cons_succ, List.setIfInBounds_toArray, List.set_cons_zero, List.set_cons_succ]
            refine wpAnyH_take (i := 14) (v := ?_) rfl (by kernel_rfl) (by kernel_rfl) (by kernel_rfl) (fun _ _ _ h => h) (Or.inl ⟨by rfl, ?_⟩) (HS.out _ hd) ?_
            rotate_left 1
            next => intro w hSw; rw [hSe] at hSw; obtain ⟨s1, s2, s3, s4⟩ := hSw; go_simp; try with_reducible rfl
            try simp only [Act.put, List.getElem_toArray, List.getElem_cons_zero, List.getElem_cons_succ, List.setIfInBounds_toArray, List.set_cons_zero, List.set_cons_succ]
            refine wpAnyH_take (i := 15) (v := ?_) rfl (by kernel_rfl) (by kernel_rfl) (by kernel_rfl) (fun _ _ _ h => h) (Or.inl ⟨by rfl, ?_⟩) (HS.out _ hd) ?_
            rotate_left 1
            next => intro w hSw; rw [hSe] at hSw; obtain ⟨s1, s2, s3, s4⟩ := hSw; go_simp; try with_reducible rfl
            try simp only [Act.put, List.getElem_toArray, List.getElem_cons_zero, List.getElem_cons_succ, List.setIfInBounds_toArray, List.set_cons_zero, List.set_cons_succ]
            refine wpAnyH_take (i := 16) (v := ?_) rfl (by kernel_rfl) (by kernel_rfl) (by kernel_rfl) (fun _ _ _ h => h) (Or.inl ⟨by rfl, ?_⟩) (HS.out _ hd) ?_
            rotate_left 1
            next => intro w hSw; rw [hSe] at hSw; obtain ⟨s1, s2, s3, s4⟩ := hSw; go_simp; try with_reducible rfl
            try simp only [Act.put, List.getElem_toArray, List.getElem_cons_zero, List.getElem_cons_succ, List.setIfInBounds_toArray, List.set_cons_zero, List.set_cons_succ]
            refine wpAnyH_take (i := 17) (v := ?_) rfl (by kernel_rfl) (by kernel_rfl) (by kernel_rfl) (fun _ _ _ h => h) (Or.inl ⟨by rfl, ?_⟩) (HS.out _ hd) ?_
            rotate_left 1
            next => intro w hSw; rw [hSe] at hSw; obtain ⟨s1, s2, s3, s4⟩ := hSw; go_simp; try with_reducible rfl
            try simp only [Act.put, List.getElem_toArray, List.getElem_cons_zero, List.getElem_cons_succ, List.setIfInBounds_toArray, List.set_cons_zero, List.set_cons_succ]
            try simp only [Act.put, List.getElem_toArray, List.getElem_cons_zero, List.getElem_cons_succ, List.setIfInBounds_toArray, List.set_cons_zero, List.set_cons_succ]
            refine wpAnyH_ready (rs := [18]) (by kernel_rfl) (by simp) ?_
            refine AllReadyH.cons rfl (fun K hK => ?_) AllReadyH.nil
            go_simp
            obtain ⟨Y, hY⟩ : ∃ Y, (wr.alloc (.cells #[.int .i64 0, .string ⟨#[]⟩, .int .i64 0] 142)).drew = Y := ⟨_, rfl⟩
            have hbY : Below wr.heap.size wr Y := by rw [← hY]; exact ((Below.refl _ _).alloc (Nat.le_refl _) _).drew
            have hYo : Y.heap[wr.heap.size]? = some (.cells #[.int .i64 0, .string ⟨#[]⟩, .int .i64 0] 142 (0, 0)) := by rw [← hY]; exact World.alloc_heap_new wr _
            rw [hY]
            refine hK.out _ _ (HS.out _ hbY) (fun _ => ?_)
            clear hK K hY
            try simp only [Act.put, List.getElem_toArray, List.getElem_cons_zero, List.getElem_cons_succ, List.setIfInBounds_toArray, List.set_cons_zero, List.set_cons_succ]
            refine wpAnyH_ready (rs := [19]) (by kernel_rfl) (by simp) ?_
            refine AllReadyH.cons rfl (fun K hK => ?_) AllReadyH.nil
            have y0 : Y.cell? ⟨wr.heap.size, 0, none⟩ = some (.int .i64 0) := by simp [World.cell?, hYo]
            have y1 : Y.cell? ⟨wr.heap.size, 1, none⟩ = some (.string ⟨#[]⟩) := by simp [World.cell?, hYo]
            have y2 : Y.cell? ⟨wr.heap.size, 2, none⟩ = some (.int .i64 0) := by simp [World.cell?, hYo]
            have z0 : Y.frozen? ⟨wr.heap.size, 0, none⟩ = false := by simp [World.frozen?, hYo]
            have z1 : Y.frozen? ⟨wr.heap.size, 1, none⟩ = false := by simp [World.frozen?, hYo]
            have z2 : Y.frozen? ⟨wr.heap.size, 2, none⟩ = false := by simp [World.frozen?, hYo]
            go_simp
            obtain ⟨Z, hZ⟩ : ∃ Z, (((Y.setCell ⟨wr.heap.size, 0, none⟩ (.int .i64 (nl : Int))).setCell ⟨wr.heap.size, 1, none⟩ (.string dw)).setCell ⟨wr.heap.size, 2, none⟩ (.int .i64 (cl : Int))) = Z := ⟨_, rfl⟩
            have hbZ : Below wr.heap.size wr Z := by rw [← hZ]; exact ((hbY.setCell (p := ⟨wr.heap.size, 0, none⟩) (Nat.le_refl _) _).setCell (p := ⟨wr.heap.size, 1, none⟩) (Nat.le_refl _) _).setCell (p := ⟨wr.heap.size, 2, none⟩) (Nat.le_refl _) _
            have hZo : Z.heap[wr.heap.size]? = some (.cells #[.int .i64 (nl : Int), .string dw, .int .i64 (cl : Int)] 142 (0, 0)) := by
              rw [← hZ]
              exact (set_cells (set_cells (set_cells hYo 0 (.int .i64 (nl : Int))) 1 (.string dw)) 2 (.int .i64 (cl : Int))).trans (by simp)
            rw [hZ]
            refine hK.out _ _ (HS.out _ hbZ) (fun _ => ?_)
            clear hK K hZ y0 y1 y2 z0 z1 z2 hYo
            refine wpAnyH_done (by kernel_rfl) ?_ _

            have hnlb : nl ≤ 1000 := by
              have h1 := grow_le HR.out.2.1 hlt2
              have h2 := HKy.out
              unfold keyS3 at h2
              simp only [Prod.mk.injEq] at h2
              omega
            have HZz := Lib.hid (HZ.out.below hbZ)
            have HNz := Lib.hid (HN.out.below hbZ)
            have hFz : OwnF Z bm s D := HF.out.below hbZ
            have HFz := Lib.hid hFz
            have HBz := Lib.hid (HB.out.trans (hbZ.mono HB.out.size))
            have hdw2 : dw.size ≤ maxLen := by unfold maxLen; omega
            have hkey := keyF hnlb hclb hdw2
            unfold keyV at hkey
            have k0 : Z.cell? ⟨wr.heap.size, 0, none⟩ = some (.int .i64 (nl : Int)) := by simp [World.cell?, hZo]
            have k1 : Z.cell? ⟨wr.heap.size, 1, none⟩ = some (.string dw) := by simp [World.cell?, hZo]
            have k2 : Z.cell? ⟨wr.heap.size, 2, none⟩ = some (.int .i64 (cl : Int)) := by simp [World.cell?, hZo]
            have HKs := Lib.hid (show nl ≤ 1000 ∧ cl ≤ 1000 ∧ dw.size ≤ maxLen from ⟨hnlb, hclb, hdw2⟩)
            have hgnZ : gn < Z.heap.size := HNz.out.lt.2
            have hbmN : ¬ bm = gn := by omega
            have hs64 : s < 1000 := by omega
            obtain ⟨n1, n1f⟩ := HNz.out.cell (k := s) (by rw [HP.out.1]; exact hlt2)
            clear HZ HN HF HB HS hd hSe hSS hbY hbZ hZo hn1 hn1f hc1 ct cd hnlb hclb hdw2 hdz hgn2 hgc2
            go_upto_region 14 with (at_lookup; refine wpList_lookup_own_ok_int _ rfl _ _ 139 rfl 142 3 .i64 lawF Try.underlying139 Try.underlying3 (zeroI _) bm s D rfl hFz _ _ rfl hkey ?_; intro cv hat hwc)
            cases hh : has D (kyF nl dw cl)
            · have hlen := run_lenM hFz
              rw [HM4.out.1] at hlen
              have hqs : q ≤ s := cover_le (fun t => ns.getD t 0) HP.out.2.2.2.1
              have hwf : (Lit.int .i64 (q : Int)).wf = true := by simp [Lit.wf, IntKind.min, IntKind.max, IntKind.signed, IntKind.bits]; omega
              have HPn := Lib.hid (passI_new HP.out hlt2)
              have HMn := Lib.hid (passM_put HM4.out (World.ownsMap.isMap hFz) (World.ownsMap.tidy hFz lawF) HKy.out HKs.out.1 HKs.out.2.1 HKs.out.2.2 hh (by rw [HP.out.1]; exact hlt2))
              clear hat hwc hh
              go_wp2_with (at_mapUpdate; refine wpList_mapUpdate_own _ rfl _ _ _ 139 rfl 142 3 lawF Try.underlying139 _ bm s D rfl hFz (by unfold maxLen; omega) _ _ _ rfl rfl hkey (inD q) [] (plainElem_int Try.underlying3 hwf) ?_; intro X1 hown1 hg1; have hN1 := HNz.out.block (hg1.block gn hgnZ (fun e => by cases e; omega)); have HN1 := Lib.hid hN1; obtain ⟨m1, m1f⟩ := hN1.cell (k := s) (by rw [HP.out.1]; exact hlt2); have HG1 := Lib.hid hg1; have HO1 := Lib.hid (show OwnF X1 bm (s + 1) _ from hown1); clear hown1 hg1 hN1)
              go_roundw
              case rel =>
                refine ⟨s + 1, q + 1, ns.set s q, _, by omega, by go_num, Lib.hid ?_, Lib.hid (HN1.out.set s q), Lib.hid ?_, Lib.hid ?_, HPn, HMn⟩
                · exact HZz.out.block ((Below.heap_setCell X1 ⟨gn, s, none⟩ _ gc (show gc ≠ gn by omega)).trans (HG1.out.block gc HZz.out.lt.2 (fun e => by cases e; omega)))
                · exact HO1.out.of_block (Below.heap_setCell X1 ⟨gn, s, none⟩ _ bm (show bm ≠ gn by omega))
                · exact (HBz.out.grown HG1.out HBz.out.size (fun x e => by cases e; have := HZz.out.lt; omega)).setCell (p := ⟨gn, s, none⟩) (by show V.heap.size ≤ gn; have := HZz.out.lt; omega) _
              case measure => simp [intOf]; omega
            · obtain ⟨t', ht', hkt, hz⟩ := HM4.out.2 nl dw cl HKs.out.1 HKs.out.2.1 HKs.out.2.2 hh
              obtain ⟨xv, hxv⟩ : ∃ x, ns.getD t' 0 = x := ⟨_, rfl⟩
              have hcv : cv = (xv : Int) := by
                have h1 := hz (.lit (.int .i64 0))
                rw [hat, hxv] at h1
                unfold inD at h1
                injection h1 with h1
                injection h1
              subst hcv
              have HPn := Lib.hid (passI_old HP.out hlt2 ht' (hkt.trans HKy.out.symm))
              have HMn := Lib.hid (passM_set (n := xv) HM4.out)
              rw [hxv] at HPn
              clear hat hwc hh hz hkt hxv
              go_wp2
              go_roundw
              case rel =>
                refine ⟨s + 1, q, ns.set s xv, D, by omega, by go_num, Lib.hid ?_, Lib.hid (HNz.out.set s xv), Lib.hid ?_, Lib.hid ?_, HPn, HMn⟩
                · exact HZz.out.block (Below.heap_setCell Z ⟨gn, s, none⟩ _ gc (show gc ≠ gn by omega))
                · exact World.ownsMap.mono (HFz.out.of_block (Below.heap_setCell Z ⟨gn, s, none⟩ _ bm (show bm ≠ gn by omega))) (by omega)
                · exact HBz.out.setCell (p := ⟨gn, s, none⟩) (by show V.heap.size ≤ gn; have := HZz.out.lt; omega) _
              case measure => simp [intOf]; omega
          · have s1 : ¬ (s : Int) < (m.r : Int) := by omega
            have hse : s = m.r := by omega
            have HRn : Hid (RefI m cs (i + 1) ns) := Lib.hid (refI_step HR.out (by have := HP.out; rwa [hse] at this))
            clear hse
            go_wp2
            go_roundw
            case rel => exact ⟨i + 1, ns, D, s, by omega, by go_num, HZ, HN, HF, HB, HRn⟩
            case measure => simp [intOf]; omega
      · have i1 : ¬ (i : Int) < (I : Int) := by omega
        have hie : i = I := by omega
        have HRn : Hid (RefI m cs I g0) := Lib.hid (by have := HR.out; rwa [hie] at this)
        have hln := HRn.out.1
        have HCl := Lib.hid (Try.slices_Clone_int gn 0 m.r cn (g0.map fun (x : Nat) => (x : Int)) wr (by simp [hln]) (by omega) (fun j hj => HN.out.ints j (by simpa using hj)))
        have HGI := Lib.hid (show (((g0.map fun (x : Nat) => (x : Int)).take m.r).map (Value.int .i64)) = (g0.map fun (x : Nat) => (x : Int)).map (Value.int .i64) from by rw [List.take_of_length_le (by simp [hln])])
        clear hie hln x0 x1 x2 x3
        go_wp2_with fail
        refine HCl.out.mono ?_
        rintro e W5 ⟨v', rfl, hown, _, hb⟩
        rw [HGI.out] at hown
        have hoi : OwnInts W5 wr.heap.size v' (g0.map fun (x : Nat) => (x : Int)) := by
          unfold OwnInts
          rw [List.length_map, HRn.out.1]
          exact hown
        have HOi := Lib.hid hoi
        have HB5 := Lib.hid (HB.out.trans (hb.mono HB.out.size))
        have HN5 := Lib.hid (HN.out.below hb)
        have hs5 : wr.heap.size ≤ W5.heap.size := hb.size
        have hgnw : gn < wr.heap.size := HN.out.lt.2
        have hVw : V.heap.size ≤ wr.heap.size := HB.out.size
        have hgg : g ≤ gc := HZ.out.lt.1
        have HwV : w.heap.size ≤ V.heap.size := HbV.out.size
        dsimp only
        clear hown hb hoi HCl HF HZ HN HB
        go_wp2_with (at_builtin; refine wpList_append_int rfl _ _ rfl wr.heap.size v' _ rfl (HOi.out.alloc _) W5.heap.size 1 (-1) rfl (by first | exact cell_new0 _ _ _ | simp) ?_ ?_ ?_)
        · rw [List.length_map, HRn.out.1]; omega
        · simp; omega
        · intro v2 W6 hown2 hgrow
          have hb6 : Below wr.heap.size W5 W6 := below_append ((Below.refl _ W5).alloc hs5 _) (HOi.out.alloc _) hgrow (by simp; omega) (Nat.le_refl _)
          obtain ⟨q6, c6, rfl, _, hI6, _⟩ := OwnInts.form hown2
          have hl6 : ((g0.map fun (x : Nat) => (x : Int)) ++ [-1]).length = m.r + 1 := by simp [HRn.out.1]
          have hMx := max_any _ q6 c6 W6 hI6 (by rw [hl6]; omega) (by rw [hl6]; omega)
          rw [hl6] at hMx ⊢
          have HMx := Lib.hid hMx
          clear hMx
          have HN6 : Hid (OwnZ W6 g gn cn g0) := Lib.hid (HN5.out.block (hb6.block gn hgnw))
          have HB6 : Hid (Below V.heap.size V W6) := Lib.hid (HB5.out.trans (hb6.mono hVw))
          clear hown2 hgrow hI6 hb6 HN5 HOi
          go_wp2_with fail
          refine HMx.out.mono ?_
          rintro e W7 ⟨rfl, M, rfl, h1, h2⟩
          obtain ⟨Mn, rfl, h3, h4⟩ := maxN (by rw [HRn.out.1]; exact r1) h1 h2
          rw [HRn.out.1] at h3 h4
          have hcn := grow_cnt HRn.out.2.1 h3 h4
          have hkm := cnt_le hcn
          have HCn := Lib.hid hcn
          obtain ⟨kn, hkn⟩ : ∃ x, Mn + 1 = x := ⟨_, rfl⟩
          have hMn9 : Mn + 1 ≤ 1000 := by omega
          have HK1 : Hid (wrap64 ((Mn : Int) + 1) = (kn : Int)) := Lib.hid (by rw [← hkn]; exact wrapN (Mn + 1) hMn9)
          clear hMn9
          have HKn := Lib.hid hkn
          dsimp only
          clear h1 h2 h3 h4 hcn HMx hl6 hkn
          by_cases hke : kn = k
          · have hkb : ((kn : Int) == (k : Int)) = true := by rw [hke]; simp
            have HPost : Hid (ClsPost m I w (.returned (.slice (some ⟨gn, 0, none⟩) m.r cn)) W7) := Lib.hid ⟨g0, kn, gn, cn, rfl, HN6.out.base (by have := HN6.out.lt; omega), HbV.out.trans (HB6.out.mono HbV.out.size), HRn.out.1, by rw [← HKn.out]; exact HCn.out, refI_stable HM.out HRn.out HC.out.2.2 (by rw [← hke, ← HKn.out]; exact HCn.out), HRn.out.2.1⟩
            have K1 := HK1.out
            have K2 : IntKind.i64.wrap ((Mn : Int) + 1) = (kn : Int) := (IntWalk.i64_left _).trans K1
            clear hke
            go_wp2
            go_ret
            exact HPost.out
          · have hkb : ((kn : Int) == (k : Int)) = false := by rw [beq_eq_false_iff_ne]; omega
            have HCi : Hid (ClsI m g0 kn) := Lib.hid ⟨HRn.out.1, HRn.out.2.1, by rw [← HKn.out]; exact HCn.out⟩
            have hkk : k < kn := by
              have h5 := cnt_mono HCn.out HC.out.2.2 (fun s t hs ht e => (HRn.out.2.2 s t hs ht e).1)
              have := HKn.out
              omega
            have hkr : kn ≤ m.r := by rw [← HKn.out]; exact hkm
            have K1 := HK1.out
            have K2 : IntKind.i64.wrap ((Mn : Int) + 1) = (kn : Int) := (IntWalk.i64_left _).trans K1
            clear hke hkm
            go_wp2
            clear K1 K2
            go_roundw
            case rel => exact ⟨gn, cn, kn, g0, rfl, rfl, HN6, HB6, HCi⟩
            case measure => simp [intOf]; omega
end Go.Proofs.Ytcafeffgaokiaaa
