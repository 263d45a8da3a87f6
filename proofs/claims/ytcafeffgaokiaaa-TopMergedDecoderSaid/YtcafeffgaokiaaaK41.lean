/- The walk of reduction.Merge. -/
import Derived.Test.YtcafeffgaokiaaaK40
import Derived.Test.YtcafeffgaokiaaaK33
namespace Go.Proofs.Ytcafeffgaokiaaa
open Go.RowKit Go.Maps Go.Lib Go.Sort
/-- What reduction.Merge answers. -/
def MrgPost (l b : Int) (m : EM) (I : Nat) (w : World) (e : Ending) (w' : World) : Prop :=
  ∃ (f : Nat → Nat) (k : Nat) (q : Option Addr) (cq gc cc : Nat), e = .returned (.tuple #[.agg #[.int .i64 l, .int .i64 b, .int .i64 (I : Int), .slice q k cq], .slice (some ⟨gc, 0, none⟩) m.r cc, .int .i64 0]) ∧ (mrg m I f k).At w' q ∧ Cnt f m.r k ∧ Stable m I f ∧ Below w.heap.size w w'
theorem merge_results {W : World} {g : Nat} {l b i : Int} {q : Option Addr} {r c : Nat} {v3 v4 : Value} (h1 : W.heap[g]? = some (encO l b i q r c)) (tmps : Array Value) (hp : tmps.getD 2 undef = .pointer (some ⟨g, 0, none⟩)) (h3 : tmps.getD 3 undef = v3) (h4 : tmps.getD 4 undef = v4) :
    (results Try.f27 tmps).run Try.prog W = .ok (.tuple #[.agg #[.int .i64 l, .int .i64 b, .int .i64 i, .slice q r c], v3, v4]) W := by
  have hl : (loadVar 24 ⟨g, 0, none⟩).run Try.prog W = .ok (.agg #[.int .i64 l, .int .i64 b, .int .i64 i, .slice q r c]) W := run_loadVar_row W g _ _ _ _ _ h1 Try.underlying24 rfl (by kernel_rfl)
  have hr : Try.f27.results = #[.cell 2 24, .tmp 3, .tmp 4] := rfl
  simp only [results, hr]
  simp only [Array.getD_eq_getD_getElem?] at hp h3 h4
  simp [Sem.run_bind, Result.andThen, hp, h3, h4, asAddr, hl]
theorem OwnH.form {W : World} {base : Nat} {v : Value} {I : Nat} {hs : List (Nat × Nat)} (h : OwnH W base v I hs) : ∃ a c, v = .slice a hs.length c := by
  rcases h.2 with ⟨h3, h4⟩ | ⟨g', cap, cur, h3, _⟩
  · exact ⟨none, 0, by rw [h3, h4]⟩
  · exact ⟨_, _, h3⟩
theorem row_ys {m : EM} {I : Nat} {f : Nat → Nat} {s : Nat} {W : World} {cb co : Nat} (h : ∀ k, k < I → W.cell? ⟨cb, co + k * 2, none⟩ = some (.int .i64 (m.T s k)) ∧ W.cell? ⟨cb, co + k * 2 + 1, none⟩ = some (.string (m.D s k))) : ∀ k (hk : k < (rowJ m I f s 0).length), W.cell? ⟨cb, co + k * 2, none⟩ = some (.int .i64 (rowJ m I f s 0)[k].1) ∧ W.cell? ⟨cb, co + k * 2 + 1, none⟩ = some (.string (rowJ m I f s 0)[k].2) := fun k hk => by
  have hkI : k < I := by rw [rowJ_len] at hk; exact hk
  rw [rowJ_get hk, if_neg (by omega)]
  exact h k hkI
theorem ownC_form {W : World} {base I : Nat} {v : Value} {ys : List (Int × ByteArray)} (h : OwnC W base v ys) (hl : ys.length = I) (hI : 1 ≤ I) : ∃ gx cx, v = .slice (some ⟨gx, 0, none⟩) I cx ∧ CelR W base gx cx ys := by
  rcases h.2 with ⟨_, h0⟩ | ⟨g', cap, cur, hv, h3⟩
  · omega
  · refine ⟨g', cap, by rw [hv, hl], ?_⟩
    unfold OwnC at h
    rw [hv] at h
    exact h
theorem RowsI.kept2 {m : EM} {I : Nat} {f : Nat → Nat} {base s : Nat} {hs : List (Nat × Nat)} {W W' : World} (h : RowsI m I f base s hs W) (hb : ∀ c (hc : c < hs.length), W'.heap[hs[c].1]? = W.heap[hs[c].1]?) : RowsI m I f base s hs W' :=
  ⟨h.1, h.2.1, fun c hc => (h.2.2 c hc).block (hb c hc)⟩
theorem OwnH.form2 {W : World} {base : Nat} {v : Value} {I : Nat} {hs : List (Nat × Nat)} (h : OwnH W base v I hs) (h0 : 0 < hs.length) : ∃ g c, v = .slice (some ⟨g, 0, none⟩) hs.length c := by
  rcases h.2 with ⟨_, h4⟩ | ⟨g', cap, cur, h3, _⟩
  · omega
  · exact ⟨_, _, h3⟩
theorem frozen_encO {W : World} {g : Nat} {l b i : Int} {p : Option Addr} {r c : Nat} (h : W.heap[g]? = some (encO l b i p r c)) (j : Nat) : W.frozen? ⟨g, j, none⟩ = false := by
  unfold encO at h
  simp [World.frozen?, h]
/-- The encoder's result is stored. -/
theorem put_enc {W : World} {g : Nat} {l0 b0 i0 : Int} {p0 : Option Addr} {r0 c0 : Nat} (h1 : W.heap[g]? = some (encO l0 b0 i0 p0 r0 c0)) (l b i : Int) (p : Option Addr) (r c : Nat) (X : World)
    (hX : X = (((W.setCell ⟨g, 0, none⟩ (.int .i64 l)).setCell ⟨g, 1, none⟩ (.int .i64 b)).setCell ⟨g, 2, none⟩ (.int .i64 i)).setCell ⟨g, 3, none⟩ (.slice p r c)) :
    X.heap[g]? = some (encO l b i p r c) ∧ (∀ k, k ≠ g → X.heap[k]? = W.heap[k]?) ∧ ∀ (B : Nat) (w : World), B ≤ g → Below B w W → Below B w X := by
  unfold encO at h1
  have s4 := set_cells (set_cells (set_cells (set_cells h1 0 (.int .i64 l)) 1 (.int .i64 b)) 2 (.int .i64 i)) 3 (.slice p r c)
  have hs : ∀ (Y : World) (q j k : Nat) (u : Value), k ≠ q → (Y.setCell ⟨q, j, none⟩ u).heap[k]? = Y.heap[k]? := fun Y q j k u hk => Below.heap_setCell Y ⟨q, j, none⟩ u k hk
  subst hX
  refine ⟨?_, fun k k1 => ?_, fun B w hB hb => ?_⟩
  · rw [s4]
    simp [encO]
  · rw [hs _ _ _ _ _ k1, hs _ _ _ _ _ k1, hs _ _ _ _ _ k1, hs _ _ _ _ _ k1]
  · exact (((hb.setCell (p := ⟨g, 0, none⟩) hB _).setCell (p := ⟨g, 1, none⟩) hB _).setCell (p := ⟨g, 2, none⟩) hB _).setCell (p := ⟨g, 3, none⟩) hB _
set_option maxRecDepth 100000 in
set_option maxHeartbeats 8000000 in
theorem merge_any (l b : Int) (I B : Nat) (m : EM) (p : Option Addr) (c : Nat) (w : World) (hA : m.At w p) (hf : m.Fit) (he : encCheck l b (I : Int) m = 0) (hm : m.Ok I B) (hI1 : 1 ≤ I) (hI : I ≤ 256) (hB : B ≤ 16) (r1 : 0 < m.r) (r2 : m.r ≤ 64) :
    Calls Try.prog 27 #[.agg #[.int .i64 l, .int .i64 b, .int .i64 (I : Int), .slice p m.r c]] w (MrgPost l b m I w) := by
  obtain ⟨V, hV⟩ : ∃ V, (w.alloc (encO l b (I : Int) p m.r c)).alloc (encO 0 0 0 none 0 0) = V := ⟨_, rfl⟩
  have hbV : Below w.heap.size w V := by rw [← hV]; exact ((Below.refl w.heap.size w).alloc (Nat.le_refl _) _).alloc (by simp) _
  obtain ⟨g, hg⟩ : ∃ g, w.heap.size = g := ⟨_, rfl⟩
  obtain ⟨o0, o1, hsV⟩ := alloc2 w (encO l b (I : Int) p m.r c) (encO 0 0 0 none 0 0)
  rw [hV, hg] at o0 o1 hsV
  have HO := Lib.hid (fun (W : World) (h : Below V.heap.size V W) => show W.heap[g]? = some (encO l b (I : Int) p m.r c) ∧ W.heap[g + 1]? = some (encO 0 0 0 none 0 0) from ⟨(h.block _ (by omega)).trans o0, (h.block _ (by omega)).trans o1⟩)
  obtain ⟨x0, x1, x2, x3⟩ := cells_encO o0
  clear o0 o1
  unfold encO at hV
  have HC := Lib.hid (fun (W : World) (h : Below w.heap.size w W) => encCheck_any l b (I : Int) m p c W (hA.below (Nat.le_refl _) h) hf)
  rw [he] at HC
  have HCl := Lib.hid (fun (W : World) (h : Below w.heap.size w W) => classes_any l b I B m p c W (hA.below (Nat.le_refl _) h) hm hI hB r1 r2)
  have HbV := Lib.hid hbV
  have HA := Lib.hid hA
  have HM := Lib.hid hm
  clear hbV hA hf he hm
  go_enter Try.func27, Try.ntmps27
  go_upto_region 1 with (fail)
  clear hV
  go_wp2_with fail
  refine (HC.out _ HbV.out).mono ?_; rintro e W1 ⟨rfl, hb⟩
  have HB1 := Lib.hid hb
  have HW1 := Lib.hid (HbV.out.trans (hb.mono HbV.out.size))
  clear hb x0 x1 x2 x3 HC
  obtain ⟨x0, x1, x2, x3⟩ := cells_encO (HO.out _ HB1.out).1
  go_wp2_with fail
  refine (HCl.out _ HW1.out).mono ?_
  rintro e W2 ⟨cs, kk, gc, cc, rfl, hZ, hb, hcl, hcn, hst, hgr⟩
  obtain ⟨f, hf⟩ : ∃ f : Nat → Nat, f = fun t => cs.getD t 0 := ⟨_, rfl⟩
  have Hf := Lib.hid hf
  have HSt : Hid (Stable m I f) := Lib.hid (by rw [hf]; exact hst)
  have HGr : Hid (Grow f m.r) := Lib.hid (by rw [hf]; exact hgr)
  have HB2 := Lib.hid (HB1.out.trans (hb.mono HB1.out.size))
  have hgc1 : g + 1 < gc := by have := hZ.lt.1; have := HB1.out.size; omega
  have HZ2 := Lib.hid (hZ.base (base' := g) (by omega))
  have Hcl := Lib.hid hcl
  have hs2 : V.heap.size ≤ W2.heap.size := HB2.out.size
  dsimp only
  clear hZ hb hcl hcn hst hgr hf x0 x1 x2 x3 HCl HB1 HW1
  obtain ⟨x0, x1, x2, x3⟩ := cells_encO (HO.out _ HB2.out).1
  go_wp2
  go_loopw [6, 20] (fun v6 sv wr => ∃ (s : Nat) (hs : List (Nat × Nat)), s ≤ m.r ∧ sv = .int .i64 (s : Nat) ∧ Hid (OwnH wr (g + 1 + 1) v6 I hs) ∧ Hid (RowsI m I f (g + 1 + 1) s hs wr) ∧ Hid (OwnZ wr g gc cc cs) ∧ Hid (Below V.heap.size V wr)) (fun _ sv _ => m.r - (intOf sv).toNat)
  case atStart => exact ⟨0, [], by omega, by go_num, Lib.hid (World.ownsRow_nil _ _ _ _), Lib.hid (RowsI.nil _ _ _ _ _), HZ2, HB2⟩
  case round =>
    clear HZ2 HB2 x0 x1 x2 x3
    obtain ⟨s, hs, hsr, rfl, HH, HR, HZ, HB⟩ := hrel
    obtain ⟨x0, x1, x2, x3⟩ := cells_encO (HO.out _ HB.out).1
    have HwB := Lib.hid (HbV.out.trans (HB.out.mono HbV.out.size))
    by_cases hlt : s < m.r
    · obtain ⟨rb, ro, rq, rc, rfl, hrb, hrow, hcells⟩ := EM.At.row (HA.out.below (Nat.le_refl _) HwB.out) hlt
      rw [HM.out.len s hlt] at hrow
      have hs0 : (0 : Int) ≤ (s : Int) := by omega
      have hs1 : (s : Int) < (m.r : Int) := by omega
      have hc1 := (HZ.out.cell (k := s) (by rw [Hcl.out]; exact hlt)).1
      obtain ⟨fs, hfs⟩ : ∃ x, cs.getD s 0 = x := ⟨_, rfl⟩
      rw [hfs] at hc1
      have Hfs : Hid (f s = fs) := Lib.hid (by rw [Hf.out]; exact hfs)
      obtain ⟨q, hq⟩ : ∃ x, hs.length = x := ⟨_, rfl⟩
      have Hq := Lib.hid hq
      obtain ⟨a6, c6, rfl⟩ := HH.out.form
      have HH' := Lib.hid HH.out
      rw [hq] at HH' ⊢
      by_cases hlq : fs < q
      · have t1 : (fs : Int) < (q : Int) := by omega
        have HRs : Hid (RowsI m I f (g + 1 + 1) (s + 1) hs wr) := Lib.hid (HR.out.skip (by rw [Hfs.out, Hq.out]; exact hlq))
        have HHs : Hid (OwnH wr (g + 1 + 1) (.slice a6 q c6) I hs) := HH'
        clear hfs hq hcells
        go_wp2
        go_roundw
        case rel => exact ⟨s + 1, hs, by omega, by go_num, HHs, HRs, HZ, HB⟩
        case measure => simp [intOf]; omega
      · have t1 : ¬ (fs : Int) < (q : Int) := by omega
        have hfq : f s = hs.length := HR.out.first HGr.out hlt (by rw [Hfs.out, Hq.out]; exact hlq)
        have Hfq := Lib.hid hfq
        obtain ⟨cb, co, hrq, hcb, hcs⟩ : ∃ cb co, rq = some ⟨cb, co, none⟩ ∧ cb < wr.heap.size ∧ ∀ k, k < I → wr.cell? ⟨cb, co + k * 2, none⟩ = some (.int .i64 (m.T s k)) ∧ wr.cell? ⟨cb, co + k * 2 + 1, none⟩ = some (.string (m.D s k)) := by
          rcases hcells with h | ⟨cb, co, rfl, hlt3, hc⟩
          · rw [HM.out.len s hlt] at h; omega
          · refine ⟨cb, co, rfl, hlt3, fun k hk => ⟨?_, ?_⟩⟩
            · have := hc k (by rw [HM.out.len s hlt]; exact hk) 0 (by omega); simpa [EM.cell] using this
            · have := hc k (by rw [HM.out.len s hlt]; exact hk) 1 (by omega); simpa [EM.cell] using this
        subst hrq
        have hcl2 := clonec_any (rowJ m I f s 0) cb co rc wr hcb (row_ys hcs) (by rw [rowJ_len]; omega)
        rw [rowJ_len] at hcl2
        have HCl2 := Lib.hid hcl2
        clear hcl2 hcs hcells hfq hfs hq
        go_wp2_with fail
        refine HCl2.out.mono ?_
        rintro e W3 ⟨v9, rfl, ho9, hb⟩
        obtain ⟨gx, cx, rfl, hX⟩ := ownC_form ho9 (rowJ_len _ _ _ _ _) hI1
        have hgx := hX.lt
        have HX3 := Lib.hid (hX.base (base' := g + 1 + 1) (by have := HB.out.size; omega))
        have HH3 : Hid (OwnH W3 (g + 1 + 1) (.slice a6 q c6) I hs) := Lib.hid (HH'.out.below hb)
        have HR3 := Lib.hid (HR.out.below hb)
        have HZ3 := Lib.hid (HZ.out.below hb)
        have HB3 := Lib.hid (HB.out.trans (hb.mono HB.out.size))
        have hgcx : gc < gx := by have := HZ.out.lt; omega
        have HLt : Hid (∀ c (hc : c < hs.length), hs[c].1 < gx) := Lib.hid (fun c hc => by have := (HR.out.2.2 c hc).lt; omega)
        have hVx : V.heap.size ≤ gx := by have := HB.out.size; omega
        dsimp only
        clear ho9 hX hb hgx HH' HH HR HZ HB HCl2 x0 x1 x2 x3 hc1 hrow HwB
        go_wp2
        go_loopw [36] (fun jv wr => ∃ j : Nat, j ≤ I ∧ jv = .int .i64 (j : Nat) ∧ Hid (OwnH wr (g + 1 + 1) (.slice a6 q c6) I hs) ∧ Hid (RowsI m I f (g + 1 + 1) s hs wr) ∧ Hid (OwnZ wr g gc cc cs) ∧ Hid (Below V.heap.size V wr) ∧ Hid (CelR wr (g + 1 + 1) gx cx (rowJ m I f s j))) (fun jv _ => I - (intOf jv).toNat)
        case atStart => exact ⟨0, by omega, by go_num, HH3, HR3, HZ3, HB3, HX3⟩
        case round =>
          clear HH3 HR3 HZ3 HB3 HX3
          obtain ⟨j, hj, rfl, HH, HR, HZ, HB, HX⟩ := hrel
          by_cases hlj : j < I
          · have hjl : j < (rowJ m I f s j).length := by rw [rowJ_len]; exact hlj
            obtain ⟨d1, d2, d3⟩ := HX.out.cell hjl
            have hst := HX.out.set hjl (f (m.T s j).toNat : Int)
            rw [rowJ_get hjl, if_neg (Nat.lt_irrefl j)] at d1 hst
            rw [rowJ_set] at hst
            obtain ⟨t, ht⟩ : ∃ t, (m.T s j).toNat = t := ⟨_, rfl⟩
            have htr : t < m.r := by rw [← ht]; exact HM.out.to1 s j hlt hlj
            have hte : m.T s j = (t : Int) := by rw [← ht]; have := HM.out.to0 s j hlt hlj; omega
            rw [ht] at hst
            dsimp only at d1
            rw [hte] at d1
            have hc2 := (HZ.out.cell (k := t) (by rw [Hcl.out]; exact htr)).1
            obtain ⟨ft, hft⟩ : ∃ x, cs.getD t 0 = x := ⟨_, rfl⟩
            have hfft : f t = ft := by rw [Hf.out]; exact hft
            rw [hft] at hc2
            rw [hfft] at hst
            have HSt2 := Lib.hid hst
            have j0 : (0 : Int) ≤ (j : Int) := by omega
            have j1 : (j : Int) < (I : Int) := by omega
            have t0 : (0 : Int) ≤ (t : Int) := by omega
            have t1' : (t : Int) < (m.r : Int) := by omega
            have HHn : Hid (OwnH (wr.setCell ⟨gx, j * 2, none⟩ (.int .i64 (ft : Int))) (g + 1 + 1) (.slice a6 q c6) I hs) := Lib.hid (HH.out.kept fun b e => Below.heap_setCell wr ⟨gx, j * 2, none⟩ _ b (show b ≠ gx from fun e2 => by
              obtain ⟨cur, ho⟩ := HX.out.obj
              exact HH.out.ne ho (by decide) (by rw [e, e2])))
            have HRn : Hid (RowsI m I f (g + 1 + 1) s hs (wr.setCell ⟨gx, j * 2, none⟩ (.int .i64 (ft : Int)))) := Lib.hid (HR.out.kept2 fun c hc => Below.heap_setCell wr ⟨gx, j * 2, none⟩ _ _ (show hs[c].1 ≠ gx by have := HLt.out c hc; omega))
            have HZn : Hid (OwnZ (wr.setCell ⟨gx, j * 2, none⟩ (.int .i64 (ft : Int))) g gc cc cs) := Lib.hid (HZ.out.block (Below.heap_setCell wr ⟨gx, j * 2, none⟩ _ gc (show gc ≠ gx by omega)))
            have HBn : Hid (Below V.heap.size V (wr.setCell ⟨gx, j * 2, none⟩ (.int .i64 (ft : Int)))) := Lib.hid (HB.out.setCell (p := ⟨gx, j * 2, none⟩) hVx _)
            clear hst hte ht hft hfft d2 HH HR HZ HB HX
            go_wp2
            go_roundw
            case rel => exact ⟨j + 1, by omega, by go_num, HHn, HRn, HZn, HBn, HSt2⟩
            case measure => simp [intOf]; omega
          · have j1 : ¬ (j : Int) < (I : Int) := by omega
            have hje : j = I := by omega
            have HXn : Hid (CelR wr (g + 1 + 1) gx cx (rowJ m I f s I)) := Lib.hid (by have := HX.out; rwa [hje] at this)
            clear hje
            obtain ⟨i0, hi0, hz0, hz1, hz2⟩ := info_parts hdrCInfo
            have hqs : hs.length ≤ s := cover_le f HR.out.2.1
            have hHa : (wr.alloc (.cells #[.slice (some ⟨gx, 0, none⟩) I cx] 82)).ownsRow (g + 1 + 1) 82 1 (.slice a6 q c6) hs.length (hs.map (hdV I)) := World.ownsRow.alloc HH.out _
            have hwr2 : g + 1 + 1 ≤ wr.heap.size := by have := HB.out.size; omega
            have hcl0 : (wr.alloc (.cells #[.slice (some ⟨gx, 0, none⟩) I cx] 82)).heap[wr.heap.size]? = some (.cells #[.slice (some ⟨gx, 0, none⟩) I cx] 82 (0, 0)) := World.alloc_heap_new wr _
            go_wp2_with (at_builtin; refine wpList_append_own _ rfl _ _ _ rfl (g + 1 + 1) 82 i0 (.slice none 0 0) 1 24 Try.underlying22 hi0 hz0 hz1 hz2 rfl (by decide) _ hs.length (hs.map (hdV I)) rfl hHa ⟨wr.heap.size, 0, none⟩ 1 1 [.slice (some ⟨gx, 0, none⟩) I cx] rfl rfl ?_ ?_ ?_ ?_ ?_ ?_)
            all_goals (try (first | rfl | omega | (unfold maxLen; omega) | (simp; omega)))
            · intro v' W5 h2 h3 _
              have hk : ∀ x cur ty, ty ≠ 82 → wr.heap[x]? = some (Obj.cells cur ty (0, 0)) → W5.heap[x]? = wr.heap[x]? := fun x cur ty hty ho => by
                have hlx := (Array.getElem?_eq_some_iff.1 ho).1
                exact (h3.block x (by simp; omega) (fun e => HH.out.ne ho hty e.symm)).trans (Below.heap_alloc _ _ _ hlx)
              have HHn : Hid (OwnH W5 (g + 1 + 1) v' I (hs ++ [(gx, cx)])) := Lib.hid (by
                unfold OwnH
                rw [List.length_append, List.map_append]
                exact h2)
              obtain ⟨curx, hox⟩ := HXn.out.obj
              have hX5 : CelR W5 (g + 1 + 1) gx cx (rowJ m I f s I) := HXn.out.block (hk gx curx _ (by decide) hox)
              have HRn : Hid (RowsI m I f (g + 1 + 1) (s + 1) (hs ++ [(gx, cx)]) W5) := Lib.hid ((HR.out.kept fun x cur ho => hk x cur _ (by decide) ho).add hlt Hfq.out hX5)
              obtain ⟨curz, hoz⟩ := HZ.out.obj
              have HZn : Hid (OwnZ W5 g gc cc cs) := Lib.hid (HZ.out.block (hk gc curz _ (by decide) hoz))
              have HBn : Hid (Below V.heap.size V W5) := Lib.hid ((HB.out.alloc HB.out.size _).grown h3 (by have := HB.out.size; simp; omega) (fun x e => by have := (World.ownsRow.lt HH.out x e).1; omega))
              obtain ⟨a7, c7, rfl⟩ := HHn.out.form
              clear h2 h3 hk hX5 hox hoz hHa hcl0 HH HR HZ HB HXn
              rw [List.length_append, List.length_singleton] at HHn ⊢
              go_wp2
              go_roundw
              case rel => exact ⟨s + 1, hs ++ [(gx, cx)], by omega, by go_num, HHn, HRn, HZn, HBn⟩
              case measure => simp [intOf]; omega
    · have s1 : ¬ (s : Int) < (m.r : Int) := by omega
      have hse : s = m.r := by omega
      have HRn : Hid (RowsI m I f (g + 1 + 1) m.r hs wr) := Lib.hid (by have := HR.out; rwa [hse] at this)
      clear hse
      have hk0 : 0 < hs.length := by have := HRn.out.1 0 r1; omega
      obtain ⟨g6, c6, rfl⟩ := HH.out.form2 hk0
      obtain ⟨q, hq⟩ : ∃ x, hs.length = x := ⟨_, rfl⟩
      have Hq := Lib.hid hq
      have HH' := Lib.hid HH.out
      rw [hq] at HH' ⊢
      clear hq hk0 HH HR
      go_wp2_with fail
      refine (with_any l b (I : Int) p m.r c (some ⟨g6, 0, none⟩) q c6 wr).mono ?_
      rintro e X ⟨rfl, hb⟩
      have HBx := Lib.hid (HB.out.trans (hb.mono HB.out.size))
      have HRx := Lib.hid (HRn.out.below hb)
      have HHx : Hid (OwnH X (g + 1 + 1) (.slice (some ⟨g6, 0, none⟩) q c6) I hs) := Lib.hid (HH'.out.below hb)
      have o1 := (HO.out _ HBx.out).2
      obtain ⟨y0, y1, y2, y3⟩ := cells_encO o1
      have f0 := frozen_encO o1 0
      have f1 := frozen_encO o1 1
      have f2 := frozen_encO o1 2
      have f3 := frozen_encO o1 3
      have HPe := Lib.hid (put_enc o1 l b (I : Int) (some ⟨g6, 0, none⟩) q c6 _ rfl)
      have HwX := Lib.hid (HbV.out.trans (HBx.out.mono HbV.out.size))
      dsimp only
      clear hb o1 HH' HRn HB x0 x1 x2 x3
      go_wp2
      refine bodyPost_ret (merge_results (g := g + 1) HPe.out.1 _ rfl rfl rfl) rfl ?_
      have hR9 := HRx.out.kept2 (fun c hc => HPe.out.2.1 hs[c].1 (by have := (HRx.out.2.2 c hc).lt; omega))
      have hH9 := HHx.out.kept (fun b e => HPe.out.2.1 b (by have := (World.ownsRow.lt HHx.out b e).1; omega))
      have hqe := Hq.out
      subst hqe
      refine ⟨f, _, some ⟨g6, 0, none⟩, c6, gc, cc, rfl, ?_, ?_, HSt.out, HPe.out.2.2 w.heap.size w (by omega) HwX.out⟩
      · exact hR9.at hH9
      · exact hR9.cnt
end Go.Proofs.Ytcafeffgaokiaaa
