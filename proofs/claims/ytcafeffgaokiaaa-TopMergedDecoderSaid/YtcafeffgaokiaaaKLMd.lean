/- The walk of the statement TopMergedDecoder: it returns true for every input. -/
import Derived.Test.YtcafeffgaokiaaaK41
import Derived.Test.YtcafeffgaokiaaaK35
import Derived.Test.YtcafeffgaokiaaaK36
import Derived.Test.YtcafeffgaokiaaaK44
namespace Go.Proofs.Ytcafeffgaokiaaa
open Go.RowKit Go.Maps Go.Lib Go.Sort
theorem search_form {lo : Nat} {l : Int} {B I : Nat} {m : EM} {M : Nat} {e : Ending} {W : World} (h : SearchPost lo l B I m M e W) : ∃ (l' b' i' p' f' : Int) (va : Option Addr) (vn vc : Nat) (e0 : Int), e = .returned (.tuple #[.agg #[.int .i64 l', .int .i64 b', .int .i64 i', .int .i64 p', .int .i64 f', .slice va vn vc], .int .i64 e0]) := by
  rcases h with ⟨_, rfl⟩ | ⟨_, _, _, _, _, _, rfl⟩ | ⟨_, _, _, _, _, _, _, _, _, _, rfl, _⟩
  · exact ⟨_, _, _, _, _, _, _, _, _, rfl⟩
  · exact ⟨_, _, _, _, _, _, _, _, _, rfl⟩
  · exact ⟨_, _, _, _, _, _, _, _, _, rfl⟩
theorem mrg_fit {m : EM} {I B : Nat} (hm : m.Ok I B) {f : Nat → Nat} {k : Nat} (hc : Cnt f m.r k) (hr : m.r ≤ 64) (hI : I ≤ 256) (hB : B ≤ 16) : (mrg m I f k).Fit := by
  have hk := cnt_le hc
  refine ⟨Nat.le_trans (show k ≤ 64 from Nat.le_trans hk hr) (by decide), fun i hi => ⟨Nat.le_trans (show I ≤ 256 from hI) (by decide), fun j hj => ?_⟩⟩
  rw [(mrg_ok hm hc).wd i j hi hj]
  exact Nat.le_trans hB (by decide)
theorem max4z {P : Program} (ts : Array TypeId) (t : TypeId) (w : World) : (Builtin.max_ ts t #[.int .i64 0, .int .i64 0, .int .i64 0, .int .i64 0]).run P w = .ok (.int .i64 0) w := rfl
set_option maxRecDepth 100000 in
set_option maxHeartbeats 8000000 in
theorem mergedLaw (l b i : Int) (m : EM) (p : Option Addr) (c : Nat) (w : World) (hA : m.At w p) (hf : m.Fit) :
    Calls Try.prog 6 #[.agg #[.int .i64 l, .int .i64 b, .int .i64 i, .slice p m.r c]] w fun e w' => e = .returned (.bool true) ∧ Below w.heap.size w w' := by
  obtain ⟨V, hV⟩ : ∃ V, w.alloc (encO l b i p m.r c) = V := ⟨_, rfl⟩
  have hbV : Below w.heap.size w V := by rw [← hV]; exact (Below.refl w.heap.size w).alloc (Nat.le_refl _) _
  obtain ⟨g, hg⟩ : ∃ g, w.heap.size = g := ⟨_, rfl⟩
  have o0 : V.heap[g]? = some (encO l b i p m.r c) := by rw [← hV, ← hg]; exact World.alloc_heap_new w _
  have hsV : V.heap.size = g + 1 := by rw [← hV]; simp [hg]
  have HO := Lib.hid (fun (W : World) (h : Below V.heap.size V W) => show W.heap[g]? = some (encO l b i p m.r c) from (h.block _ (by omega)).trans o0)
  obtain ⟨x0, x1, x2, x3⟩ := cells_encO o0
  clear o0
  unfold encO at hV
  have HFi := Lib.hid (fun (W : World) (h : Below w.heap.size w W) => fine3_any l b i m p c W (hA.below (Nat.le_refl _) h) hf)
  have HbV := Lib.hid hbV
  have HA := Lib.hid hA
  have HF := Lib.hid hf
  clear hbV hA hf
  go_enter Try.func6, Try.ntmps6
  go_upto_region 1 with (fail)
  clear hV
  go_wp2_with fail
  refine (HFi.out _ HbV.out).mono ?_
  rintro e W1 ⟨ok, rfl, hok, hb⟩
  dsimp only
  have HB1 := Lib.hid hb
  have HW1 := Lib.hid (HbV.out.trans (hb.mono HbV.out.size))
  obtain ⟨y0, y1, y2, y3⟩ := cells_encO (HO.out _ hb)
  clear x0 x1 x2 x3 hb HFi
  cases ok
  case false =>
    clear hok
    go_wp2_with (go_at_call 8; refine (awake3_any _).mono ?_; rintro e w9 ⟨rfl, hb⟩; have Hb9 := Lib.hid hb; clear hb)
    go_ret
    exact ⟨rfl, by first | exact HW1.out.trans (Hb9.out.mono HW1.out.size) | (rw [← hg]; exact HW1.out.trans (Hb9.out.mono HW1.out.size))⟩
  case true =>
    obtain ⟨he, hr6, hi4, hb4⟩ := hok rfl
    clear hok
    obtain ⟨⟨l1, l2⟩, ⟨b1, b2⟩, ⟨i1, i2⟩, ⟨r1, r2⟩, hmok, hwd⟩ := encCheck_ok he
    obtain ⟨L, rfl⟩ : ∃ L : Nat, l = L := ⟨l.toNat, by omega⟩
    obtain ⟨B, rfl⟩ : ∃ B : Nat, b = B := ⟨b.toNat, by omega⟩
    obtain ⟨I, rfl⟩ : ∃ I : Nat, i = I := ⟨i.toNat, by omega⟩
    rw [Int.toNat_natCast, Int.toNat_natCast] at hmok
    have HHe := Lib.hid he
    have HM := Lib.hid hmok
    clear he hmok hwd
    go_wp2_with fail
    refine (merge_any (L : Int) (B : Int) I B m p c W1 (HA.out.below (Nat.le_refl _) HW1.out) HF.out HHe.out HM.out (by omega) (by omega) (by omega) r1 r2).mono ?_
    rintro e W2 ⟨f, k, q, cq, gc, cc, rfl, hAm, hcn, hst, hb⟩
    have HAm := Lib.hid hAm
    have HCn := Lib.hid hcn
    have HSt := Lib.hid hst
    have HB2 := Lib.hid (HB1.out.trans (hb.mono HB1.out.size))
    have HW2 := Lib.hid (HW1.out.trans (hb.mono HW1.out.size))
    dsimp only
    clear y0 y1 y2 y3 hb hAm hcn hst HB1 HW1
    go_upto_region 4 with (fail)
    obtain ⟨u1, hu1⟩ : ∃ x, W2.heap.size = x := ⟨_, rfl⟩
    obtain ⟨X3, hX3⟩ : ∃ X, W2.alloc (encO (L : Int) (B : Int) (I : Int) q k cq) = X := ⟨_, rfl⟩
    have hb : Below W2.heap.size W2 X3 := by rw [← hX3]; exact (Below.refl _ _).alloc (Nat.le_refl _) _
    have h3u : X3.heap[u1]? = some (encO (L : Int) (B : Int) (I : Int) q k cq) := by rw [← hX3, ← hu1]; exact World.alloc_heap_new W2 _
    have HU1 := Lib.hid h3u
    have HB3 := Lib.hid (HB2.out.trans (hb.mono HB2.out.size))
    have HW3 := Lib.hid (HW2.out.trans (hb.mono HW2.out.size))
    have HA3 := Lib.hid (HAm.out.below (Nat.le_refl _) hb)
    have hmr : (mrg m I f k).r = k := rfl
    unfold encO at hX3
    rw [hX3, hu1]
    clear hX3 hb h3u HB2 HW2 HAm
    obtain ⟨x0, x1, x2, x3⟩ := cells_encO (HO.out _ HB3.out)
    go_wp2_with fail
    refine (wsearch_any (L : Int) (B : Int) (I : Int) m p c 2 X3 (HA.out.below (Nat.le_refl _) HW3.out) HF.out HHe.out (by decide)).mono ?_
    rintro e W4 ⟨hp, hb⟩
    obtain ⟨l', b', i', p', f', va, vn, vc, e0, rfl⟩ := search_form hp
    have HP := Lib.hid hp
    have HB4 := Lib.hid (HB3.out.trans (hb.mono HB3.out.size))
    have HW4 := Lib.hid (HW3.out.trans (hb.mono HW3.out.size))
    have HA4 := Lib.hid (HA3.out.below (Nat.le_refl _) hb)
    have HU4 := Lib.hid ((hb.block u1 (Array.getElem?_eq_some_iff.1 HU1.out).1).trans HU1.out)
    dsimp only
    clear hp hb x0 x1 x2 x3 HB3 HW3 HA3 HU1
    go_upto_region 5 with (fail)
    obtain ⟨u2, hu2⟩ : ∃ x, W4.heap.size = x := ⟨_, rfl⟩
    obtain ⟨X5, hX5⟩ : ∃ X, W4.alloc (decO l' b' i' p' f' (.slice va vn vc)) = X := ⟨_, rfl⟩
    have hb : Below W4.heap.size W4 X5 := by rw [← hX5]; exact (Below.refl _ _).alloc (Nat.le_refl _) _
    have h5u : X5.heap[u2]? = some (decO l' b' i' p' f' (.slice va vn vc)) := by rw [← hX5, ← hu2]; exact World.alloc_heap_new W4 _
    have HD5 := Lib.hid h5u
    have HB5 := Lib.hid (HB4.out.trans (hb.mono HB4.out.size))
    have HW5 := Lib.hid (HW4.out.trans (hb.mono HW4.out.size))
    have HA5 := Lib.hid (HA4.out.below (Nat.le_refl _) hb)
    have HU5 := Lib.hid ((hb.block u1 (Array.getElem?_eq_some_iff.1 HU4.out).1).trans HU4.out)
    have H45 := Lib.hid hb
    unfold decO at hX5
    rw [hX5, hu2]
    clear hX5 hb h5u HB4 HW4 HA4 HU4
    obtain ⟨x0, x1, x2, x3⟩ := cells_encO HU5.out
    have HMf := Lib.hid (mrg_fit HM.out HCn.out r2 (by omega) (by omega))
    have HMc := Lib.hid (mrg_check HHe.out HCn.out)
    have hsr := wsearch_any (L : Int) (B : Int) (I : Int) (mrg m I f k) q cq 2 X5 HA5.out HMf.out HMc.out (by decide)
    rw [hmr] at hsr
    have HSr := Lib.hid hsr
    clear hsr
    go_wp2_with fail
    refine HSr.out.mono ?_
    rintro e W6 ⟨hq, hb⟩
    obtain ⟨l'', b'', i'', p'', f'', va2, vn2, vc2, e02, rfl⟩ := search_form hq
    have HQ := Lib.hid hq
    have HB6 := Lib.hid (HB5.out.trans (hb.mono HB5.out.size))
    have HW6 := Lib.hid (HW5.out.trans (hb.mono HW5.out.size))
    have HA6 := Lib.hid (HA5.out.below (Nat.le_refl _) hb)
    have HU6 := Lib.hid ((hb.block u1 (Array.getElem?_eq_some_iff.1 HU5.out).1).trans HU5.out)
    have HD6 := Lib.hid ((hb.block u2 (Array.getElem?_eq_some_iff.1 HD5.out).1).trans HD5.out)
    have H46 := Lib.hid (H45.out.trans (hb.mono H45.out.size))
    dsimp only
    clear hq hb x0 x1 x2 x3 HB5 HW5 HA5 HU5 HD5 H45 HSr
    go_upto_region 6 with (fail)
    obtain ⟨u3, hu3⟩ : ∃ x, W6.heap.size = x := ⟨_, rfl⟩
    obtain ⟨X7, hX7⟩ : ∃ X, W6.alloc (decO l'' b'' i'' p'' f'' (.slice va2 vn2 vc2)) = X := ⟨_, rfl⟩
    have hb : Below W6.heap.size W6 X7 := by rw [← hX7]; exact (Below.refl _ _).alloc (Nat.le_refl _) _
    have h7u : X7.heap[u3]? = some (decO l'' b'' i'' p'' f'' (.slice va2 vn2 vc2)) := by rw [← hX7, ← hu3]; exact World.alloc_heap_new W6 _
    have HC7 := Lib.hid h7u
    have HB7 := Lib.hid (HB6.out.trans (hb.mono HB6.out.size))
    have HW7 := Lib.hid (HW6.out.trans (hb.mono HW6.out.size))
    have HA7 := Lib.hid (HA6.out.below (Nat.le_refl _) hb)
    have HU7 := Lib.hid ((hb.block u1 (Array.getElem?_eq_some_iff.1 HU6.out).1).trans HU6.out)
    have HD7 := Lib.hid ((hb.block u2 (Array.getElem?_eq_some_iff.1 HD6.out).1).trans HD6.out)
    have H47 := Lib.hid (H46.out.trans (hb.mono H46.out.size))
    have H67 := Lib.hid hb
    unfold decO at hX7
    rw [hX7, hu3]
    clear hX7 hb h7u HB6 HW6 HA6 HU6 HD6 H46
    rcases two_search HM.out HCn.out HSt.out hr6 (by omega) HP.out HQ.out with ⟨e1, e2⟩ | ⟨n, j, hn, hj, es, es2, a, a2, cap, cap2, e1, hE, hBt, e2, hE2, hBt2⟩
    · unfold zDec at e1 e2
      simp only [Ending.returned.injEq, Value.tuple.injEq, Array.mk.injEq, List.cons.injEq, Value.agg.injEq, Value.int.injEq, Value.slice.injEq, true_and, and_true] at e1 e2
      obtain ⟨⟨rfl, rfl, rfl, rfl, rfl, rfl, rfl, rfl⟩, rfl⟩ := e1
      obtain ⟨⟨rfl, rfl, rfl, rfl, rfl, rfl, rfl, rfl⟩, rfl⟩ := e2
      go_wp2_with (go_at_call 8; refine (awake3_any _).mono ?_; rintro e w9 ⟨rfl, hb⟩; have Hb9 := Lib.hid hb; clear hb)
      go_ret
      exact ⟨rfl, by first | exact HW7.out.trans (Hb9.out.mono HW7.out.size) | (rw [← hg]; exact HW7.out.trans (Hb9.out.mono HW7.out.size))⟩
    · unfold decV at e1 e2
      simp only [Ending.returned.injEq, Value.tuple.injEq, Array.mk.injEq, List.cons.injEq, Value.agg.injEq, Value.int.injEq, Value.slice.injEq, true_and, and_true] at e1 e2
      obtain ⟨⟨rfl, rfl, rfl, rfl, rfl, rfl, rfl, rfl⟩, rfl⟩ := e1
      obtain ⟨⟨rfl, rfl, rfl, rfl, rfl, rfl, rfl, rfl⟩, rfl⟩ := e2
      obtain ⟨P, hP⟩ : ∃ x, n - j = x := ⟨_, rfl⟩
      have hN : P + 1 + j = n + 1 := by omega
      have hPj : P + j < 16 := by omega
      have hPn : P < n + 1 := by omega
      rw [hP] at hBt hBt2 HD7 HC7 ⊢
      have hms : ∀ r : Nat, r ≤ 6 → manyP r I (P + 1 + j) = false := fun r hr => many_small hr (by omega) (by omega)
      have hBt' : Built (pathE m P (P + 1 + j)) es := by rw [hN]; exact hBt
      have hBt2' : Built (pathE m P (P + 1 + j)) es2 := by rw [hN]; exact hBt2
      have hk6 : (mrg m I f k).r ≤ 6 := Nat.le_trans (cnt_le HCn.out) hr6
      have Hd1 := Lib.hid (built_check HHe.out hPj hBt' (hms _ hr6)).1
      have Hd2 := Lib.hid (built_check HHe.out hPj hBt2' (hms _ hr6)).1
      have Hw1 := Lib.hid (wins_small HHe.out hPn (by omega) hBt)
      have Hw2 := Lib.hid (wins_small HHe.out hPn (by omega) hBt2)
      have Ha1 : Hid (∀ x ∈ pathE (mrg m I f k) P (n + 1), findE es x.1 = ((x.2 : Int), true)) := Lib.hid (fun x hx => find_sorted hBt.2 (x := toEnt x) ((hBt.1 _).2 ⟨x, (mrg_path HM.out HCn.out HSt.out hPn x).1 hx, rfl⟩))
      have Ha2 : Hid (∀ x ∈ pathE m P (n + 1), findE es2 x.1 = ((x.2 : Int), true)) := Lib.hid (fun x hx => find_sorted hBt2.2 (x := toEnt x) ((hBt2.1 _).2 ⟨x, hx, rfl⟩))
      obtain ⟨g1, g2, g3⟩ := grt_mrg HHe.out HCn.out HSt.out hr6 (by omega) Hd1.out
      have HE7 := Lib.hid (SlAt.mono hE (Nat.le_refl _) H47.out : EntsAt X7 va es)
      have HE27 := Lib.hid (SlAt.mono hE2 (Nat.le_refl _) H67.out : EntsAt X7 va2 es2)
      have HBX := Lib.hid (fun (W : World) (h : Below X7.heap.size X7 W) => show W.heap[g]? = some (encO (L : Int) (B : Int) (I : Int) p m.r c) ∧ W.heap[u1]? = some (encO (L : Int) (B : Int) (I : Int) q k cq) ∧ W.heap[u2]? = some (decO (L : Int) (B : Int) (I : Int) (P : Int) (j : Int) (.slice va es.length vc)) ∧ W.heap[u3]? = some (decO (L : Int) (B : Int) (I : Int) (P : Int) (j : Int) (.slice va2 es2.length vc2)) from
        have hk : ∀ x o, X7.heap[x]? = some o → W.heap[x]? = some o := fun x o ho => (h.block x (Array.getElem?_eq_some_iff.1 ho).1).trans ho
        ⟨hk _ _ (HO.out _ HB7.out), hk _ _ HU7.out, hk _ _ HD7.out, hk _ _ HC7.out⟩)
      have HGm := Lib.hid (fun (W : World) (h : Below X7.heap.size X7 W) => pGreatest_any (L : Int) (B : Int) (I : Int) (mrg m I f k) q cq (L : Int) (B : Int) (I : Int) (P : Int) (j : Int) es va vc 2 W (HA7.out.below (Nat.le_refl _) h) HMf.out (SlAt.mono HE7.out (Nat.le_refl _) h) Hw1.out)
      have HGe := Lib.hid (fun (W : World) (h : Below X7.heap.size X7 W) => pGreatest_any (L : Int) (B : Int) (I : Int) m p c (L : Int) (B : Int) (I : Int) (P : Int) (j : Int) es va vc 2 W (HA.out.below (Nat.le_refl _) (HW7.out.trans (h.mono HW7.out.size))) HF.out (SlAt.mono HE7.out (Nat.le_refl _) h) Hw1.out)
      rw [g1] at HGe
      rw [g2, g3, hmr] at HGm
      obtain ⟨G, hG⟩ : ∃ x, grtV (L : Int) (B : Int) (I : Int) m (L : Int) (B : Int) (I : Int) (P : Int) (j : Int) es 2 = x := ⟨_, rfl⟩
      rw [hG] at HGe HGm
      have HX7' := Lib.hid (Below.refl X7.heap.size X7)
      have hcv1 := covers_any (L : Int) (B : Int) (I : Int) es va vc (mrg m I f k) q cq P j (n + 1) X7 HA7.out HMf.out HE7.out Hw1.out HMc.out Hd1.out hN (by omega) (by rw [Int.toNat_natCast, ← hN]; exact hms _ hk6) Ha1.out
      rw [hmr] at hcv1
      have HCv1 := Lib.hid hcv1
      have HCv2 := Lib.hid (fun (W : World) (h : Below X7.heap.size X7 W) => covers_any (L : Int) (B : Int) (I : Int) es2 va2 vc2 m p c P j (n + 1) W (HA.out.below (Nat.le_refl _) (HW7.out.trans (h.mono HW7.out.size))) HF.out (SlAt.mono HE27.out (Nat.le_refl _) h) Hw2.out HHe.out Hd2.out hN (by omega) (by rw [Int.toNat_natCast, ← hN]; exact hms _ hr6) Ha2.out)
      have hmx := @max4z Try.prog
      clear hBt hBt2 hBt' hBt2' hE hE2 g1 g2 g3 hG hcv1 hP hms
      obtain ⟨bg, bu1, bu2, bu3⟩ := HBX.out _ HX7'.out
      obtain ⟨x0, x1, x2, x3⟩ := cells_encO bg
      obtain ⟨v0, v1, v2, v3⟩ := cells_encO bu1
      obtain ⟨⟨y0, y1, y2, y3, y4, y5⟩, _, _, _, _, _, _⟩ := cells_decO bu2
      obtain ⟨⟨z0, z1, z2, z3, z4, z5⟩, _, _, _, _, _, _⟩ := cells_decO bu3
      clear bg bu1 bu2 bu3
      go_wp2_with fail
      refine (HCv1.out).mono ?_
      rintro e X8 ⟨rfl, hb⟩
      have HX8 := Lib.hid (HX7'.out.trans (hb.mono HX7'.out.size))
      dsimp only
      clear hb x0 x1 x2 x3 v0 v1 v2 v3 y0 y1 y2 y3 y4 y5 z0 z1 z2 z3 z4 z5
      obtain ⟨bg, bu1, bu2, bu3⟩ := HBX.out _ HX8.out
      obtain ⟨x0, x1, x2, x3⟩ := cells_encO bg
      obtain ⟨v0, v1, v2, v3⟩ := cells_encO bu1
      obtain ⟨⟨y0, y1, y2, y3, y4, y5⟩, _, _, _, _, _, _⟩ := cells_decO bu2
      obtain ⟨⟨z0, z1, z2, z3, z4, z5⟩, _, _, _, _, _, _⟩ := cells_decO bu3
      clear bg bu1 bu2 bu3
      go_wp2_with fail
      refine (HCv2.out _ HX8.out).mono ?_
      rintro e X9 ⟨rfl, hb⟩
      have HX9 := Lib.hid (HX8.out.trans (hb.mono HX8.out.size))
      dsimp only
      clear hb x0 x1 x2 x3 v0 v1 v2 v3 y0 y1 y2 y3 y4 y5 z0 z1 z2 z3 z4 z5
      obtain ⟨bg, bu1, bu2, bu3⟩ := HBX.out _ HX9.out
      obtain ⟨x0, x1, x2, x3⟩ := cells_encO bg
      obtain ⟨v0, v1, v2, v3⟩ := cells_encO bu1
      obtain ⟨⟨y0, y1, y2, y3, y4, y5⟩, _, _, _, _, _, _⟩ := cells_decO bu2
      obtain ⟨⟨z0, z1, z2, z3, z4, z5⟩, _, _, _, _, _, _⟩ := cells_decO bu3
      clear bg bu1 bu2 bu3
      go_wp2_with fail
      refine (HGe.out _ HX9.out).mono ?_
      rintro e X10 ⟨rfl, hb⟩
      have HX10 := Lib.hid (HX9.out.trans (hb.mono HX9.out.size))
      dsimp only
      clear hb x0 x1 x2 x3 v0 v1 v2 v3 y0 y1 y2 y3 y4 y5 z0 z1 z2 z3 z4 z5
      obtain ⟨bg, bu1, bu2, bu3⟩ := HBX.out _ HX10.out
      obtain ⟨x0, x1, x2, x3⟩ := cells_encO bg
      obtain ⟨v0, v1, v2, v3⟩ := cells_encO bu1
      obtain ⟨⟨y0, y1, y2, y3, y4, y5⟩, _, _, _, _, _, _⟩ := cells_decO bu2
      obtain ⟨⟨z0, z1, z2, z3, z4, z5⟩, _, _, _, _, _, _⟩ := cells_decO bu3
      clear bg bu1 bu2 bu3
      go_wp2_with fail
      refine (HGm.out _ HX10.out).mono ?_
      rintro e X11 ⟨rfl, hb⟩
      have HX11 := Lib.hid (HX10.out.trans (hb.mono HX10.out.size))
      dsimp only
      clear hb x0 x1 x2 x3 v0 v1 v2 v3 y0 y1 y2 y3 y4 y5 z0 z1 z2 z3 z4 z5
      obtain ⟨bg, bu1, bu2, bu3⟩ := HBX.out _ HX11.out
      obtain ⟨x0, x1, x2, x3⟩ := cells_encO bg
      obtain ⟨v0, v1, v2, v3⟩ := cells_encO bu1
      obtain ⟨⟨y0, y1, y2, y3, y4, y5⟩, _, _, _, _, _, _⟩ := cells_decO bu2
      obtain ⟨⟨z0, z1, z2, z3, z4, z5⟩, _, _, _, _, _, _⟩ := cells_decO bu3
      clear bg bu1 bu2 bu3
      have HW11 := Lib.hid (HW7.out.trans (HX11.out.mono HW7.out.size))
      have c1 : (G == G) = true := by simp
      have c2 : ((P : Int) == (P : Int)) = true := by simp
      have c3 : ((j : Int) == (j : Int)) = true := by simp
      go_wp2_with (go_at_call 8; refine (awake3_any _).mono ?_; rintro e w9 ⟨rfl, hb⟩; have Hb9 := Lib.hid hb; clear hb)
      go_ret
      exact ⟨rfl, by first | exact HW11.out.trans (Hb9.out.mono HW11.out.size) | (rw [← hg]; exact HW11.out.trans (Hb9.out.mono HW11.out.size))⟩
end Go.Proofs.Ytcafeffgaokiaaa
