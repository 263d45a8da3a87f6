/- The walk of the statement TopDamaged: it returns true for every input. -/
import Derived.Test.YtcafeffgaokiaaaZ33
import Derived.Test.YtcafeffgaokiaaaZ34
import Derived.Test.YtcafeffgaokiaaaZ42
import Derived.Test.YtcafeffgaokiaaaZ43
import Derived.Test.YtcafeffgaokiaaaZ31
import Derived.OrdersHeld
import Derived.Deep.RegionHeld
namespace Go.Proofs.Ytcafeffgaokiaaa
open Go.RowKit Go.Maps Go.Lib Go.Sort
set_option maxRecDepth 100000 in
set_option maxHeartbeats 8000000 in
theorem damagedLaw (l b i : Int) (m : EM) (p : Option Addr) (c : Nat) (sv : Nat) (q : Option Addr) (cq : Nat) (xs : List Nat) (av lv : Nat) (w : World) (hA : m.At w p) (hf : m.Fit) (hX : ByteAt w q xs) (hx256 : ∀ x ∈ xs, x < 256) (hxl : xs.length ≤ maxLen) (hxc : xs.length ≤ cq) (hsv : sv < 256) (hav : av < 256) (hlv : lv < 256) :
    Calls Try.prog 3 #[.agg #[.int .i64 l, .int .i64 b, .int .i64 i, .slice p m.r c], .int .u8 (sv : Int), .slice q xs.length cq, .int .u8 (av : Int), .int .u8 (lv : Int)] w fun e w' => e = .returned (.bool true) ∧ Below w.heap.size w w' := by
  obtain ⟨V, hV⟩ : ∃ V, w.alloc (encO l b i p m.r c) = V := ⟨_, rfl⟩
  have hbV : Below w.heap.size w V := by rw [← hV]; exact (Below.refl w.heap.size w).alloc (Nat.le_refl _) _
  obtain ⟨g, hg⟩ : ∃ g, w.heap.size = g := ⟨_, rfl⟩
  have o0 : V.heap[g]? = some (encO l b i p m.r c) := by rw [← hV, ← hg]; exact World.alloc_heap_new w _
  have hsV : V.heap.size = g + 1 := by rw [← hV]; simp [hg]
  have HO := Lib.hid (fun (W : World) (h : Below V.heap.size V W) => show W.heap[g]? = some (encO l b i p m.r c) from (h.block _ (by omega)).trans o0)
  obtain ⟨x0, x1, x2, x3⟩ := cells_encO o0
  clear o0
  unfold encO at hV
  have HFi := Lib.hid (fun (W : World) (h : Below w.heap.size w W) => fine3_any l b i m p c W (hA.below (Nat.le_refl _) h) hf)
  have HSe := Lib.hid (fun (he : encCheck l b i m = 0) (W : World) (h : Below w.heap.size w W) => wsearch_any l b i m p c 2 W (hA.below (Nat.le_refl _) h) hf he (by decide))
  have HbV := Lib.hid hbV
  have HA := Lib.hid hA
  have HF := Lib.hid hf
  have HXs := Lib.hid hX
  clear hbV hA hf hX
  go_enter Try.func3, Try.ntmps3
  go_upto_region 1 with (fail)
  clear hV
  go_wp2_with fail
  refine (HFi.out _ HbV.out).mono ?_
  rintro e W1 ⟨ok, rfl, hok, hb⟩
  dsimp only
  have HB1 := Lib.hid hb
  have HW1 := Lib.hid (HbV.out.trans (hb.mono HbV.out.size))
  obtain ⟨y0, y1, y2, y3⟩ := cells_encO (HO.out _ hb)
  clear x0 x1 x2 x3 hb HFi
  cases ok
  case false =>
    clear hok
    go_wp2_with (go_at_call 8; refine (awake3_any _).mono ?_; rintro e w9 ⟨rfl, hb⟩; have Hb9 := Lib.hid hb; clear hb)
    go_ret
    exact ⟨rfl, by first | exact HW1.out.trans (Hb9.out.mono HW1.out.size) | exact (HW1.out.alloc HW1.out.size _).trans (Hb9.out.mono (by have := HW1.out.size; simp; omega)) | (rw [← hg]; exact HW1.out.trans (Hb9.out.mono HW1.out.size))⟩
  case true =>
    obtain ⟨he, hr6, hi4, hb4⟩ := hok rfl
    have HHe := Lib.hid he
    clear hok he
    go_wp2_with fail
    refine (HSe.out HHe.out _ HW1.out).mono ?_
    rintro e W2 ⟨hp, hb⟩
    have HB2 := Lib.hid (HB1.out.trans (hb.mono HB1.out.size))
    have HW2 := Lib.hid (HW1.out.trans (hb.mono HW1.out.size))
    have hlo2 : g + 1 ≤ W1.heap.size := by have := HB1.out.size; omega
    clear y0 y1 y2 y3 hb HSe
    rcases hp with ⟨_, rfl⟩ | ⟨_, _, _, _, _, _, rfl⟩ | ⟨n, f, hn, hfn, _, hmany, hcons, es, a, cap, rfl, hE, hBt, hlo⟩
    · unfold zDec
      dsimp only
      go_wp2_with (go_at_call 8; refine (awake3_any _).mono ?_; rintro e w9 ⟨rfl, hb⟩; have Hb9 := Lib.hid hb; clear hb)
      go_ret
      exact ⟨rfl, by first | exact HW2.out.trans (Hb9.out.mono HW2.out.size) | exact (HW2.out.alloc HW2.out.size _).trans (Hb9.out.mono (by have := HW2.out.size; simp; omega)) | (rw [← hg]; exact HW2.out.trans (Hb9.out.mono HW2.out.size))⟩
    · unfold zDec
      dsimp only
      go_wp2_with (go_at_call 8; refine (awake3_any _).mono ?_; rintro e w9 ⟨rfl, hb⟩; have Hb9 := Lib.hid hb; clear hb)
      go_ret
      exact ⟨rfl, by first | exact HW2.out.trans (Hb9.out.mono HW2.out.size) | exact (HW2.out.alloc HW2.out.size _).trans (Hb9.out.mono (by have := HW2.out.size; simp; omega)) | (rw [← hg]; exact HW2.out.trans (Hb9.out.mono HW2.out.size))⟩
    obtain ⟨⟨l1, l2⟩, ⟨b1, b2⟩, ⟨i1, i2⟩, ⟨r1, r2⟩, _, _⟩ := encCheck_ok HHe.out
    obtain ⟨L, rfl⟩ : ∃ L : Nat, l = L := ⟨l.toNat, by omega⟩
    obtain ⟨B, rfl⟩ : ∃ B : Nat, b = B := ⟨b.toNat, by omega⟩
    obtain ⟨I, rfl⟩ : ∃ I : Nat, i = I := ⟨i.toNat, by omega⟩
    obtain ⟨P, hP⟩ : ∃ x, n - f = x := ⟨_, rfl⟩
    have hN : n + 1 = P + 1 + f := by omega
    have hPf : P + f ≤ 2 := by omega
    rw [Int.toNat_natCast] at hmany
    rw [hN] at hmany
    rw [hP, hN] at hBt
    rw [Int.toNat_natCast, Int.toNat_natCast, hP]
    have HWn := Lib.hid (wins_small HHe.out (by omega) (by omega) hBt)
    have HBt := Lib.hid hBt
    have HMy := Lib.hid hmany
    have HE2 := Lib.hid hE
    clear hcons hE hBt hmany hP hN hn hfn
    unfold decV
    dsimp only
    go_upto_region 4 with (fail)
    obtain ⟨X, hX⟩ : ∃ X, W2.alloc (decO (L : Int) (B : Int) (I : Int) (P : Int) (f : Int) (.slice a es.length cap)) = X := ⟨_, rfl⟩
    have hb : Below W2.heap.size W2 X := by rw [← hX]; exact (Below.refl _ _).alloc (Nat.le_refl _) _
    obtain ⟨u, hu⟩ : ∃ x, W2.heap.size = x := ⟨_, rfl⟩
    have hXu : X.heap[u]? = some (decO (L : Int) (B : Int) (I : Int) (P : Int) (f : Int) (.slice a es.length cap)) := by rw [← hX, ← hu]; exact World.alloc_heap_new W2 _
    have hXs : X.heap.size = u + 1 := by rw [← hX]; simp [hu]
    have HE := Lib.hid (SlAt.mono HE2.out (Nat.le_refl _) hb : EntsAt X a es)
    have HB3 := Lib.hid (HB2.out.trans (hb.mono HB2.out.size))
    have HW3 := Lib.hid (HW2.out.trans (hb.mono HW2.out.size))
    have hgu : g + 1 ≤ u := by have := HB2.out.size; omega
    have HOD := Lib.hid (fun (W : World) (h : Below X.heap.size X W) => show W.heap[g]? = some (encO (L : Int) (B : Int) (I : Int) p m.r c) ∧ W.heap[u]? = some (decO (L : Int) (B : Int) (I : Int) (P : Int) (f : Int) (.slice a es.length cap)) from ⟨HO.out _ (HB3.out.trans (h.mono HB3.out.size)), (h.block _ (by omega)).trans hXu⟩)
    obtain ⟨x0, x1, x2, x3⟩ := cells_encO (HO.out _ HB3.out)
    obtain ⟨⟨z0, z1, z2, z3, z4, z5⟩, _, _, _, _, _, _⟩ := cells_decO hXu
    unfold decO at hX
    rw [hX, hu]
    clear hX hb hXu HE2 HO HB2 HW2 HB1 HW1
    have hmn := @run_dmn Try.prog
    obtain ⟨NX, hNX⟩ : ∃ x, min xs.length 12 = x := ⟨_, rfl⟩
    have hmn2 : dmn (xs.length : Int) 12 = (NX : Int) := by rw [dmn_12, hNX]
    have hNX12 : NX ≤ 12 := by omega
    have hNXl : NX ≤ xs.length := by omega
    have hsl := fun (w : World) => slice_front (w := w) (q := q) (n := xs.length) (c := cq) (k := NX) (by omega)
    have i0 : ¬ (I : Int) = 0 := by omega
    have i00 : ¬ I = 0 := by omega
    have ipos : (0 : Int) < (I : Int) := by omega
    clear hNX
    obtain ⟨ls, hls⟩ : ∃ l, (xs.take NX).map (· % I) = l := ⟨_, rfl⟩
    have hll : ls.length = NX := by rw [← hls, List.length_map, List.length_take]; omega
    have HLs : Hid (∀ k, k < NX → ls.getD k 0 = xs.getD k 0 % I) := Lib.hid (fun k hk => by
      rw [← hls, List.getD_eq_getElem?_getD, List.getD_eq_getElem?_getD, List.getElem?_map, List.getElem?_take_of_lt hk, List.getElem?_eq_getElem (show k < xs.length by omega)]; rfl)
    have hlI : ∀ x ∈ ls, x < I := fun x hx => by
      rw [← hls] at hx
      obtain ⟨y, _, rfl⟩ := List.mem_map.1 hx
      exact Nat.mod_lt _ (by omega)
    have HlI := Lib.hid hlI
    have Hll := Lib.hid hll
    have HX0 := Lib.hid hXs
    have hwX : w.heap.size ≤ X.heap.size := HW3.out.size
    clear hls hlI hll hXs
    go_wp2
    go_loopw [13, 55] (fun ov kv wr => ∃ k : Nat, k ≤ NX ∧ kv = .int .i64 (k : Nat) ∧ Hid (OwnInts wr X.heap.size ov (intsN (ls.take k))) ∧ Hid (Below X.heap.size X wr)) (fun _ kv _ => NX - (intOf kv).toNat)
    case atStart => exact ⟨0, by omega, by go_num, Lib.hid (OwnInts.nil _ _), Lib.hid (Below.refl _ _)⟩
    case round =>
      clear x0 x1 x2 x3 z0 z1 z2 z3 z4 z5 hmn hmn2 hsl
      obtain ⟨k, hk, rfl, Ho, Hb⟩ := hrel
      have Hwr := Lib.hid (HW3.out.trans (Hb.out.mono HW3.out.size))
      obtain ⟨og, od⟩ := HOD.out _ Hb.out
      obtain ⟨x0, x1, x2, x3⟩ := cells_encO og
      by_cases hlt : k < NX
      · obtain ⟨ab, ao, rfl, hab, hca⟩ := (HXs.out.below (Nat.le_refl _) Hwr.out).cells (k := k) (by omega)
        have hxa := hca k (by omega)
        obtain ⟨x, hx⟩ : ∃ x, xs.getD k 0 = x := ⟨_, rfl⟩
        have hx2 := hx256 x (by rw [← hx, List.getD_eq_getElem?_getD, List.getElem?_eq_getElem (show k < xs.length by omega)]; exact List.getElem_mem _)
        have hst : intsN (ls.take (k + 1)) = intsN (ls.take k) ++ [((x % I : Nat) : Int)] := by
          have h9 := HLs.out k hlt
          rw [hx, List.getD_eq_getElem?_getD, List.getElem?_eq_getElem (by rw [Hll.out]; exact hlt)] at h9
          have e9 : ls.take (k + 1) = ls.take k ++ [x % I] := by
            rw [List.take_add_one, List.getElem?_eq_getElem (by rw [Hll.out]; exact hlt), ← h9]; rfl
          rw [e9]
          unfold intsN
          rw [List.map_append]
          rfl
        have Hst := Lib.hid hst
        rw [hx] at hxa
        have hol : (intsN (ls.take k)).length = k := by rw [intsN_len, List.length_take, Hll.out]; omega
        have k0 : (0 : Int) ≤ (k : Int) := by omega
        have k1 : (k : Int) < (NX : Int) := by omega
        have x0' : (0 : Int) ≤ (x : Int) := by omega
        clear hca hx hst og od
        go_wp2_with (at_builtin; refine wpList_append_int rfl _ _ rfl X.heap.size _ _ rfl (Ho.out.alloc _) wr.heap.size 1 ((x % I : Nat) : Int) rfl (by first | exact cell_new0 _ _ _ | simp) ?_ ?_ ?_)
        · rw [hol]; omega
        · have := Hb.out.size; (try simp); omega
        · intro v' w4 hown2 hgrow
          have HbN := Lib.hid (below_append (Hb.out.alloc (by have := Hb.out.size; omega) _) (Ho.out.alloc _) hgrow (by have := Hb.out.size; simp; omega) (Nat.le_refl _))
          have HoN : Hid (OwnInts w4 X.heap.size v' (intsN (ls.take (k + 1)))) := Lib.hid (by rw [Hst.out]; exact hown2)
          clear hown2 hgrow
          go_wp2
          go_roundw
          case rel => exact ⟨k + 1, by omega, by go_num, HoN, HbN⟩
          case measure => simp [intOf]; omega
      · have k1 : ¬ (k : Int) < (NX : Int) := by omega
        have hke : k = NX := by omega
        have hlst : ls.take k = ls := by rw [hke, ← Hll.out, List.take_length]
        obtain ⟨p5, c5, hu5, hc5, hI5, _⟩ := Ho.out.form
        rw [hlst] at hI5 hu5 hc5
        subst hu5
        have hll := Hll.out
        have hlI := HlI.out
        rw [intsN_len, hll] at hc5 ⊢
        clear hlst hke
        have hsm : sv % m.r < m.r := Nat.mod_lt _ r1
        have hr0 : ¬ (m.r : Int) = 0 := by omega
        have hr00 : ¬ m.r = 0 := by omega
        have HEn := Lib.hid (fun (W : World) (h : Below wr.heap.size wr W) => encode_any (L : Int) (B : Int) (I : Int) m p c (sv % m.r) p5 c5 ls W (HA.out.below (Nat.le_refl _) (Hwr.out.trans (h.mono Hwr.out.size))) HF.out HHe.out hsm (hI5.below (Nat.le_refl _) h) (fun x hx => by have := hlI x hx; omega) (by omega))
        rw [hll] at HEn
        obtain ⟨w2, hw2⟩ : ∃ x, (encW m (sv % m.r) ls ByteArray.empty).1 = x := ⟨_, rfl⟩
        obtain ⟨s2, hs2⟩ : ∃ x, (encW m (sv % m.r) ls ByteArray.empty).2 = x := ⟨_, rfl⟩
        obtain ⟨R, hR⟩ : ∃ R, ((intsN ls).drop P).take (ls.length - P - f) = R := ⟨_, rfl⟩
        obtain ⟨f1, f2, f3, f4, f5, f6, f7⟩ := dam_dec HHe.out (by omega) HBt.out HMy.out hsm hlI (by omega) hR hw2
        rw [hw2, hs2] at HEn
        rw [hll] at f4 hR
        have HM1 := Lib.hid (modW sv m.r hsv)
        have HDc := Lib.hid (fun (W : World) (h : Below X.heap.size X W) => decode_any (L : Int) (B : Int) (I : Int) (P : Int) (f : Int) es a cap w2 W (SlAt.mono HE.out (Nat.le_refl _) h) HWn.out (by omega))
        rw [f2, f3] at HDc
        have HBo := Lib.hid (fun (W : World) (h : Below X.heap.size X W) => bound_any (L : Int) (B : Int) (I : Int) (P : Int) (f : Int) es a cap W (SlAt.mono HE.out (Nat.le_refl _) h) HWn.out)
        rw [f5, f6] at HBo
        have HI5 := Lib.hid hI5
        have HR := Lib.hid hR
        have F7 := Lib.hid f7
        have HF4 := Lib.hid f4
        have hgr : u < wr.heap.size := by have := Hb.out.size; have := HX0.out; omega
        have hszr : w.heap.size ≤ wr.heap.size := Hwr.out.size
        clear hw2 hs2 hR f2 f3 f5 f6 f7 hI5 HXs hlI hll HLs HlI og od f4
        go_upto_region 12 with (fail)
        obtain ⟨SS, hSe⟩ : ∃ SS : World → Prop, SS = fun W => W.cell? ⟨g, 0, none⟩ = some (.int .i64 (L : Int)) ∧ W.cell? ⟨g, 1, none⟩ = some (.int .i64 (B : Int)) ∧ W.cell? ⟨g, 2, none⟩ = some (.int .i64 (I : Int)) ∧ W.cell? ⟨g, 3, none⟩ = some (.slice p m.r c) := ⟨_, rfl⟩
        have HS : Hid (∀ W, Below wr.heap.size wr W → SS W) := Lib.hid (fun W hW => by
          rw [hSe]
          exact ⟨(hW.cell (p := ⟨g, 0, none⟩) (by show g < _; omega)).trans x0, (hW.cell (p := ⟨g, 1, none⟩) (by show g < _; omega)).trans x1, (hW.cell (p := ⟨g, 2, none⟩) (by show g < _; omega)).trans x2, (hW.cell (p := ⟨g, 3, none⟩) (by show g < _; omega)).trans x3⟩)
        have hd : Below wr.heap.size wr wr.drew := (Below.refl _ _).drew
        refine wp_region_held_drew (S := SS) (by kernel_rfl) (HS.out _ hd) (fun hSS => ?_)
        refine wpAnyH_take (i := 0) (v := ?_) rfl (by kernel_rfl) (by kernel_rfl) (by kernel_rfl) (fun _ _ _ h => h) (Or.inl ⟨by rfl, ?_⟩) (HS.out _ hd) ?_
        rotate_left 1
        next => intro w hSw; rw [hSe] at hSw; obtain ⟨s1, s2, s3, s4⟩ := hSw; go_simp; try with_reducible rfl
        try simp only [Act.put, List.getElem_toArray, List.getElem_cons_zero, List.getElem_cons_succ, List.setIfInBounds_toArray, List.set_cons_zero, List.set_cons_succ]
        refine wpAnyH_take (i := 1) (v := ?_) rfl (by kernel_rfl) (by kernel_rfl) (by kernel_rfl) (fun _ _ _ h => h) (Or.inl ⟨by rfl, ?_⟩) (HS.out _ hd) ?_
        rotate_left 1
        next => intro w hSw; rw [hSe] at hSw; obtain ⟨s1, s2, s3, s4⟩ := hSw; go_simp; try with_reducible rfl
        try simp only [Act.put, List.getElem_toArray, List.getElem_cons_zero, List.getElem_cons_succ, List.setIfInBounds_toArray, List.set_cons_zero, List.set_cons_succ]
        refine wpAnyH_take (i := 2) (v := ?_) rfl (by kernel_rfl) (by kernel_rfl) (by kernel_rfl) (fun _ _ _ h => h) (Or.inl ⟨by rfl, ?_⟩) (HS.out _ hd) ?_
        rotate_left 1
        next => intro w hSw; rw [hSe] at hSw; obtain ⟨s1, s2, s3, s4⟩ := hSw; go_simp; try with_reducible rfl
        try simp only [Act.put, List.getElem_toArray, List.getElem_cons_zero, List.getElem_cons_succ, List.setIfInBounds_toArray, List.set_cons_zero, List.set_cons_succ]
        refine wpAnyH_take (i := 3) (v := ?_) rfl (by kernel_rfl) (by kernel_rfl) (by kernel_rfl) (fun _ _ _ h => h) (Or.inl ⟨by rfl, ?_⟩) (HS.out _ hd) ?_
        rotate_left 1
        next => intro w hSw; rw [hSe] at hSw; obtain ⟨s1, s2, s3, s4⟩ := hSw; go_simp; try with_reducible rfl
        try simp only [Act.put, List.getElem_toArray, List.getElem_cons_zero, List.getElem_cons_succ, List.setIfInBounds_toArray, List.set_cons_zero, List.set_cons_succ]
        refine wpAnyH_take (i := 4) (v := ?_) rfl (by kernel_rfl) (by kernel_rfl) (by kernel_rfl) (fun _ _ _ h => h) (Or.inl ⟨by rfl, ?_⟩) (HS.out _ hd) ?_
        rotate_left 1
        next => intro w hSw; rw [hSe] at hSw; obtain ⟨s1, s2, s3, s4⟩ := hSw; go_simp; try with_reducible rfl
        try simp only [Act.put, List.getElem_toArray, List.getElem_cons_zero, List.getElem_cons_succ, List.setIfInBounds_toArray, List.set_cons_zero, List.set_cons_succ]
        refine wpAnyH_take (i := 5) (v := ?_) rfl (by kernel_rfl) (by kernel_rfl) (by kernel_rfl) (fun _ _ _ h => h) (Or.inl ⟨by rfl, ?_⟩) (HS.out _ hd) ?_
        rotate_left 1
        next => intro w hSw; rw [hSe] at hSw; obtain ⟨s1, s2, s3, s4⟩ := hSw; go_simp; try with_reducible rfl
        try simp only [Act.put, List.getElem_toArray, List.getElem_cons_zero, List.getElem_cons_succ, List.setIfInBounds_toArray, List.set_cons_zero, List.set_cons_succ]
        refine wpAnyH_take (i := 6) (v := ?_) rfl (by kernel_rfl) (by kernel_rfl) (by kernel_rfl) (fun _ _ _ h => h) (Or.inl ⟨by rfl, ?_⟩) (HS.out _ hd) ?_
        rotate_left 1
        next => intro w hSw; rw [hSe] at hSw; obtain ⟨s1, s2, s3, s4⟩ := hSw; go_simp; try with_reducible rfl
        try simp only [Act.put, List.getElem_toArray, List.getElem_cons_zero, List.getElem_cons_succ, List.setIfInBounds_toArray, List.set_cons_zero, List.set_cons_succ]
        refine wpAnyH_take (i := 7) (v := ?_) rfl (by kernel_rfl) (by kernel_rfl) (by kernel_rfl) (fun _ _ _ h => h) (Or.inl ⟨by rfl, ?_⟩) (HS.out _ hd) ?_
        rotate_left 1
        next => intro w hSw; rw [hSe] at hSw; obtain ⟨s1, s2, s3, s4⟩ := hSw; go_simp; try with_reducible rfl
        try simp only [Act.put, List.getElem_toArray, List.getElem_cons_zero, List.getElem_cons_succ, List.setIfInBounds_toArray, List.set_cons_zero, List.set_cons_succ]
        try simp only [Act.put, List.getElem_toArray, List.getElem_cons_zero, List.getElem_cons_succ, List.setIfInBounds_toArray, List.set_cons_zero, List.set_cons_succ]
        refine wpAnyH_ready (rs := [8]) (by kernel_rfl) (by simp) ?_
        refine AllReadyH.cons rfl (fun K hK => ?_) AllReadyH.nil
        go_simp
        rw [HM1.out]
        refine (HEn.out _ hd).mono ?_
        rintro e X12 ⟨rfl, hbc⟩
        have hb12 : Below wr.heap.size wr X12 := hd.trans (hbc.mono hd.size)
        dsimp only
        refine hK.out _ _ (HS.out _ hb12) (fun _ => ?_)
        clear hK K hbc
        refine wpAnyH_take (i := 9) (v := ?_) rfl (by kernel_rfl) (by kernel_rfl) (by kernel_rfl) (fun _ _ _ h => h) (Or.inl ⟨by rfl, ?_⟩) (HS.out _ hb12) ?_
        rotate_left 1
        next => intro w hSw; rw [hSe] at hSw; obtain ⟨s1, s2, s3, s4⟩ := hSw; go_simp; try with_reducible rfl
        try simp only [Act.put, List.getElem_toArray, List.getElem_cons_zero, List.getElem_cons_succ, List.setIfInBounds_toArray, List.set_cons_zero, List.set_cons_succ]
        refine wpAnyH_take (i := 10) (v := ?_) rfl (by kernel_rfl) (by kernel_rfl) (by kernel_rfl) (fun _ _ _ h => h) (Or.inl ⟨by rfl, ?_⟩) (HS.out _ hb12) ?_
        rotate_left 1
        next => intro w hSw; rw [hSe] at hSw; obtain ⟨s1, s2, s3, s4⟩ := hSw; go_simp; try with_reducible rfl
        try simp only [Act.put, List.getElem_toArray, List.getElem_cons_zero, List.getElem_cons_succ, List.setIfInBounds_toArray, List.set_cons_zero, List.set_cons_succ]
        refine wpAnyH_take (i := 11) (v := ?_) rfl (by kernel_rfl) (by kernel_rfl) (by kernel_rfl) (fun _ _ _ h => h) (Or.inl ⟨by rfl, ?_⟩) (HS.out _ hb12) ?_
        rotate_left 1
        next => intro w hSw; rw [hSe] at hSw; obtain ⟨s1, s2, s3, s4⟩ := hSw; go_simp; try with_reducible rfl
        try simp only [Act.put, List.getElem_toArray, List.getElem_cons_zero, List.getElem_cons_succ, List.setIfInBounds_toArray, List.set_cons_zero, List.set_cons_succ]
        refine wpAnyH_take (i := 12) (v := ?_) rfl (by kernel_rfl) (by kernel_rfl) (by kernel_rfl) (fun _ _ _ h => h) (Or.inl ⟨by rfl, ?_⟩) (HS.out _ hb12) ?_
        rotate_left 1
        next => intro w hSw; rw [hSe] at hSw; obtain ⟨s1, s2, s3, s4⟩ := hSw; go_simp; try with_reducible rfl
        try simp only [Act.put, List.getElem_toArray, List.getElem_cons_zero, List.getElem_cons_succ, List.setIfInBounds_toArray, List.set_cons_zero, List.set_cons_succ]
        refine wpAnyH_take (i := 13) (v := ?_) rfl (by kernel_rfl) (by kernel_rfl) (by kernel_rfl) (fun _ _ _ h => h) (Or.inl ⟨by rfl, ?_⟩) (HS.out _ hb12) ?_
        rotate_left 1
        next => intro w hSw; rw [hSe] at hSw; obtain ⟨s1, s2, s3, s4⟩ := hSw; go_simp; try with_reducible rfl
        try simp only [Act.put, List.getElem_toArray, List.getElem_cons_zero, List.getElem_cons_succ, List.setIfInBounds_toArray, List.set_cons_zero, List.set_cons_succ]
        refine wpAnyH_take (i := 14) (v := ?_) rfl (by kernel_rfl) (by kernel_rfl) (by kernel_rfl) (fun _ _ _ h => h) (Or.inl ⟨by rfl, ?_⟩) (HS.out _ hb12) ?_
        rotate_left 1
        next => intro w hSw; rw [hSe] at hSw; obtain ⟨s1, s2, s3, s4⟩ := hSw; go_simp; try with_reducible rfl
        try simp only [Act.put, List.getElem_toArray, List.getElem_cons_zero, List.getElem_cons_succ, List.setIfInBounds_toArray, List.set_cons_zero, List.set_cons_succ]
        refine wpAnyH_take (i := 15) (v := ?_) rfl (by kernel_rfl) (by kernel_rfl) (by kernel_rfl) (fun _ _ _ h => h) (Or.inl ⟨by rfl, ?_⟩) (HS.out _ hb12) ?_
        rotate_left 1
        next => intro w hSw; rw [hSe] at hSw; obtain ⟨s1, s2, s3, s4⟩ := hSw; go_simp; try with_reducible rfl
        try simp only [Act.put, List.getElem_toArray, List.getElem_cons_zero, List.getElem_cons_succ, List.setIfInBounds_toArray, List.set_cons_zero, List.set_cons_succ]
        refine wpAnyH_done (by kernel_rfl) ?_ _

        have Hb12 := Lib.hid (Hb.out.trans (hb12.mono Hb.out.size))
        have HW12 := Lib.hid (HW3.out.trans (Hb12.out.mono HW3.out.size))
        have HI12 := Lib.hid (HI5.out.below (Nat.le_refl _) hb12)
        clear hb12 HS hd hSe x0 x1 x2 x3 HEn Ho Hb HI5
        obtain ⟨og, od⟩ := HOD.out _ Hb12.out
        obtain ⟨x0, x1, x2, x3⟩ := cells_encO og
        obtain ⟨⟨z0, z1, z2, z3, z4, z5⟩, _, _, _, _, _, _⟩ := cells_decO od
        clear og od
        go_wp2_with fail
        refine (HDc.out _ Hb12.out).mono ?_
        rintro e X13 ⟨v13, rfl, ho13, hb⟩
        obtain ⟨p13, c13, rfl, _, hI13, _⟩ := ho13.form
        dsimp only
        have Hb13 := Lib.hid (Hb12.out.trans (hb.mono Hb12.out.size))
        have HW13 := Lib.hid (HW3.out.trans (Hb13.out.mono HW3.out.size))
        have HI5 := Lib.hid (HI12.out.below (Nat.le_refl _) hb)
        have HIR := Lib.hid hI13
        clear ho13 hb hI13 HI12 HDc x0 x1 x2 x3 z0 z1 z2 z3 z4 z5
        obtain ⟨og, od⟩ := HOD.out _ Hb13.out
        obtain ⟨x0, x1, x2, x3⟩ := cells_encO og
        obtain ⟨⟨z0, z1, z2, z3, z4, z5⟩, _, _, _, _, _, _⟩ := cells_decO od
        obtain ⟨RN, hRN⟩ : ∃ x, R.length = x := ⟨_, rfl⟩
        have HRN := Lib.hid hRN
        rw [hRN] at HF4 ⊢
        have hmx := @run_dmx Try.prog
        have hP9 : P ≤ 12 := by omega
        have hf9 : f ≤ 12 := by omega
        have n3 := dmx_0 NX P f hNX12 hP9 hf9
        rw [← HF4.out] at n3
        have n4 : ¬ (P : Int) < 0 := by omega
        have n5 : ¬ (f : Int) < 0 := by omega
        clear og od hRN hP9 hf9
        go_upto_region 14 with (fail)
        obtain ⟨d1, hd1⟩ : ∃ x, wrap64 ((NX : Int) - (P : Int)) = x := ⟨_, rfl⟩
        have hd1' : IntKind.i64.wrap ((NX : Int) - (P : Int)) = d1 := (IntWalk.i64_left _).trans hd1
        rw [hd1] at n3
        obtain ⟨d2, hd2⟩ : ∃ x, wrap64 (d1 - (f : Int)) = x := ⟨_, rfl⟩
        have hd2' : IntKind.i64.wrap (d1 - (f : Int)) = d2 := (IntWalk.i64_left _).trans hd2
        rw [hd2] at n3
        have n6 : ((RN : Int) != (RN : Int)) = false := by simp
        go_upto_region 16 with (fail)
        clear hd1 hd1' hd2 hd2' n3 n6 hmx
        by_cases hz : w2.size = 0
        · have w0 : ((w2.size : Int) == 0) = true := by rw [hz]; rfl
          by_cases hRN0 : 0 < RN
          · skip
            obtain ⟨b5, o5, hp5, _, _⟩ := IntsAt.cells (k := 0) HI5.out (by rw [intsN_len, Hll.out]; have := HF4.out; omega)
            subst hp5
            obtain ⟨e3, he3⟩ : ∃ x, NX - f = x := ⟨_, rfl⟩
            have hfx : f ≤ NX := by have := HF4.out; omega
            have hNk : NX ≤ 1000 := by omega
            have E1 : wrap64 ((NX : Int) - (f : Int)) = (e3 : Int) := by rw [← he3]; exact subW NX f hfx hNk
            have E2 : IntKind.i64.wrap ((NX : Int) - (f : Int)) = (e3 : Int) := (IntWalk.i64_left _).trans E1
            have hsm := fun (w : World) => slice_mid2 (w := w) (b := b5) (o := o5) (n := NX) (c := c5) (P := P) (e := e3) (r := RN) (by have := HF4.out; omega) (by omega) (by omega)
            have HIs : Hid (IntsAt X13 (some ⟨b5, o5 + P, none⟩) R) := Lib.hid (by rw [← HR.out]; exact ints_sub HI5.out Hll.out)
            have HEq := Lib.hid (equal_any R R p13 (some ⟨b5, o5 + P, none⟩) c13 (c5 - P) X13 HIR.out HIs.out (by rw [HRN.out]; have := HF4.out; omega))
            rw [HRN.out] at HEq
            have hRR : (R == R) = true := by simp
            rw [hRR] at HEq
            have r0 : (0 : Int) < (RN : Int) := by omega
            clear he3 hfx hNk hRR
            go_wp2_with fail
            refine HEq.out.mono ?_
            rintro e X18 ⟨rfl, hdr⟩
            have hb := hdr.below X13.heap.size
            have Hb18 := Lib.hid (Hb13.out.trans (hb.mono Hb13.out.size))
            have HW18 := Lib.hid (HW3.out.trans (Hb18.out.mono HW3.out.size))
            clear hdr hb E1 E2 hsm x0 x1 x2 x3 z0 z1 z2 z3 z4 z5
            obtain ⟨og, od⟩ := HOD.out _ Hb18.out
            obtain ⟨x0, x1, x2, x3⟩ := cells_encO og
            obtain ⟨⟨z0, z1, z2, z3, z4, z5⟩, _, _, _, _, _, _⟩ := cells_decO od
            clear og od
            go_wp2_with (go_at_call 8; refine (awake3_any _).mono ?_; rintro e w9 ⟨rfl, hb⟩; have Hb9 := Lib.hid hb; clear hb)
            go_ret
            exact ⟨rfl, by first | exact HW18.out.trans (Hb9.out.mono HW18.out.size) | (rw [← hg]; exact HW18.out.trans (Hb9.out.mono HW18.out.size))⟩
          · have r0 : ¬ (0 : Int) < (RN : Int) := by omega
            go_wp2_with (go_at_call 8; refine (awake3_any _).mono ?_; rintro e w9 ⟨rfl, hb⟩; have Hb9 := Lib.hid hb; clear hb)
            go_ret
            exact ⟨rfl, by first | exact HW13.out.trans (Hb9.out.mono HW13.out.size) | (rw [← hg]; exact HW13.out.trans (Hb9.out.mono HW13.out.size))⟩
        by_cases hRN0 : 0 < RN
        · skip
          obtain ⟨b5, o5, hp5, _, _⟩ := IntsAt.cells (k := 0) HI5.out (by rw [intsN_len, Hll.out]; have := HF4.out; omega)
          subst hp5
          obtain ⟨e3, he3⟩ : ∃ x, NX - f = x := ⟨_, rfl⟩
          have hfx : f ≤ NX := by have := HF4.out; omega
          have hNk : NX ≤ 1000 := by omega
          have E1 : wrap64 ((NX : Int) - (f : Int)) = (e3 : Int) := by rw [← he3]; exact subW NX f hfx hNk
          have E2 : IntKind.i64.wrap ((NX : Int) - (f : Int)) = (e3 : Int) := (IntWalk.i64_left _).trans E1
          have hsm := fun (w : World) => slice_mid2 (w := w) (b := b5) (o := o5) (n := NX) (c := c5) (P := P) (e := e3) (r := RN) (by have := HF4.out; omega) (by omega) (by omega)
          have HIs : Hid (IntsAt X13 (some ⟨b5, o5 + P, none⟩) R) := Lib.hid (by rw [← HR.out]; exact ints_sub HI5.out Hll.out)
          have HEq := Lib.hid (equal_any R R p13 (some ⟨b5, o5 + P, none⟩) c13 (c5 - P) X13 HIR.out HIs.out (by rw [HRN.out]; have := HF4.out; omega))
          rw [HRN.out] at HEq
          have hRR : (R == R) = true := by simp
          rw [hRR] at HEq
          have r0 : (0 : Int) < (RN : Int) := by omega
          clear he3 hfx hNk hRR
          go_wp2_with fail
          refine HEq.out.mono ?_
          rintro e X18 ⟨rfl, hdr⟩
          have hb := hdr.below X13.heap.size
          have Hb18 := Lib.hid (Hb13.out.trans (hb.mono Hb13.out.size))
          have HW18 := Lib.hid (HW3.out.trans (Hb18.out.mono HW3.out.size))
          clear hdr hb E1 E2 hsm x0 x1 x2 x3 z0 z1 z2 z3 z4 z5
          obtain ⟨og, od⟩ := HOD.out _ Hb18.out
          obtain ⟨x0, x1, x2, x3⟩ := cells_encO og
          obtain ⟨⟨z0, z1, z2, z3, z4, z5⟩, _, _, _, _, _, _⟩ := cells_decO od
          clear og od
          have w0 : ((w2.size : Int) == 0) = false := by rw [beq_eq_false_iff_ne]; omega
          have w1 : ¬ (w2.size : Int) = 0 := by omega
          have hLn : ¬ (L : Int) = 0 := by omega
          have hLm : ¬ L = 0 := by omega
          obtain ⟨A0, hA0⟩ : ∃ x, av % w2.size = x := ⟨_, rfl⟩
          obtain ⟨C0, hC0⟩ : ∃ x, lv % L = x := ⟨_, rfl⟩
          have hA1 : A0 < w2.size := by rw [← hA0]; exact Nat.mod_lt _ (by omega)
          have hC1 : C0 < L := by rw [← hC0]; exact Nat.mod_lt _ (by omega)
          have M1 : (IntKind.i64.wrap (av : Int)).tmod (w2.size : Int) = (A0 : Int) := by rw [← hA0]; exact modW av w2.size hav
          have M2 : (av : Int).tmod (w2.size : Int) = (A0 : Int) := by rw [← hA0]; exact modN av w2.size
          have M3 : (av : Int) % (w2.size : Int) = (A0 : Int) := by rw [← hA0]; exact modE av w2.size
          have HM3 := Lib.hid (modW lv L hlv)
          rw [hC0] at HM3
          obtain ⟨c1, c2, c3⟩ := F7.out A0 C0 hA1 hC1
          have HC3 := Lib.hid c3
          have HCh := Lib.hid (fun (W : World) (h : Below X.heap.size X W) => changed_any (L : Int) (B : Int) (I : Int) (P : Int) (f : Int) es a cap w2 (A0 : Int) (C0 : Int) W (SlAt.mono HE.out (Nat.le_refl _) h) HWn.out (by omega))
          rw [c1] at HCh
          obtain ⟨CH, hCH⟩ : ∃ x, chOut (L : Int) (B : Int) (I : Int) (P : Int) (f : Int) es w2 (A0 : Int) (C0 : Int) = x := ⟨_, rfl⟩
          rw [hCH] at HCh c2 HC3
          obtain ⟨BD, hBD⟩ : ∃ x : Int, (P : Int) + 1 + (f : Int) = x := ⟨_, rfl⟩
          rw [hBD] at HBo c2
          have HBD := Lib.hid hBD
          have HC2 := Lib.hid c2
          have hu18 : u < X18.heap.size := by have := Hb18.out.size; have := HX0.out; omega
          clear hA0 hC0 c1 c2 c3 hCH hBD
          go_upto_region 21 with (fail)
          clear M1 M2 M3
          obtain ⟨SS, hSe⟩ : ∃ SS : World → Prop, SS = fun W => W.cell? ⟨g, 0, none⟩ = some (.int .i64 (L : Int)) ∧ W.cell? ⟨u, 0, none⟩ = some (.int .i64 (L : Int)) ∧ W.cell? ⟨u, 1, none⟩ = some (.int .i64 (B : Int)) ∧ W.cell? ⟨u, 2, none⟩ = some (.int .i64 (I : Int)) ∧ W.cell? ⟨u, 3, none⟩ = some (.int .i64 (P : Int)) ∧ W.cell? ⟨u, 4, none⟩ = some (.int .i64 (f : Int)) ∧ W.cell? ⟨u, 5, none⟩ = some (.slice a es.length cap) := ⟨_, rfl⟩
          have HS : Hid (∀ W, Below X18.heap.size X18 W → SS W) := Lib.hid (fun W hW => by
            rw [hSe]
            exact ⟨(hW.cell (p := ⟨g, 0, none⟩) (by show g < _; omega)).trans x0, (hW.cell (p := ⟨u, 0, none⟩) (by show u < _; omega)).trans z0, (hW.cell (p := ⟨u, 1, none⟩) (by show u < _; omega)).trans z1, (hW.cell (p := ⟨u, 2, none⟩) (by show u < _; omega)).trans z2, (hW.cell (p := ⟨u, 3, none⟩) (by show u < _; omega)).trans z3, (hW.cell (p := ⟨u, 4, none⟩) (by show u < _; omega)).trans z4, (hW.cell (p := ⟨u, 5, none⟩) (by show u < _; omega)).trans z5⟩)
          have hd : Below X18.heap.size X18 X18.drew := (Below.refl _ _).drew
          refine wp_region_held_drew (S := SS) (by kernel_rfl) (HS.out _ hd) (fun hSS => ?_)
          refine wpAnyH_take (i := 0) (v := ?_) rfl (by kernel_rfl) (by kernel_rfl) (by kernel_rfl) (fun _ _ _ h => h) (Or.inl ⟨by rfl, ?_⟩) (HS.out _ hd) ?_
          rotate_left 1
          next => intro w hSw; rw [hSe] at hSw; obtain ⟨s1, s2, s3, s4, s5, s6, s7⟩ := hSw; go_simp; try with_reducible rfl
          try simp only [Act.put, List.getElem_toArray, List.getElem_cons_zero, List.getElem_cons_succ, List.setIfInBounds_toArray, List.set_cons_zero, List.set_cons_succ]
          refine wpAnyH_take (i := 1) (v := ?_) rfl (by kernel_rfl) (by kernel_rfl) (by kernel_rfl) (fun _ _ _ h => h) (Or.inl ⟨by rfl, ?_⟩) (HS.out _ hd) ?_
          rotate_left 1
          next => intro w hSw; rw [hSe] at hSw; obtain ⟨s1, s2, s3, s4, s5, s6, s7⟩ := hSw; go_simp; try with_reducible rfl
          try simp only [Act.put, List.getElem_toArray, List.getElem_cons_zero, List.getElem_cons_succ, List.setIfInBounds_toArray, List.set_cons_zero, List.set_cons_succ]
          refine wpAnyH_take (i := 2) (v := ?_) rfl (by kernel_rfl) (by kernel_rfl) (by kernel_rfl) (fun _ _ _ h => h) (Or.inl ⟨by rfl, ?_⟩) (HS.out _ hd) ?_
          rotate_left 1
          next => intro w hSw; rw [hSe] at hSw; obtain ⟨s1, s2, s3, s4, s5, s6, s7⟩ := hSw; go_simp; try with_reducible rfl
          try simp only [Act.put, List.getElem_toArray, List.getElem_cons_zero, List.getElem_cons_succ, List.setIfInBounds_toArray, List.set_cons_zero, List.set_cons_succ]
          refine wpAnyH_take (i := 3) (v := ?_) rfl (by kernel_rfl) (by kernel_rfl) (by kernel_rfl) (fun _ _ _ h => h) (Or.inl ⟨by rfl, ?_⟩) (HS.out _ hd) ?_
          rotate_left 1
          next => intro w hSw; rw [hSe] at hSw; obtain ⟨s1, s2, s3, s4, s5, s6, s7⟩ := hSw; go_simp; try with_reducible rfl
          try simp only [Act.put, List.getElem_toArray, List.getElem_cons_zero, List.getElem_cons_succ, List.setIfInBounds_toArray, List.set_cons_zero, List.set_cons_succ]
          refine wpAnyH_take (i := 4) (v := ?_) rfl (by kernel_rfl) (by kernel_rfl) (by kernel_rfl) (fun _ _ _ h => h) (Or.inl ⟨by rfl, ?_⟩) (HS.out _ hd) ?_
          rotate_left 1
          next => intro w hSw; rw [hSe] at hSw; obtain ⟨s1, s2, s3, s4, s5, s6, s7⟩ := hSw; go_simp; try with_reducible rfl
          try simp only [Act.put, List.getElem_toArray, List.getElem_cons_zero, List.getElem_cons_succ, List.setIfInBounds_toArray, List.set_cons_zero, List.set_cons_succ]
          refine wpAnyH_take (i := 5) (v := ?_) rfl (by kernel_rfl) (by kernel_rfl) (by kernel_rfl) (fun _ _ _ h => h) (Or.inl ⟨by rfl, ?_⟩) (HS.out _ hd) ?_
          rotate_left 1
          next => intro w hSw; rw [hSe] at hSw; obtain ⟨s1, s2, s3, s4, s5, s6, s7⟩ := hSw; go_simp; try with_reducible rfl
          try simp only [Act.put, List.getElem_toArray, List.getElem_cons_zero, List.getElem_cons_succ, List.setIfInBounds_toArray, List.set_cons_zero, List.set_cons_succ]
          refine wpAnyH_take (i := 6) (v := ?_) rfl (by kernel_rfl) (by kernel_rfl) (by kernel_rfl) (fun _ _ _ h => h) (Or.inl ⟨by rfl, ?_⟩) (HS.out _ hd) ?_
          rotate_left 1
          next => intro w hSw; rw [hSe] at hSw; obtain ⟨s1, s2, s3, s4, s5, s6, s7⟩ := hSw; go_simp; try with_reducible rfl
          try simp only [Act.put, List.getElem_toArray, List.getElem_cons_zero, List.getElem_cons_succ, List.setIfInBounds_toArray, List.set_cons_zero, List.set_cons_succ]
          refine wpAnyH_take (i := 7) (v := ?_) rfl (by kernel_rfl) (by kernel_rfl) (by kernel_rfl) (fun _ _ _ h => h) (Or.inl ⟨by rfl, ?_⟩) (HS.out _ hd) ?_
          rotate_left 1
          next => intro w hSw; rw [hSe] at hSw; obtain ⟨s1, s2, s3, s4, s5, s6, s7⟩ := hSw; go_simp; try with_reducible rfl
          try simp only [Act.put, List.getElem_toArray, List.getElem_cons_zero, List.getElem_cons_succ, List.setIfInBounds_toArray, List.set_cons_zero, List.set_cons_succ]
          try simp only [Act.put, List.getElem_toArray, List.getElem_cons_zero, List.getElem_cons_succ, List.setIfInBounds_toArray, List.set_cons_zero, List.set_cons_succ]
          refine wpAnyH_ready (rs := [8]) (by kernel_rfl) (by simp) ?_
          refine AllReadyH.cons rfl (fun K hK => ?_) AllReadyH.nil
          go_simp
          rw [HM3.out]
          refine (HCh.out _ (Hb18.out.trans (hd.mono Hb18.out.size))).mono ?_
          rintro e X21 ⟨v21, rfl, ho21, hbc⟩
          obtain ⟨p21, c21, rfl, _, hI21, _⟩ := ho21.form
          have hb21 : Below X18.heap.size X18 X21 := hd.trans (hbc.mono hd.size)
          have HI21 := Lib.hid hI21
          dsimp only
          refine hK.out _ _ (HS.out _ hb21) (fun _ => ?_)
          clear hK K hbc ho21 hI21
          refine wpAnyH_take (i := 9) (v := ?_) rfl (by kernel_rfl) (by kernel_rfl) (by kernel_rfl) (fun _ _ _ h => h) (Or.inl ⟨by rfl, ?_⟩) (HS.out _ hb21) ?_
          rotate_left 1
          next => intro w hSw; rw [hSe] at hSw; obtain ⟨s1, s2, s3, s4, s5, s6, s7⟩ := hSw; go_simp; try with_reducible rfl
          try simp only [Act.put, List.getElem_toArray, List.getElem_cons_zero, List.getElem_cons_succ, List.setIfInBounds_toArray, List.set_cons_zero, List.set_cons_succ]
          refine wpAnyH_take (i := 10) (v := ?_) rfl (by kernel_rfl) (by kernel_rfl) (by kernel_rfl) (fun _ _ _ h => h) (Or.inl ⟨by rfl, ?_⟩) (HS.out _ hb21) ?_
          rotate_left 1
          next => intro w hSw; rw [hSe] at hSw; obtain ⟨s1, s2, s3, s4, s5, s6, s7⟩ := hSw; go_simp; try with_reducible rfl
          try simp only [Act.put, List.getElem_toArray, List.getElem_cons_zero, List.getElem_cons_succ, List.setIfInBounds_toArray, List.set_cons_zero, List.set_cons_succ]
          refine wpAnyH_take (i := 11) (v := ?_) rfl (by kernel_rfl) (by kernel_rfl) (by kernel_rfl) (fun _ _ _ h => h) (Or.inl ⟨by rfl, ?_⟩) (HS.out _ hb21) ?_
          rotate_left 1
          next => intro w hSw; rw [hSe] at hSw; obtain ⟨s1, s2, s3, s4, s5, s6, s7⟩ := hSw; go_simp; try with_reducible rfl
          try simp only [Act.put, List.getElem_toArray, List.getElem_cons_zero, List.getElem_cons_succ, List.setIfInBounds_toArray, List.set_cons_zero, List.set_cons_succ]
          refine wpAnyH_take (i := 12) (v := ?_) rfl (by kernel_rfl) (by kernel_rfl) (by kernel_rfl) (fun _ _ _ h => h) (Or.inl ⟨by rfl, ?_⟩) (HS.out _ hb21) ?_
          rotate_left 1
          next => intro w hSw; rw [hSe] at hSw; obtain ⟨s1, s2, s3, s4, s5, s6, s7⟩ := hSw; go_simp; try with_reducible rfl
          try simp only [Act.put, List.getElem_toArray, List.getElem_cons_zero, List.getElem_cons_succ, List.setIfInBounds_toArray, List.set_cons_zero, List.set_cons_succ]
          refine wpAnyH_take (i := 13) (v := ?_) rfl (by kernel_rfl) (by kernel_rfl) (by kernel_rfl) (fun _ _ _ h => h) (Or.inl ⟨by rfl, ?_⟩) (HS.out _ hb21) ?_
          rotate_left 1
          next => intro w hSw; rw [hSe] at hSw; obtain ⟨s1, s2, s3, s4, s5, s6, s7⟩ := hSw; go_simp; try with_reducible rfl
          try simp only [Act.put, List.getElem_toArray, List.getElem_cons_zero, List.getElem_cons_succ, List.setIfInBounds_toArray, List.set_cons_zero, List.set_cons_succ]
          refine wpAnyH_done (by kernel_rfl) ?_ _

          have Hb21 := Lib.hid (Hb18.out.trans (hb21.mono Hb18.out.size))
          have HW21 := Lib.hid (HW3.out.trans (Hb21.out.mono HW3.out.size))
          clear hb21 HS hd hSe x0 x1 x2 x3 z0 z1 z2 z3 z4 z5 HCh HM3 hSS
          obtain ⟨og, od⟩ := HOD.out _ Hb21.out
          obtain ⟨x0, x1, x2, x3⟩ := cells_encO og
          obtain ⟨⟨z0, z1, z2, z3, z4, z5⟩, _, _, _, _, _, _⟩ := cells_decO od
          clear og od
          go_wp2_with fail
          refine (HBo.out _ Hb21.out).mono ?_
          rintro e X22 ⟨rfl, hb⟩
          have Hb22 := Lib.hid (Hb21.out.trans (hb.mono Hb21.out.size))
          have HW22 := Lib.hid (HW3.out.trans (Hb22.out.mono HW3.out.size))
          have HI22 := Lib.hid (HI21.out.below (Nat.le_refl _) hb)
          clear hb HI21 x0 x1 x2 x3 z0 z1 z2 z3 z4 z5 HBo
          obtain ⟨og, od⟩ := HOD.out _ Hb22.out
          obtain ⟨x0, x1, x2, x3⟩ := cells_encO og
          obtain ⟨⟨z0, z1, z2, z3, z4, z5⟩, _, _, _, _, _, _⟩ := cells_decO od
          obtain ⟨CN, hCN⟩ : ∃ x, CH.length = x := ⟨_, rfl⟩
          have hle : ¬ BD < (CN : Int) := by have := HC2.out; omega
          have HCN := Lib.hid hCN
          rw [hCN]
          obtain ⟨D0, hD0⟩ : ∃ x, A0 / B = x := ⟨_, rfl⟩
          have hB0 : ¬ (B : Int) = 0 := by omega
          have hB00 : ¬ B = 0 := by omega
          have T1 : (A0 : Int).tdiv (B : Int) = (D0 : Int) := by rw [← hD0]; exact quoN A0 B
          have T2 : (A0 : Int) / (B : Int) = (D0 : Int) := by rw [← hD0]; exact quoE A0 B
          have hD1 : D0 ≤ 1000 := by
            rw [← hD0]
            exact Nat.le_trans (Nat.div_le_self _ _) (by omega)
          obtain ⟨q1, hq1⟩ : ∃ x, wrap64 ((P : Int) + 1) = x := ⟨_, rfl⟩
          obtain ⟨q2, hq2⟩ : ∃ x, wrap64 (q1 + (f : Int)) = x := ⟨_, rfl⟩
          have hqq : (BD != q2) = false := bndW hPf hq1 hq2 HBD.out
          have hq1' : IntKind.i64.wrap ((P : Int) + 1) = q1 := (IntWalk.i64_left _).trans hq1
          have hq2' : IntKind.i64.wrap (q1 + (f : Int)) = q2 := (IntWalk.i64_left _).trans hq2
          have T3 : wrap64 (D0 : Int) = (D0 : Int) := wrapN D0 hD1
          have T4 : IntKind.i64.wrap (D0 : Int) = (D0 : Int) := (IntWalk.i64_left _).trans T3
          rw [hD0] at HC3
          clear og od hCN hD0
          go_upto_region 26 with (fail)
          clear hq1 hq1' hq2 hq2' hqq T1 T2 T3 T4
          have hR12 : RN ≤ 12 := by have := HF4.out; omega
          have hCN3 : CN ≤ 3 := by have := HBD.out; omega
          go_wp2
          go_loopw [188] (fun kv wr => ∃ k : Nat, k ≤ CN ∧ kv = .int .i64 (k : Nat) ∧ wr = X22) (fun kv _ => CN - (intOf kv).toNat)
          case atStart => exact ⟨0, by omega, by go_num, by first | rfl | trivial⟩
          case round =>
            obtain ⟨k, hk, rfl, rfl⟩ := hrel
            by_cases hlt : k < CN
            · obtain ⟨bb, bo, rfl, hbl, hca⟩ := HI22.out.cells (k := k) (by rw [HCN.out]; exact hlt)
              have hxa := hca k (by rw [HCN.out]; exact hlt)
              obtain ⟨x, hx⟩ : ∃ x, CH.getD k 0 = x := ⟨_, rfl⟩
              obtain ⟨g1, g2, g3, g4⟩ := HC3.out x (by rw [← hx, List.getD_eq_getElem?_getD, List.getElem?_eq_getElem (by rw [HCN.out]; exact hlt)]; exact List.getElem_mem _)
              rw [HRN.out] at g2
              rw [hx] at hxa
              have k0 : (0 : Int) ≤ (k : Int) := by omega
              have k1 : (k : Int) < (CN : Int) := by omega
              have t1 : ¬ x < 0 := by omega
              have t2 : ¬ (RN : Int) ≤ x := by omega
              have t3 : ¬ (D0 : Int) < x := by omega
              have hx5 : 0 ≤ x ∧ x ≤ 500 := by omega
              obtain ⟨y1, hy1⟩ : ∃ y, wrap64 (x + (P : Int)) = y := ⟨_, rfl⟩
              obtain ⟨y2, hy2⟩ : ∃ y, wrap64 (y1 + (f : Int)) = y := ⟨_, rfl⟩
              have t4 : ¬ y2 < (D0 : Int) := endW hx5 hPf g4 hy1 hy2
              have hy1' : IntKind.i64.wrap (x + (P : Int)) = y1 := (IntWalk.i64_left _).trans hy1
              have hy2' : IntKind.i64.wrap (y1 + (f : Int)) = y2 := (IntWalk.i64_left _).trans hy2
              clear hca hx g1 g2 g3 g4 hx5
              go_wp2
              go_roundw
              case rel => exact ⟨k + 1, by clear hy1 hy2 hy1' hy2'; omega, by clear hy1 hy2 hy1' hy2'; go_num, by first | rfl | trivial⟩
              case measure => clear hy1 hy2 hy1' hy2'; simp [intOf]; omega
            · have k1 : ¬ (k : Int) < (CN : Int) := by omega
              go_wp2_with (go_at_call 8; refine (awake3_any _).mono ?_; rintro e w9 ⟨rfl, hb⟩; have Hb9 := Lib.hid hb; clear hb)
              go_ret
              exact ⟨rfl, by first | exact HW22.out.trans (Hb9.out.mono HW22.out.size) | (rw [← hg]; exact HW22.out.trans (Hb9.out.mono HW22.out.size))⟩
        · have r0 : ¬ (0 : Int) < (RN : Int) := by omega
          go_upto_region 18 with (fail)
          clear r0
          have w0 : ((w2.size : Int) == 0) = false := by rw [beq_eq_false_iff_ne]; omega
          have w1 : ¬ (w2.size : Int) = 0 := by omega
          have hLn : ¬ (L : Int) = 0 := by omega
          have hLm : ¬ L = 0 := by omega
          obtain ⟨A0, hA0⟩ : ∃ x, av % w2.size = x := ⟨_, rfl⟩
          obtain ⟨C0, hC0⟩ : ∃ x, lv % L = x := ⟨_, rfl⟩
          have hA1 : A0 < w2.size := by rw [← hA0]; exact Nat.mod_lt _ (by omega)
          have hC1 : C0 < L := by rw [← hC0]; exact Nat.mod_lt _ (by omega)
          have M1 : (IntKind.i64.wrap (av : Int)).tmod (w2.size : Int) = (A0 : Int) := by rw [← hA0]; exact modW av w2.size hav
          have M2 : (av : Int).tmod (w2.size : Int) = (A0 : Int) := by rw [← hA0]; exact modN av w2.size
          have M3 : (av : Int) % (w2.size : Int) = (A0 : Int) := by rw [← hA0]; exact modE av w2.size
          have HM3 := Lib.hid (modW lv L hlv)
          rw [hC0] at HM3
          obtain ⟨c1, c2, c3⟩ := F7.out A0 C0 hA1 hC1
          have HC3 := Lib.hid c3
          have HCh := Lib.hid (fun (W : World) (h : Below X.heap.size X W) => changed_any (L : Int) (B : Int) (I : Int) (P : Int) (f : Int) es a cap w2 (A0 : Int) (C0 : Int) W (SlAt.mono HE.out (Nat.le_refl _) h) HWn.out (by omega))
          rw [c1] at HCh
          obtain ⟨CH, hCH⟩ : ∃ x, chOut (L : Int) (B : Int) (I : Int) (P : Int) (f : Int) es w2 (A0 : Int) (C0 : Int) = x := ⟨_, rfl⟩
          rw [hCH] at HCh c2 HC3
          obtain ⟨BD, hBD⟩ : ∃ x : Int, (P : Int) + 1 + (f : Int) = x := ⟨_, rfl⟩
          rw [hBD] at HBo c2
          have HBD := Lib.hid hBD
          have HC2 := Lib.hid c2
          have hu18 : u < X13.heap.size := by have := Hb13.out.size; have := HX0.out; omega
          clear hA0 hC0 c1 c2 c3 hCH hBD
          go_upto_region 21 with (fail)
          clear M1 M2 M3
          obtain ⟨SS, hSe⟩ : ∃ SS : World → Prop, SS = fun W => W.cell? ⟨g, 0, none⟩ = some (.int .i64 (L : Int)) ∧ W.cell? ⟨u, 0, none⟩ = some (.int .i64 (L : Int)) ∧ W.cell? ⟨u, 1, none⟩ = some (.int .i64 (B : Int)) ∧ W.cell? ⟨u, 2, none⟩ = some (.int .i64 (I : Int)) ∧ W.cell? ⟨u, 3, none⟩ = some (.int .i64 (P : Int)) ∧ W.cell? ⟨u, 4, none⟩ = some (.int .i64 (f : Int)) ∧ W.cell? ⟨u, 5, none⟩ = some (.slice a es.length cap) := ⟨_, rfl⟩
          have HS : Hid (∀ W, Below X13.heap.size X13 W → SS W) := Lib.hid (fun W hW => by
            rw [hSe]
            exact ⟨(hW.cell (p := ⟨g, 0, none⟩) (by show g < _; omega)).trans x0, (hW.cell (p := ⟨u, 0, none⟩) (by show u < _; omega)).trans z0, (hW.cell (p := ⟨u, 1, none⟩) (by show u < _; omega)).trans z1, (hW.cell (p := ⟨u, 2, none⟩) (by show u < _; omega)).trans z2, (hW.cell (p := ⟨u, 3, none⟩) (by show u < _; omega)).trans z3, (hW.cell (p := ⟨u, 4, none⟩) (by show u < _; omega)).trans z4, (hW.cell (p := ⟨u, 5, none⟩) (by show u < _; omega)).trans z5⟩)
          have hd : Below X13.heap.size X13 X13.drew := (Below.refl _ _).drew
          refine wp_region_held_drew (S := SS) (by kernel_rfl) (HS.out _ hd) (fun hSS => ?_)
          refine wpAnyH_take (i := 0) (v := ?_) rfl (by kernel_rfl) (by kernel_rfl) (by kernel_rfl) (fun _ _ _ h => h) (Or.inl ⟨by rfl, ?_⟩) (HS.out _ hd) ?_
          rotate_left 1
          next => intro w hSw; rw [hSe] at hSw; obtain ⟨s1, s2, s3, s4, s5, s6, s7⟩ := hSw; go_simp; try with_reducible rfl
          try simp only [Act.put, List.getElem_toArray, List.getElem_cons_zero, List.getElem_cons_succ, List.setIfInBounds_toArray, List.set_cons_zero, List.set_cons_succ]
          refine wpAnyH_take (i := 1) (v := ?_) rfl (by kernel_rfl) (by kernel_rfl) (by kernel_rfl) (fun _ _ _ h => h) (Or.inl ⟨by rfl, ?_⟩) (HS.out _ hd) ?_
          rotate_left 1
          next => intro w hSw; rw [hSe] at hSw; obtain ⟨s1, s2, s3, s4, s5, s6, s7⟩ := hSw; go_simp; try with_reducible rfl
          try simp only [Act.put, List.getElem_toArray, List.getElem_cons_zero, List.getElem_cons_succ, List.setIfInBounds_toArray, List.set_cons_zero, List.set_cons_succ]
          refine wpAnyH_take (i := 2) (v := ?_) rfl (by kernel_rfl) (by kernel_rfl) (by kernel_rfl) (fun _ _ _ h => h) (Or.inl ⟨by rfl, ?_⟩) (HS.out _ hd) ?_
          rotate_left 1
          next => intro w hSw; rw [hSe] at hSw; obtain ⟨s1, s2, s3, s4, s5, s6, s7⟩ := hSw; go_simp; try with_reducible rfl
          try simp only [Act.put, List.getElem_toArray, List.getElem_cons_zero, List.getElem_cons_succ, List.setIfInBounds_toArray, List.set_cons_zero, List.set_cons_succ]
          refine wpAnyH_take (i := 3) (v := ?_) rfl (by kernel_rfl) (by kernel_rfl) (by kernel_rfl) (fun _ _ _ h => h) (Or.inl ⟨by rfl, ?_⟩) (HS.out _ hd) ?_
          rotate_left 1
          next => intro w hSw; rw [hSe] at hSw; obtain ⟨s1, s2, s3, s4, s5, s6, s7⟩ := hSw; go_simp; try with_reducible rfl
          try simp only [Act.put, List.getElem_toArray, List.getElem_cons_zero, List.getElem_cons_succ, List.setIfInBounds_toArray, List.set_cons_zero, List.set_cons_succ]
          refine wpAnyH_take (i := 4) (v := ?_) rfl (by kernel_rfl) (by kernel_rfl) (by kernel_rfl) (fun _ _ _ h => h) (Or.inl ⟨by rfl, ?_⟩) (HS.out _ hd) ?_
          rotate_left 1
          next => intro w hSw; rw [hSe] at hSw; obtain ⟨s1, s2, s3, s4, s5, s6, s7⟩ := hSw; go_simp; try with_reducible rfl
          try simp only [Act.put, List.getElem_toArray, List.getElem_cons_zero, List.getElem_cons_succ, List.setIfInBounds_toArray, List.set_cons_zero, List.set_cons_succ]
          refine wpAnyH_take (i := 5) (v := ?_) rfl (by kernel_rfl) (by kernel_rfl) (by kernel_rfl) (fun _ _ _ h => h) (Or.inl ⟨by rfl, ?_⟩) (HS.out _ hd) ?_
          rotate_left 1
          next => intro w hSw; rw [hSe] at hSw; obtain ⟨s1, s2, s3, s4, s5, s6, s7⟩ := hSw; go_simp; try with_reducible rfl
          try simp only [Act.put, List.getElem_toArray, List.getElem_cons_zero, List.getElem_cons_succ, List.setIfInBounds_toArray, List.set_cons_zero, List.set_cons_succ]
          refine wpAnyH_take (i := 6) (v := ?_) rfl (by kernel_rfl) (by kernel_rfl) (by kernel_rfl) (fun _ _ _ h => h) (Or.inl ⟨by rfl, ?_⟩) (HS.out _ hd) ?_
          rotate_left 1
          next => intro w hSw; rw [hSe] at hSw; obtain ⟨s1, s2, s3, s4, s5, s6, s7⟩ := hSw; go_simp; try with_reducible rfl
          try simp only [Act.put, List.getElem_toArray, List.getElem_cons_zero, List.getElem_cons_succ, List.setIfInBounds_toArray, List.set_cons_zero, List.set_cons_succ]
          refine wpAnyH_take (i := 7) (v := ?_) rfl (by kernel_rfl) (by kernel_rfl) (by kernel_rfl) (fun _ _ _ h => h) (Or.inl ⟨by rfl, ?_⟩) (HS.out _ hd) ?_
          rotate_left 1
          next => intro w hSw; rw [hSe] at hSw; obtain ⟨s1, s2, s3, s4, s5, s6, s7⟩ := hSw; go_simp; try with_reducible rfl
          try simp only [Act.put, List.getElem_toArray, List.getElem_cons_zero, List.getElem_cons_succ, List.setIfInBounds_toArray, List.set_cons_zero, List.set_cons_succ]
          try simp only [Act.put, List.getElem_toArray, List.getElem_cons_zero, List.getElem_cons_succ, List.setIfInBounds_toArray, List.set_cons_zero, List.set_cons_succ]
          refine wpAnyH_ready (rs := [8]) (by kernel_rfl) (by simp) ?_
          refine AllReadyH.cons rfl (fun K hK => ?_) AllReadyH.nil
          go_simp
          rw [HM3.out]
          refine (HCh.out _ (Hb13.out.trans (hd.mono Hb13.out.size))).mono ?_
          rintro e X21 ⟨v21, rfl, ho21, hbc⟩
          obtain ⟨p21, c21, rfl, _, hI21, _⟩ := ho21.form
          have hb21 : Below X13.heap.size X13 X21 := hd.trans (hbc.mono hd.size)
          have HI21 := Lib.hid hI21
          dsimp only
          refine hK.out _ _ (HS.out _ hb21) (fun _ => ?_)
          clear hK K hbc ho21 hI21
          refine wpAnyH_take (i := 9) (v := ?_) rfl (by kernel_rfl) (by kernel_rfl) (by kernel_rfl) (fun _ _ _ h => h) (Or.inl ⟨by rfl, ?_⟩) (HS.out _ hb21) ?_
          rotate_left 1
          next => intro w hSw; rw [hSe] at hSw; obtain ⟨s1, s2, s3, s4, s5, s6, s7⟩ := hSw; go_simp; try with_reducible rfl
          try simp only [Act.put, List.getElem_toArray, List.getElem_cons_zero, List.getElem_cons_succ, List.setIfInBounds_toArray, List.set_cons_zero, List.set_cons_succ]
          refine wpAnyH_take (i := 10) (v := ?_) rfl (by kernel_rfl) (by kernel_rfl) (by kernel_rfl) (fun _ _ _ h => h) (Or.inl ⟨by rfl, ?_⟩) (HS.out _ hb21) ?_
          rotate_left 1
          next => intro w hSw; rw [hSe] at hSw; obtain ⟨s1, s2, s3, s4, s5, s6, s7⟩ := hSw; go_simp; try with_reducible rfl
          try simp only [Act.put, List.getElem_toArray, List.getElem_cons_zero, List.getElem_cons_succ, List.setIfInBounds_toArray, List.set_cons_zero, List.set_cons_succ]
          refine wpAnyH_take (i := 11) (v := ?_) rfl (by kernel_rfl) (by kernel_rfl) (by kernel_rfl) (fun _ _ _ h => h) (Or.inl ⟨by rfl, ?_⟩) (HS.out _ hb21) ?_
          rotate_left 1
          next => intro w hSw; rw [hSe] at hSw; obtain ⟨s1, s2, s3, s4, s5, s6, s7⟩ := hSw; go_simp; try with_reducible rfl
          try simp only [Act.put, List.getElem_toArray, List.getElem_cons_zero, List.getElem_cons_succ, List.setIfInBounds_toArray, List.set_cons_zero, List.set_cons_succ]
          refine wpAnyH_take (i := 12) (v := ?_) rfl (by kernel_rfl) (by kernel_rfl) (by kernel_rfl) (fun _ _ _ h => h) (Or.inl ⟨by rfl, ?_⟩) (HS.out _ hb21) ?_
          rotate_left 1
          next => intro w hSw; rw [hSe] at hSw; obtain ⟨s1, s2, s3, s4, s5, s6, s7⟩ := hSw; go_simp; try with_reducible rfl
          try simp only [Act.put, List.getElem_toArray, List.getElem_cons_zero, List.getElem_cons_succ, List.setIfInBounds_toArray, List.set_cons_zero, List.set_cons_succ]
          refine wpAnyH_take (i := 13) (v := ?_) rfl (by kernel_rfl) (by kernel_rfl) (by kernel_rfl) (fun _ _ _ h => h) (Or.inl ⟨by rfl, ?_⟩) (HS.out _ hb21) ?_
          rotate_left 1
          next => intro w hSw; rw [hSe] at hSw; obtain ⟨s1, s2, s3, s4, s5, s6, s7⟩ := hSw; go_simp; try with_reducible rfl
          try simp only [Act.put, List.getElem_toArray, List.getElem_cons_zero, List.getElem_cons_succ, List.setIfInBounds_toArray, List.set_cons_zero, List.set_cons_succ]
          refine wpAnyH_done (by kernel_rfl) ?_ _

          have Hb21 := Lib.hid (Hb13.out.trans (hb21.mono Hb13.out.size))
          have HW21 := Lib.hid (HW3.out.trans (Hb21.out.mono HW3.out.size))
          clear hb21 HS hd hSe x0 x1 x2 x3 z0 z1 z2 z3 z4 z5 HCh HM3 hSS
          obtain ⟨og, od⟩ := HOD.out _ Hb21.out
          obtain ⟨x0, x1, x2, x3⟩ := cells_encO og
          obtain ⟨⟨z0, z1, z2, z3, z4, z5⟩, _, _, _, _, _, _⟩ := cells_decO od
          clear og od
          go_wp2_with fail
          refine (HBo.out _ Hb21.out).mono ?_
          rintro e X22 ⟨rfl, hb⟩
          have Hb22 := Lib.hid (Hb21.out.trans (hb.mono Hb21.out.size))
          have HW22 := Lib.hid (HW3.out.trans (Hb22.out.mono HW3.out.size))
          have HI22 := Lib.hid (HI21.out.below (Nat.le_refl _) hb)
          clear hb HI21 x0 x1 x2 x3 z0 z1 z2 z3 z4 z5 HBo
          obtain ⟨og, od⟩ := HOD.out _ Hb22.out
          obtain ⟨x0, x1, x2, x3⟩ := cells_encO og
          obtain ⟨⟨z0, z1, z2, z3, z4, z5⟩, _, _, _, _, _, _⟩ := cells_decO od
          obtain ⟨CN, hCN⟩ : ∃ x, CH.length = x := ⟨_, rfl⟩
          have hle : ¬ BD < (CN : Int) := by have := HC2.out; omega
          have HCN := Lib.hid hCN
          rw [hCN]
          obtain ⟨D0, hD0⟩ : ∃ x, A0 / B = x := ⟨_, rfl⟩
          have hB0 : ¬ (B : Int) = 0 := by omega
          have hB00 : ¬ B = 0 := by omega
          have T1 : (A0 : Int).tdiv (B : Int) = (D0 : Int) := by rw [← hD0]; exact quoN A0 B
          have T2 : (A0 : Int) / (B : Int) = (D0 : Int) := by rw [← hD0]; exact quoE A0 B
          have hD1 : D0 ≤ 1000 := by
            rw [← hD0]
            exact Nat.le_trans (Nat.div_le_self _ _) (by omega)
          obtain ⟨q1, hq1⟩ : ∃ x, wrap64 ((P : Int) + 1) = x := ⟨_, rfl⟩
          obtain ⟨q2, hq2⟩ : ∃ x, wrap64 (q1 + (f : Int)) = x := ⟨_, rfl⟩
          have hqq : (BD != q2) = false := bndW hPf hq1 hq2 HBD.out
          have hq1' : IntKind.i64.wrap ((P : Int) + 1) = q1 := (IntWalk.i64_left _).trans hq1
          have hq2' : IntKind.i64.wrap (q1 + (f : Int)) = q2 := (IntWalk.i64_left _).trans hq2
          have T3 : wrap64 (D0 : Int) = (D0 : Int) := wrapN D0 hD1
          have T4 : IntKind.i64.wrap (D0 : Int) = (D0 : Int) := (IntWalk.i64_left _).trans T3
          rw [hD0] at HC3
          clear og od hCN hD0
          go_upto_region 26 with (fail)
          clear hq1 hq1' hq2 hq2' hqq T1 T2 T3 T4
          have hR12 : RN ≤ 12 := by have := HF4.out; omega
          have hCN3 : CN ≤ 3 := by have := HBD.out; omega
          go_wp2
          go_loopw [188] (fun kv wr => ∃ k : Nat, k ≤ CN ∧ kv = .int .i64 (k : Nat) ∧ wr = X22) (fun kv _ => CN - (intOf kv).toNat)
          case atStart => exact ⟨0, by omega, by go_num, by first | rfl | trivial⟩
          case round =>
            obtain ⟨k, hk, rfl, rfl⟩ := hrel
            by_cases hlt : k < CN
            · obtain ⟨bb, bo, rfl, hbl, hca⟩ := HI22.out.cells (k := k) (by rw [HCN.out]; exact hlt)
              have hxa := hca k (by rw [HCN.out]; exact hlt)
              obtain ⟨x, hx⟩ : ∃ x, CH.getD k 0 = x := ⟨_, rfl⟩
              obtain ⟨g1, g2, g3, g4⟩ := HC3.out x (by rw [← hx, List.getD_eq_getElem?_getD, List.getElem?_eq_getElem (by rw [HCN.out]; exact hlt)]; exact List.getElem_mem _)
              rw [HRN.out] at g2
              exfalso
              omega
            · have k1 : ¬ (k : Int) < (CN : Int) := by omega
              go_wp2_with (go_at_call 8; refine (awake3_any _).mono ?_; rintro e w9 ⟨rfl, hb⟩; have Hb9 := Lib.hid hb; clear hb)
              go_ret
              exact ⟨rfl, by first | exact HW22.out.trans (Hb9.out.mono HW22.out.size) | (rw [← hg]; exact HW22.out.trans (Hb9.out.mono HW22.out.size))⟩
end Go.Proofs.Ytcafeffgaokiaaa
