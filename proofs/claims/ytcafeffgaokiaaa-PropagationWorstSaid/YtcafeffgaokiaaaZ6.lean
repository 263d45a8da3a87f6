/- grooveref25.Encode at a valid encoder. -/
import Derived.Test.YtcafeffgaokiaaaZ2
import Derived.Test.YtcafeffgaokiaaaZ5
import Derived.Test.YtcafeffgaokiaaaZ3
namespace Go.Proofs.Ytcafeffgaokiaaa
open Go.RowKit
def intsN (l : List Nat) : List Int := l.map (fun (x : Nat) => (x : Int))
theorem intsN_len (l : List Nat) : (intsN l).length = l.length := by simp [intsN]
theorem intsN_get {l : List Nat} {k : Nat} (hk : k < l.length) : (intsN l).getD k 0 = ((l.getD k 0 : Nat) : Int) := by
  simp [intsN, List.getD_eq_getElem?_getD, hk]
theorem encW_append (m : EM) : ∀ (l1 l2 : List Nat) (s : Nat) (w : ByteArray), encW m s (l1 ++ l2) w = encW m (encW m s l1 w).2 l2 (encW m s l1 w).1
  | [], _, _, _ => rfl
  | x :: l1, l2, s, w => by rw [List.cons_append, encW, encW]; exact encW_append m l1 l2 _ _
theorem encW_snoc (m : EM) (l : List Nat) (s : Nat) (w : ByteArray) {k : Nat} (hk : k < l.length) :
    encW m s (l.take (k + 1)) w = ((encW m s (l.take k) w).1 ++ m.D (encW m s (l.take k) w).2 (l.getD k 0), (m.T (encW m s (l.take k) w).2 (l.getD k 0)).toNat) := by
  have h : l.take (k + 1) = l.take k ++ [l.getD k 0] := by
    rw [List.take_add_one, List.getD_eq_getElem?_getD, List.getElem?_eq_getElem hk]; rfl
  rw [h, encW_append]
  rfl
theorem encW_lt {m : EM} {I B : Nat} (hm : m.Ok I B) : ∀ (l : List Nat) (s : Nat) (w : ByteArray), s < m.r → (∀ x ∈ l, x < I) → (encW m s l w).2 < m.r ∧ (encW m s l w).1.size = w.size + l.length * B
  | [], s, w, hs, _ => ⟨hs, by show w.size = _; rw [List.length_nil]; omega⟩
  | x :: l, s, w, hs, hl => by
    have hx := hl x (List.mem_cons_self ..)
    have h := encW_lt hm l (m.T s x).toNat (w ++ m.D s x) (hm.to1 s x hs hx) (fun y hy => hl y (List.mem_cons_of_mem _ hy))
    have hd := hm.wd s x hs hx
    refine ⟨h.1, ?_⟩
    show (encW m (m.T s x).toNat l (w ++ m.D s x)).1.size = _
    rw [h.2, ByteArray.size_append, hd, List.length_cons, Nat.add_mul]
    omega
set_option maxRecDepth 100000 in
set_option maxHeartbeats 8000000 in
theorem refEncode_any (l b i : Int) (m : EM) (p : Option Addr) (c : Nat) (s : Nat) (q : Option Addr) (cq : Nat) (ls : List Nat) (w : World) (hA : m.At w p) (hf : m.Fit) (he : encCheck l b i m = 0) (hs : s < m.r) (hq : IntsAt w q (intsN ls)) (hl : ∀ x ∈ ls, (x : Int) < i) (hn : ls.length ≤ 16) :
    Calls Try.prog 97 #[.agg #[.int .i64 l, .int .i64 b, .int .i64 i, .slice p m.r c], .int .i64 (s : Int), .slice q ls.length cq] w fun e w' =>
      e = .returned (.tuple #[.string (encW m s ls ByteArray.empty).1, .int .i64 ((encW m s ls ByteArray.empty).2 : Int), .int .i64 0]) ∧ Below w.heap.size w w' := by
  obtain ⟨⟨l1, l2⟩, ⟨b1, b2⟩, ⟨i1, i2⟩, ⟨r1, r2⟩, hok, _⟩ := encCheck_ok he
  obtain ⟨B, rfl⟩ : ∃ B : Nat, b = B := ⟨b.toNat, by omega⟩
  obtain ⟨I, rfl⟩ : ∃ I : Nat, i = I := ⟨i.toNat, by omega⟩
  rw [Int.toNat_natCast, Int.toNat_natCast] at hok
  have HOk := Lib.hid hok
  have HE := Lib.hid hA
  have HQ := Lib.hid hq
  have HL : Hid (∀ x ∈ ls, x < I) := Lib.hid (fun x hx => by have := hl x hx; omega)
  have hC := Lib.hid (fun (W : World) (h : Below w.heap.size w W) => refEncCheck_any l (B : Int) (I : Int) m p c W (hA.below (Nat.le_refl _) h) hf)
  rw [he] at hC
  clear hA hq hl he hok hf
  have s0 : (0 : Int) ≤ (s : Int) := by omega
  have s1 : (s : Int) < (m.r : Int) := by omega
  have s2 : ¬ (s : Int) < 0 := by omega
  have s3 : ¬ (m.r : Int) ≤ (s : Int) := by omega
  have s4 : decide (m.r ≤ s) = false := decide_eq_false (by omega)
  have s5 : decide ((s : Int) < 0) = false := decide_eq_false (by omega)
  obtain ⟨NB, hNB⟩ : ∃ NB, ls.length * B = NB := ⟨_, rfl⟩
  have hNB2 : NB ≤ 256 := by rw [← hNB]; exact Nat.le_trans (Nat.mul_le_mul hn (show B ≤ 16 by omega)) (by decide)
  have hw1 : wrap64 ((ls.length : Int) * (B : Int)) = (NB : Int) := by rw [← Int.natCast_mul, hNB]; exact IntWalk.wrap64_in _ (by omega)
  have hw2 : IntKind.i64.wrap ((ls.length : Int) * (B : Int)) = (NB : Int) := (IntWalk.i64_left _).trans hw1
  have hw3 : ¬ (65536 : Int) < (NB : Int) := by omega
  have HNB := Lib.hid hNB
  obtain ⟨⟨x0, x1, x2, x3⟩, _, hb0⟩ := box4 (Below.refl (w.heap.size + 1) (w.alloc (.cells #[.int .i64 l, .int .i64 (B : Int), .int .i64 (I : Int), .slice p m.r c] 24)))
  have Hb0 := Lib.hid hb0
  clear hNB hb0
  go_enter Try.func97, Try.ntmps97
  go_wp2_with fail
  refine (hC.out _ Hb0.out).mono ?_; rintro e w1 ⟨rfl, hb⟩
  have HB1 : Hid (Below (w.heap.size + 1) (w.alloc (.cells #[.int .i64 l, .int .i64 (B : Int), .int .i64 (I : Int), .slice p m.r c] 24)) w1) := Lib.hid (hb.mono (by simp))
  clear hb x0 x1 x2 x3
  obtain ⟨⟨x0, x1, x2, x3⟩, hsz1, hbw1⟩ := box4 HB1.out
  have Hbw1 := Lib.hid hbw1
  clear hbw1 hC
  go_wp2
  go_loopw [9] (fun kv wr => ∃ k : Nat, k ≤ ls.length ∧ kv = .int .i64 (k : Nat) ∧ Hid (Below w1.heap.size w1 wr)) (fun kv _ => ls.length - (intOf kv).toNat)
  case atStart => exact ⟨0, by omega, rfl, Lib.hid (Below.refl _ _)⟩
  case round =>
    obtain ⟨k, hk, rfl, Hb⟩ := hrel
    clear x0 x1 x2 x3
    have HB2 : Hid (Below (w.heap.size + 1) (w.alloc (.cells #[.int .i64 l, .int .i64 (B : Int), .int .i64 (I : Int), .slice p m.r c] 24)) wr) := Lib.hid (HB1.out.trans (Hb.out.mono (by omega)))
    obtain ⟨⟨x0, x1, x2, x3⟩, hsz2, hbw2⟩ := box4 HB2.out
    have Hbw2 := Lib.hid hbw2
    clear hbw2
    by_cases hlt : k < ls.length
    · obtain ⟨ab, ao, rfl, hab, hca⟩ := IntsAt.cells HQ.out (k := k) (by rw [intsN_len]; exact hlt)
      have hxa := hca k (by rw [intsN_len]; exact hlt)
      rw [intsN_get hlt] at hxa
      have hxI := HL.out _ (show ls.getD k 0 ∈ ls from by rw [List.getD_eq_getElem?_getD, List.getElem?_eq_getElem hlt]; exact List.getElem_mem hlt)
      obtain ⟨x, hx⟩ : ∃ x, ls.getD k 0 = x := ⟨_, rfl⟩
      rw [hx] at hxa hxI
      rw [← Hbw2.out.cell (p := ⟨ab, _, none⟩) hab] at hxa
      have k0 : (0 : Int) ≤ (k : Int) := by omega
      have k1 : (k : Int) < (ls.length : Int) := by omega
      have k2 : ¬ (x : Int) < 0 := by omega
      have k3 : ¬ (I : Int) ≤ (x : Int) := by omega
      clear hca hx
      go_wp2_with fail
      go_quiet (fail)
      go_wp2
      go_roundw
      case rel => exact ⟨k + 1, by omega, by go_num, Lib.hid (below_dr Hb.out)⟩
      case measure => simp [intOf]; omega
    · have k1 : ¬ (k : Int) < (ls.length : Int) := by omega
      go_wp2
      go_loopw [1, 10, 11] (fun sv ov jv wr2 => ∃ j : Nat, ∃ t : Nat, ∃ d : ByteArray, j ≤ ls.length ∧ sv = .int .i64 (t : Nat) ∧ ov = .string d ∧ jv = .int .i64 (j : Nat) ∧ Hid (encW m s (ls.take j) ByteArray.empty = (d, t)) ∧ Hid (Below wr.heap.size wr wr2)) (fun _ _ jv _ => ls.length - (intOf jv).toNat)
      case atStart => exact ⟨0, s, ByteArray.empty, by omega, rfl, rfl, rfl, Lib.hid rfl, Lib.hid (Below.refl _ _)⟩
      case round =>
        obtain ⟨j, t, d, hj, rfl, rfl, rfl, Hd, Hb3⟩ := hrel
        clear x0 x1 x2 x3
        have HB3 : Hid (Below (w.heap.size + 1) (w.alloc (.cells #[.int .i64 l, .int .i64 (B : Int), .int .i64 (I : Int), .slice p m.r c] 24)) wr) := Lib.hid (HB2.out.trans (Hb3.out.mono (by omega)))
        obtain ⟨⟨x0, x1, x2, x3⟩, hsz3, hbw3⟩ := box4 HB3.out
        have Hbw3 := Lib.hid hbw3
        clear hbw3
        by_cases hltj : j < ls.length
        · obtain ⟨ab, ao, rfl, hab, hca⟩ := IntsAt.cells (HQ.out.below (Nat.le_refl _) Hbw3.out) (k := j) (by rw [intsN_len]; exact hltj)
          have hxa := hca j (by rw [intsN_len]; exact hltj)
          rw [intsN_get hltj] at hxa
          have hxI := HL.out _ (show ls.getD j 0 ∈ ls from by rw [List.getD_eq_getElem?_getD, List.getElem?_eq_getElem hltj]; exact List.getElem_mem hltj)
          have hNx := encW_snoc m ls s ByteArray.empty hltj
          rw [Hd.out] at hNx
          obtain ⟨x, hx⟩ : ∃ x, ls.getD j 0 = x := ⟨_, rfl⟩
          rw [hx] at hxa hxI hNx
          have hlw := encW_lt HOk.out (ls.take j) s ByteArray.empty (by omega) (fun y hy => HL.out y (List.mem_of_mem_take hy))
          rw [Hd.out] at hlw
          have htr : t < m.r := hlw.1
          have hds : d.size = 0 + (ls.take j).length * B := hlw.2
          have hds2 : d.size ≤ 256 := by
            rw [hds, List.length_take, Nat.zero_add]
            exact Nat.le_trans (Nat.mul_le_mul (show min j ls.length ≤ 16 by omega) (show B ≤ 16 by omega)) (by decide)
          obtain ⟨eb, eo, q9, c9, rfl, heb, hrow, hcells⟩ := (HE.out.below (Nat.le_refl _) Hbw3.out).row htr
          have hLt : m.L t = I := HOk.out.len t htr
          obtain ⟨fb, fo, rfl, hfb, d0, d1⟩ := EM.cells hcells (k := x) (by rw [hLt]; exact hxI)
          have hdz := HOk.out.wd t x htr hxI
          have ht0 := HOk.out.to0 t x htr hxI
          have ht1 := HOk.out.to1 t x htr hxI
          obtain ⟨u, hu⟩ : ∃ u : Nat, (m.T t x).toNat = u := ⟨_, rfl⟩
          have hu2 : m.T t x = (u : Int) := by omega
          obtain ⟨y, hy⟩ : ∃ y, m.D t x = y := ⟨_, rfl⟩
          rw [hu, hy] at hNx
          rw [hu2] at d0
          rw [hy] at d1 hdz
          rw [hLt] at hrow
          have HNx := Lib.hid hNx
          have j0 : (0 : Int) ≤ (j : Int) := by omega
          have j1 : (j : Int) < (ls.length : Int) := by omega
          have t0 : (0 : Int) ≤ (t : Int) := by omega
          have t1 : (t : Int) < (m.r : Int) := by omega
          have y0 : (0 : Int) ≤ (x : Int) := by omega
          have y1 : (x : Int) < (I : Int) := by omega
          have hov : ¬ 9223372036854775807 < d.size + y.size := by omega
          clear hca hx hu hu2 hy hNx hcells hlw hds hdz ht0 ht1 hLt htr hxI
          go_upto_region 16 with (fail)
          obtain ⟨SS, hSe⟩ : ∃ SS : World → Prop, SS = fun W => W.cell? ⟨w.heap.size, 3, none⟩ = some (.slice (some ⟨eb, eo, none⟩) m.r c) ∧ W.cell? ⟨eb, eo + t, none⟩ = some (.slice (some ⟨fb, fo, none⟩) I c9) ∧ W.cell? ⟨ab, ao + j, none⟩ = some (.int .i64 (x : Int)) ∧ W.cell? ⟨fb, fo + x * 2, none⟩ = some (.int .i64 (u : Int)) ∧ W.cell? ⟨fb, fo + x * 2 + 1, none⟩ = some (.string y) := ⟨_, rfl⟩
          have HS : Hid (∀ W, Below wr.heap.size wr W → SS W) := Lib.hid (fun W hW => by
            rw [hSe]
            exact ⟨(hW.cell (p := ⟨w.heap.size, 3, none⟩) (by show w.heap.size < _; omega)).trans x3, (hW.cell (p := ⟨eb, _, none⟩) heb).trans hrow, (hW.cell (p := ⟨ab, _, none⟩) hab).trans hxa, (hW.cell (p := ⟨fb, _, none⟩) hfb).trans d0, (hW.cell (p := ⟨fb, _, none⟩) hfb).trans d1⟩)
          have hd : Below wr.heap.size wr wr.drew := (Below.refl _ _).drew
          clear x0 x1 x2 x3 hrow hxa d0 d1
          refine wp_region_held_drew (S := SS) (by kernel_rfl) (HS.out _ hd) (fun hSS => ?_)
          refine wpAnyH_take (i := 0) (v := ?_) rfl (by kernel_rfl) (by kernel_rfl) (by kernel_rfl) (fun _ _ _ h => h) (Or.inl ⟨by rfl, ?_⟩) (HS.out _ hd) ?_
          rotate_left 1
          next => intro w hSw; rw [hSe] at hSw; obtain ⟨s1, s2, s3, s4, s5⟩ := hSw; go_simp; try with_reducible rfl
          try simp only [Act.put, List.getElem_toArray, List.getElem_cons_zero, List.getElem_cons_succ, List.setIfInBounds_toArray, List.set_cons_zero, List.set_cons_succ]
          refine wpAnyH_take (i := 1) (v := ?_) rfl (by kernel_rfl) (by kernel_rfl) (by kernel_rfl) (fun _ _ _ h => h) (Or.inl ⟨by rfl, ?_⟩) (HS.out _ hd) ?_
          rotate_left 1
          next => intro w hSw; rw [hSe] at hSw; obtain ⟨s1, s2, s3, s4, s5⟩ := hSw; go_simp; try with_reducible rfl
          try simp only [Act.put, List.getElem_toArray, List.getElem_cons_zero, List.getElem_cons_succ, List.setIfInBounds_toArray, List.set_cons_zero, List.set_cons_succ]
          refine wpAnyH_take (i := 2) (v := ?_) rfl (by kernel_rfl) (by kernel_rfl) (by kernel_rfl) (fun _ _ _ h => h) (Or.inl ⟨by rfl, ?_⟩) (HS.out _ hd) ?_
          rotate_left 1
          next => intro w hSw; rw [hSe] at hSw; obtain ⟨s1, s2, s3, s4, s5⟩ := hSw; go_simp; try with_reducible rfl
          try simp only [Act.put, List.getElem_toArray, List.getElem_cons_zero, List.getElem_cons_succ, List.setIfInBounds_toArray, List.set_cons_zero, List.set_cons_succ]
          refine wpAnyH_take (i := 3) (v := ?_) rfl (by kernel_rfl) (by kernel_rfl) (by kernel_rfl) (fun _ _ _ h => h) (Or.inl ⟨by rfl, ?_⟩) (HS.out _ hd) ?_
          rotate_left 1
          next => intro w hSw; rw [hSe] at hSw; obtain ⟨s1, s2, s3, s4, s5⟩ := hSw; go_simp; try with_reducible rfl
          try simp only [Act.put, List.getElem_toArray, List.getElem_cons_zero, List.getElem_cons_succ, List.setIfInBounds_toArray, List.set_cons_zero, List.set_cons_succ]
          refine wpAnyH_take (i := 4) (v := ?_) rfl (by kernel_rfl) (by kernel_rfl) (by kernel_rfl) (fun _ _ _ h => h) (Or.inl ⟨by rfl, ?_⟩) (HS.out _ hd) ?_
          rotate_left 1
          next => intro w hSw; rw [hSe] at hSw; obtain ⟨s1, s2, s3, s4, s5⟩ := hSw; go_simp; try with_reducible rfl
          try simp only [Act.put, List.getElem_toArray, List.getElem_cons_zero, List.getElem_cons_succ, List.setIfInBounds_toArray, List.set_cons_zero, List.set_cons_succ]
          refine wpAnyH_take (i := 5) (v := ?_) rfl (by kernel_rfl) (by kernel_rfl) (by kernel_rfl) (fun _ _ _ h => h) (Or.inl ⟨by rfl, ?_⟩) (HS.out _ hd) ?_
          rotate_left 1
          next => intro w hSw; rw [hSe] at hSw; obtain ⟨s1, s2, s3, s4, s5⟩ := hSw; go_simp; try with_reducible rfl
          try simp only [Act.put, List.getElem_toArray, List.getElem_cons_zero, List.getElem_cons_succ, List.setIfInBounds_toArray, List.set_cons_zero, List.set_cons_succ]
          refine wpAnyH_take (i := 6) (v := ?_) rfl (by kernel_rfl) (by kernel_rfl) (by kernel_rfl) (fun _ _ _ h => h) (Or.inl ⟨by rfl, ?_⟩) (HS.out _ hd) ?_
          rotate_left 1
          next => intro w hSw; rw [hSe] at hSw; obtain ⟨s1, s2, s3, s4, s5⟩ := hSw; go_simp; try with_reducible rfl
          try simp only [Act.put, List.getElem_toArray, List.getElem_cons_zero, List.getElem_cons_succ, List.setIfInBounds_toArray, List.set_cons_zero, List.set_cons_succ]
          refine wpAnyH_take (i := 7) (v := ?_) rfl (by kernel_rfl) (by kernel_rfl) (by kernel_rfl) (fun _ _ _ h => h) (Or.inl ⟨by rfl, ?_⟩) (HS.out _ hd) ?_
          rotate_left 1
          next => intro w hSw; rw [hSe] at hSw; obtain ⟨s1, s2, s3, s4, s5⟩ := hSw; go_simp; try with_reducible rfl
          try simp only [Act.put, List.getElem_toArray, List.getElem_cons_zero, List.getElem_cons_succ, List.setIfInBounds_toArray, List.set_cons_zero, List.set_cons_succ]
          refine wpAnyH_take (i := 8) (v := ?_) rfl (by kernel_rfl) (by kernel_rfl) (by kernel_rfl) (fun _ _ _ h => h) (Or.inl ⟨by rfl, ?_⟩) (HS.out _ hd) ?_
          rotate_left 1
          next => intro w hSw; rw [hSe] at hSw; obtain ⟨s1, s2, s3, s4, s5⟩ := hSw; go_simp; try with_reducible rfl
          try simp only [Act.put, List.getElem_toArray, List.getElem_cons_zero, List.getElem_cons_succ, List.setIfInBounds_toArray, List.set_cons_zero, List.set_cons_succ]
          refine wpAnyH_take (i := 9) (v := ?_) rfl (by kernel_rfl) (by kernel_rfl) (by kernel_rfl) (fun _ _ _ h => h) (Or.inl ⟨by rfl, ?_⟩) (HS.out _ hd) ?_
          rotate_left 1
          next => intro w hSw; rw [hSe] at hSw; obtain ⟨s1, s2, s3, s4, s5⟩ := hSw; go_simp; try with_reducible rfl
          try simp only [Act.put, List.getElem_toArray, List.getElem_cons_zero, List.getElem_cons_succ, List.setIfInBounds_toArray, List.set_cons_zero, List.set_cons_succ]
          refine wpAnyH_take (i := 10) (v := ?_) rfl (by kernel_rfl) (by kernel_rfl) (by kernel_rfl) (fun _ _ _ h => h) (Or.inl ⟨by rfl, ?_⟩) (HS.out _ hd) ?_
          rotate_left 1
          next => intro w hSw; rw [hSe] at hSw; obtain ⟨s1, s2, s3, s4, s5⟩ := hSw; go_simp; try with_reducible rfl
          try simp only [Act.put, List.getElem_toArray, List.getElem_cons_zero, List.getElem_cons_succ, List.setIfInBounds_toArray, List.set_cons_zero, List.set_cons_succ]
          try simp only [Act.put, List.getElem_toArray, List.getElem_cons_zero, List.getElem_cons_succ, List.setIfInBounds_toArray, List.set_cons_zero, List.set_cons_succ]
          refine wpAnyH_ready (rs := [11]) (by kernel_rfl) (by simp) ?_
          refine AllReadyH.cons rfl (fun K hK => ?_) AllReadyH.nil
          go_simp
          have hb1 := hd.alloc hd.size (.cells #[.int .i64 0, .string ⟨#[]⟩] 84)
          refine hK.out _ _ (HS.out _ hb1) (fun _ => ?_)
          clear hK K
          try simp only [Act.put, List.getElem_toArray, List.getElem_cons_zero, List.getElem_cons_succ, List.setIfInBounds_toArray, List.set_cons_zero, List.set_cons_succ]
          refine wpAnyH_ready (rs := [12]) (by kernel_rfl) (by simp) ?_
          refine AllReadyH.cons rfl (fun K hK => ?_) AllReadyH.nil
          go_simp
          have hb9 := ((Below.refl wr.heap.size wr).alloc (Nat.le_refl _) (.cells #[.int .i64 (u : Int), .string y] 84)).drew
          refine hK.out _ _ (HS.out _ hb9) (fun _ => ?_)
          clear hK K
          refine wpAnyH_done (by kernel_rfl) ?_ _
          have t2 : wr.heap.size = wr.heap.size := rfl
          go_wp2
          go_roundw
          case rel => exact ⟨j + 1, u, d ++ y, by omega, rfl, rfl, by go_num, HNx, Lib.hid (Hb3.out.trans (hb9.mono Hb3.out.size))⟩
          case measure => simp [intOf]; omega
        · have j1 : ¬ (j : Int) < (ls.length : Int) := by omega
          have Hje := Lib.hid (show encW m s ls ByteArray.empty = (d, t) by rw [← Hd.out, List.take_of_length_le (by omega)])
          go_wp2
          go_ret3
          exact ⟨by rw [Hje.out]; rfl, Hbw3.out⟩
end Go.Proofs.Ytcafeffgaokiaaa
