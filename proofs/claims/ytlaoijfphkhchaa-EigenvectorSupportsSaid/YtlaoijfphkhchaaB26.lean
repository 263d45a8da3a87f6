/- counting.count: the numbers of paths, step by step. -/
import Derived.Test.YtlaoijfphkhchaaB25
namespace Go.Proofs.Ytlaoijfphkhchaa
open Go.RowKit Go.Shelf
/-- What m edges add up, from the places P to the places Q. -/
def stpE (P Q : Nat → Nat) (f : Nat → Int) : Nat → Nat → Int
  | 0, _ => 0
  | i + 1, j => stpE P Q f i j + if Q i = j then f (P i) else 0
/-- .. k times. -/
def cntI (P Q : Nat → Nat) (n : Nat) (f : Nat → Int) : Nat → Nat → Int
  | 0 => f
  | k + 1 => stpE P Q (cntI P Q n f k) n
/-- All numbers are of moderate size. -/
structure CntOk (P Q : Nat → Nat) (n N K : Nat) (f : Nat → Int) : Prop where
  a : ∀ k j, k < K → j < N → (canon (cntI P Q n f k j)).mag.size ≤ 100000000
  b : ∀ k i j, k < K → i < n → j < N → (canon (stpE P Q (cntI P Q n f k) i j)).mag.size ≤ 100000000
/-- A row that lies behind block B. -/
def RetRowB (B : Nat) (c : Nat) (f : Nat → Int) (w : World) (e : Ending) (w' : World) : Prop := ∃ p cap, e = .returned (.slice p c cap) ∧ RowF w' p c f ∧ Below w.heap.size w w' ∧ ∀ b, p = some b → B ≤ b.block
set_option maxRecDepth 100000 in
set_option maxHeartbeats 4000000 in
theorem count_any (L S : Int) (N n K : Nat) (E : Nat → Nat → Int) (P Q : Nat → Nat) (f : Nat → Int) (p q : Option Addr) (c cq : Nat) (fid : Nat) (eg : ∀ args w, (callFunc fid args).run Try.prog w = .ok (.enter fid args) w) (hN : N ≤ 1000000) (hn : n ≤ 1000000) (hK : K ≤ 1000000)
    (hf : ∀ i, i < n → ∀ W : World, Calls Try.prog fid #[.agg #[.int .i64 (E i 0), .int .i64 (E i 1), .int .i64 (E i 2)]] W (fun e w' => e = .returned (.tuple #[.int .i64 (P i : Int), .int .i64 (Q i : Int)]) ∧ Below W.heap.size W w'))
    (hPQ : ∀ i, i < n → P i < N ∧ Q i < N) (hok : CntOk P Q n N K f) (w : World) (hE : EdgAt w p n E) (hq : RowF w q N f) (B : Nat) (hB : B ≤ w.heap.size) (hqB : ∀ b, q = some b → B ≤ b.block) :
    Calls Try.prog 110 #[.agg #[.int .i64 L, .int .i64 S, .slice p n c], .slice q N cq, .int .i64 (K : Int), .func (.func fid) #[] #[]] w (RetRowB B N (cntI P Q n f K) w) := by
  obtain ⟨W1, hW1⟩ : ∃ W, w.alloc (.cells #[.int .i64 L, .int .i64 S, .slice p n c] 24) = W := ⟨_, rfl⟩
  have hb0 : Below w.heap.size w W1 := by rw [← hW1]; exact (Below.refl _ _).alloc (Nat.le_refl _) _
  have hbx : BoxAt3 W1 w.heap.size (.int .i64 L) (.int .i64 S) (.slice p n c) := by rw [← hW1]; exact BoxAt3.new w _ _ _ _
  have HE1 := Lib.hid (show EdgAt W1 p n E from hE.mono (Nat.le_refl _) hb0)
  have HE0 := Lib.hid hE
  have Hq1 := Lib.hid (hq.below (Nat.le_refl _) hb0)
  have Hb0 := Lib.hid hb0
  have Hbx := Lib.hid hbx
  have HOk := Lib.hid hok
  have HPQ := Lib.hid hPQ
  have Hf := Lib.hid hf
  have Heg := Lib.hid eg
  have HqB := Lib.hid hqB
  have hB1 : B ≤ W1.heap.size := Nat.le_trans hB hb0.size
  clear eg hqB hB hE hq hb0 hbx hok hPQ hf
  go_enter Try.func110, Try.ntmps110
  go_wp2_with fail
  obtain ⟨g0, hg0⟩ : ∃ g, w.heap.size = g := ⟨_, rfl⟩
  have Hg0 := Lib.hid hg0
  rw [hg0] at Hbx ⊢
  clear hg0 hW1
  go_loopw [1, 15] (fun v kv wr => ∃ (k : Nat) (q : Option Addr) (cq : Nat), k ≤ K ∧ kv = .int .i64 (k : Nat) ∧ v = .slice q N cq ∧ Hid (RowF wr q N (cntI P Q n f k)) ∧ Hid (Below W1.heap.size W1 wr) ∧ Hid (∀ b, q = some b → B ≤ b.block)) (fun _ kv _ => K - (intOf kv).toNat)
  case atStart => exact ⟨0, q, cq, by omega, by go_num, rfl, Hq1, Lib.hid (Below.refl _ _), HqB⟩
  case round =>
    clear Hq1 HqB q cq
    obtain ⟨k, q, cq, hk, rfl, rfl, Hq, Hb, HqB⟩ := hrel
    by_cases hlt : k < K
    · have i1 : (k : Int) < (K : Int) := by omega
      have hmk := make_zs N hN wr
      obtain ⟨R, hR⟩ : ∃ R, wr = R := ⟨_, rfl⟩
      rw [hR] at Hq Hb hmk ⊢
      clear hR
      have hal := (Below.refl R.heap.size R).alloc (Nat.le_refl _) (.cells (madeCells #[.bool false, .string ⟨#[]⟩] (N * 2)) 28)
      have Hal := Lib.hid hal
      have Hrow : Hid (RowT (R.alloc (.cells (madeCells #[.bool false, .string ⟨#[]⟩] (N * 2)) 28)) R.heap.size N (fun j => stpE P Q (cntI P Q n f k) 0 j)) := Lib.hid RowT.of_made
      have z2 := cell_below (hal.trans (Below.refl _ _)) (cell_below Hb.out Hbx.out.2.2.2)
      have Hgz : Hid (W1.heap.size ≤ R.heap.size) := Lib.hid Hb.out.size
      clear hal
      go_wp2_with fail
      clear hmk
      obtain ⟨gr, hgr⟩ : ∃ g, R.heap.size = g := ⟨_, rfl⟩
      rw [hgr] at Hrow Hal Hgz ⊢
      have Hgr := Lib.hid hgr
      generalize R.alloc (.cells (madeCells #[.bool false, .string ⟨#[]⟩] (N * 2)) 28) = V at *
      clear hgr z2
      go_loopw [23] (fun iv wr => ∃ i : Nat, i ≤ n ∧ iv = .int .i64 (i : Nat) ∧ Hid (RowT wr gr N (fun j => stpE P Q (cntI P Q n f k) i j)) ∧ Hid (Below gr R wr)) (fun iv _ => n - (intOf iv).toNat)
      case atStart => exact ⟨0, by omega, by go_num, Hrow, Hal⟩
      case round =>
        clear Hrow Hal
        obtain ⟨i, hi, rfl, Hrow, Hal⟩ := hrel
        by_cases hil : i < n
        · have i2 : (i : Int) < (n : Int) := by omega
          have i3 : (0 : Int) ≤ (i : Int) := by omega
          have hR2 : Below R.heap.size R wr := by rw [Hgr.out]; exact Hal.out
          obtain ⟨b, off, rfl, hbl, hcE⟩ : ∃ b off, p = some ⟨b, off, none⟩ ∧ b < wr.heap.size ∧ ∀ i, i < n → ∀ j, j < 3 → wr.cell? ⟨b, off + i * 3 + j, none⟩ = some (edC E i j) := by
            rcases (show EdgAt wr p n E from HE1.out.mono (Nat.le_refl _) (Hb.out.trans (hR2.mono Hb.out.size))) with h | h
            · omega
            · exact h
          have x0 := hcE i hil 0 (by omega)
          have x1 := hcE i hil 1 (by omega)
          have x2 := hcE i hil 2 (by omega)
          simp only [edC, Nat.add_zero] at x0 x1 x2
          have HF := Lib.hid (Hf.out i hil)
          obtain ⟨hPi, hQi⟩ := HPQ.out i hil
          have Hsz := Lib.hid (show (canon (stpE P Q (cntI P Q n f k) i (Q i))).mag.size ≤ 100000000 ∧ (canon (cntI P Q n f k (P i))).mag.size ≤ 100000000 from ⟨HOk.out.b k i _ hlt hil hQi, HOk.out.a k _ hlt hPi⟩)
          have Hst : Hid (∀ j, (if j = Q i then stpE P Q (cntI P Q n f k) i (Q i) + cntI P Q n f k (P i) else stpE P Q (cntI P Q n f k) i j) = stpE P Q (cntI P Q n f k) (i + 1) j) := Lib.hid (fun j => by
            show _ = stpE P Q (cntI P Q n f k) i j + _
            by_cases e : j = Q i
            · rw [if_pos e, if_pos e.symm, e]
            · rw [if_neg e, if_neg (fun h => e h.symm), Int.add_zero])
          have hrz := Hrow.out
          have hqz := Hq.out.below (Nat.le_refl _) hR2
          obtain ⟨e0, he0⟩ : ∃ e, E i 0 = e := ⟨_, rfl⟩
          obtain ⟨e1, he1⟩ : ∃ e, E i 1 = e := ⟨_, rfl⟩
          obtain ⟨e2, he2⟩ : ∃ e, E i 2 = e := ⟨_, rfl⟩
          rw [he0, he1, he2] at HF
          rw [he0] at x0
          rw [he1] at x1
          rw [he2] at x2
          obtain ⟨a, ha⟩ : ∃ a, P i = a := ⟨_, rfl⟩
          obtain ⟨t, ht⟩ : ∃ a, Q i = a := ⟨_, rfl⟩
          rw [ha] at HF hPi Hst Hsz
          rw [ht] at HF hQi Hst Hsz
          have Hf2 : Hid ((fun j => stpE P Q (cntI P Q n f k) (i + 1) j) = fun j => stpE P Q (cntI P Q n f k) (i + 1) j) := Lib.hid rfl
          obtain ⟨h0, hh0⟩ : ∃ h : Nat → Int, (fun j => stpE P Q (cntI P Q n f k) i j) = h := ⟨_, rfl⟩
          have hh0' : ∀ j, stpE P Q (cntI P Q n f k) i j = h0 j := fun j => by rw [← hh0]
          obtain ⟨l0, hl0⟩ : ∃ h : Nat → Int, cntI P Q n f k = h := ⟨_, rfl⟩
          rw [hh0] at hrz
          rw [hh0' t, hl0] at Hsz
          have Hst2 : Hid (∀ j, (if j = t then h0 t + l0 a else h0 j) = stpE P Q (cntI P Q n f k) (i + 1) j) := Lib.hid (fun j => by rw [← hh0' t, ← hh0' j, ← hl0]; exact Hst.out j)
          rw [hl0] at hqz
          clear he0 he1 he2 ha ht Hst Hf2 hcE hh0 hh0' hl0 Hrow
          have Hrow := Lib.hid hrz
          have Hqz := Lib.hid hqz
          clear hrz hqz
          have Hal2 := Lib.hid hR2
          clear hR2
          go_upto_region 7 with (fail)
          obtain ⟨V1, hV1⟩ : ∃ W, wr.alloc (.cells #[.int .i64 e0, .int .i64 e1, .int .i64 e2] 97) = W := ⟨_, rfl⟩
          have hbv : Below wr.heap.size wr V1 := by rw [← hV1]; exact (Below.refl _ _).alloc (Nat.le_refl _) _
          have hxx := BoxAt3.new wr (.int .i64 e0) (.int .i64 e1) (.int .i64 e2) 97
          obtain ⟨hx, hhx⟩ : ∃ h, wr.heap.size = h := ⟨_, rfl⟩
          rw [hV1, hhx] at hxx
          have hrv := Hrow.out.kept (hbv.block _ Hrow.out.z.1)
          have hqv := Hqz.out.below (Nat.le_refl _) hbv
          have halv : Below R.heap.size R V1 := Hal2.out.trans (hbv.mono Hal2.out.size)
          rw [hV1, hhx]
          clear hV1 hhx hbv Hrow Hqz Hal2 x0 x1 x2 hbl
          obtain ⟨_, y0, y1, y2⟩ := hxx
          have Hrv := Lib.hid hrv
          have Hqv := Lib.hid hqv
          have Halv := Lib.hid halv
          clear hrv hqv halv
          have heg := Heg.out
          go_wp2_with fail
          clear heg
          refine (HF.out _).mono ?_
          rintro e V2 ⟨rfl, hb2⟩
          dsimp only
          have Hrv2 := Lib.hid (Hrv.out.kept (hb2.block _ Hrv.out.z.1))
          have Hqv2 := Lib.hid (Hqv.out.below (Nat.le_refl _) hb2)
          have Halv2 := Lib.hid (Halv.out.trans (hb2.mono Halv.out.size))
          clear hb2 HF Hrv Hqv Halv y0 y1 y2
          go_upto_region 8 with (fail)
          obtain ⟨b2, off2, rfl, hbl2, hcq⟩ : ∃ b off, q = some ⟨b, off, none⟩ ∧ b < gr ∧ ∀ i, i < N → V2.cell? ⟨b, off + i * 2, none⟩ = some (.bool (canon (l0 i)).neg) ∧ V2.cell? ⟨b, off + i * 2 + 1, none⟩ = some (.string (canon (l0 i)).mag) := by
            obtain ⟨b, off, h1, _, h3⟩ := RowF.cells Hqv2.out hPi
            obtain ⟨b', off', h4, h5, _⟩ := RowF.cells Hq.out hPi
            rw [h1] at h4
            cases h4
            exact ⟨b, off, h1, by rw [← Hgr.out]; exact h5, h3⟩
          obtain ⟨d0, d1⟩ := hcq a hPi
          obtain ⟨⟨z1, z2⟩, z3, z4⟩ := Hrv2.out.z.2 t hQi
          obtain ⟨X, hX⟩ : ∃ Z, canon (h0 t) = Z := ⟨_, rfl⟩
          obtain ⟨Y, hY⟩ : ∃ Z, canon (l0 a) = Z := ⟨_, rfl⟩
          have HA := Lib.hid (fun W => addc_any (h0 t) (l0 a) Hsz.out.1 Hsz.out.2 W)
          have hset := fun (W : World) (hW : RowT W gr N h0) => hW.set t (h0 t + l0 a)
          obtain ⟨U, hU⟩ : ∃ u, h0 t + l0 a = u := ⟨_, rfl⟩
          have Hst3 : Hid (∀ j, (if j = t then U else h0 j) = stpE P Q (cntI P Q n f k) (i + 1) j) := Lib.hid (fun j => by rw [← hU]; exact Hst2.out j)
          rw [hX] at z1 z2
          rw [hY] at d0 d1
          rw [hX, hY, hU] at HA
          rw [hU] at hset
          have Hset := Lib.hid hset
          have t1 : (t : Int) < (N : Int) := by omega
          have t0 : (0 : Int) ≤ (t : Int) := by omega
          have a1 : (a : Int) < (N : Int) := by omega
          have a0 : (0 : Int) ≤ (a : Int) := by omega
          clear hX hY hU hset Hst2 Hsz hcq
          obtain ⟨SS, hSe⟩ : ∃ SS : World → Prop, SS = fun W => W.cell? ⟨b2, off2 + a * 2, none⟩ = some (.bool Y.neg) ∧ W.cell? ⟨b2, off2 + a * 2 + 1, none⟩ = some (.string Y.mag) := ⟨_, rfl⟩
          have HS : Hid (∀ W, Below V2.heap.size V2 W → SS W) := Lib.hid (fun W hW => by rw [hSe]; exact ⟨cell_below hW d0, cell_below hW d1⟩)
          have z1d : V2.drew.cell? ⟨gr, t * 2, none⟩ = some (.bool X.neg) := z1
          have z2d : V2.drew.cell? ⟨gr, t * 2 + 1, none⟩ = some (.string X.mag) := z2
          clear d0 d1 z1 z2
          have hd : Below V2.heap.size V2 V2.drew := (Below.refl V2.heap.size V2).drew
          refine wp_region_held_drew (S := SS) (by kernel_rfl) (HS.out _ hd) (fun hSS => ?_)
          refine wpAnyH_take (i := 0) (v := ?_) rfl (by kernel_rfl) (by kernel_rfl) (by kernel_rfl) (fun _ _ _ h => h) (Or.inl ⟨by rfl, ?_⟩) hSS ?_
          rotate_left 1
          next => intro w hSw; rw [hSe] at hSw; obtain ⟨s1, s2⟩ := hSw; go_simp; try with_reducible rfl
          refine wpAnyH_take (i := 1) (v := ?_) rfl (by kernel_rfl) (by kernel_rfl) (by kernel_rfl) (fun _ _ _ h => h) (Or.inl ⟨by rfl, ?_⟩) hSS ?_
          rotate_left 1
          next => intro w hSw; rw [hSe] at hSw; obtain ⟨s1, s2⟩ := hSw; go_simp; try with_reducible rfl
          refine wpAnyH_take (i := 2) (v := ?_) rfl (by kernel_rfl) (by kernel_rfl) (by kernel_rfl) (fun _ _ _ h => h) (Or.inl ⟨by rfl, ?_⟩) hSS ?_
          rotate_left 1
          next => intro w hSw; rw [hSe] at hSw; obtain ⟨s1, s2⟩ := hSw; go_simp; try with_reducible rfl
          refine wpAnyH_take (i := 3) (v := ?_) rfl (by kernel_rfl) (by kernel_rfl) (by kernel_rfl) (fun _ _ _ h => h) (Or.inl ⟨by rfl, ?_⟩) hSS ?_
          rotate_left 1
          next => intro w hSw; rw [hSe] at hSw; obtain ⟨s1, s2⟩ := hSw; go_simp; try with_reducible rfl
          refine wpAnyH_take (i := 4) (v := ?_) rfl (by kernel_rfl) (by kernel_rfl) (by kernel_rfl) (fun _ _ _ h => h) (Or.inl ⟨by rfl, ?_⟩) hSS ?_
          rotate_left 1
          next => intro w hSw; rw [hSe] at hSw; obtain ⟨s1, s2⟩ := hSw; go_simp; try with_reducible rfl
          refine wpAnyH_take (i := 6) (v := ?_) rfl (by kernel_rfl) (by kernel_rfl) (by kernel_rfl) (fun _ _ _ h => h) (Or.inl ⟨by rfl, ?_⟩) hSS ?_
          rotate_left 1
          next => intro w hSw; rw [hSe] at hSw; obtain ⟨s1, s2⟩ := hSw; go_simp; try with_reducible rfl
          refine wpAnyH_take (i := 7) (v := ?_) rfl (by kernel_rfl) (by kernel_rfl) (by kernel_rfl) (fun _ _ _ h => h) (Or.inl ⟨by rfl, ?_⟩) hSS ?_
          rotate_left 1
          next => intro w hSw; rw [hSe] at hSw; obtain ⟨s1, s2⟩ := hSw; go_simp; try with_reducible rfl
          refine wpAnyH_take (i := 8) (v := ?_) rfl (by kernel_rfl) (by kernel_rfl) (by kernel_rfl) (fun _ _ _ h => h) (Or.inl ⟨by rfl, ?_⟩) hSS ?_
          rotate_left 1
          next => intro w hSw; rw [hSe] at hSw; obtain ⟨s1, s2⟩ := hSw; go_simp; try with_reducible rfl
          refine wpAnyH_take (i := 9) (v := ?_) rfl (by kernel_rfl) (by kernel_rfl) (by kernel_rfl) (fun _ _ _ h => h) (Or.inl ⟨by rfl, ?_⟩) hSS ?_
          rotate_left 1
          next => intro w hSw; rw [hSe] at hSw; obtain ⟨s1, s2⟩ := hSw; go_simp; try with_reducible rfl
          try simp only [Act.put, List.getElem_toArray, List.getElem_cons_zero, List.getElem_cons_succ, List.setIfInBounds_toArray, List.set_cons_zero, List.set_cons_succ]
          refine wpAnyH_ready (rs := [5]) (by kernel_rfl) (by simp) ?_
          refine AllReadyH.cons rfl (fun K hK => ?_) AllReadyH.nil
          go_simp
          refine hK.out _ _ (HS.out _ hd) (fun _ => ?_)
          clear hK K z1d z2d
          try simp only [Act.put, List.getElem_toArray, List.getElem_cons_zero, List.getElem_cons_succ, List.setIfInBounds_toArray, List.set_cons_zero, List.set_cons_succ]
          refine wpAnyH_ready (rs := [10]) (by kernel_rfl) (by simp) ?_
          refine AllReadyH.cons rfl (fun K hK => ?_) AllReadyH.nil
          go_simp
          refine (HA.out _).mono ?_
          rintro e V3 ⟨rfl, hbc⟩
          have hV3 : Below V2.heap.size V2 V3 := hd.trans (hbc.mono hd.size)
          dsimp only
          refine hK.out _ _ (HS.out _ hV3) (fun _ => ?_)
          clear hK K hbc
          refine wpAnyH_take (i := 11) (v := ?_) rfl (by kernel_rfl) (by kernel_rfl) (by kernel_rfl) (fun _ _ _ h => h) (Or.inl ⟨by rfl, ?_⟩) (HS.out _ hV3) ?_
          rotate_left 1
          next => intro w hSw; rw [hSe] at hSw; obtain ⟨s1, s2⟩ := hSw; go_simp; try with_reducible rfl
          have hr3 := Hrv2.out.kept (hV3.block _ Hrv2.out.z.1)
          obtain ⟨⟨z1, z2⟩, z3, z4⟩ := hr3.z.2 t hQi
          have hb3 : Below gr R V3 := by rw [← Hgr.out]; exact Halv2.out.trans (hV3.mono Halv2.out.size)
          have hr4 := (Hset.out V3 hr3).congr fun j _ => Hst3.out j
          have hb4 : Below gr R ((V3.setCell ⟨gr, t * 2, none⟩ (.bool (canon U).neg)).setCell ⟨gr, t * 2 + 1, none⟩ (.string (canon U).mag)) := (hb3.setCell (Nat.le_refl _) _).setCell (Nat.le_refl _) _
          have hSS3 := HS.out _ hV3
          have HS4 : SS ((V3.setCell ⟨gr, t * 2, none⟩ (.bool (canon U).neg)).setCell ⟨gr, t * 2 + 1, none⟩ (.string (canon U).mag)) := by
            rw [hSe] at hSS3 ⊢
            obtain ⟨s1, s2⟩ := hSS3
            refine ⟨?_, ?_⟩ <;> rw [World.cell?_setCell_other _ _ _ _ (by intro hh; simp only [Addr.mk.injEq] at hh; omega), World.cell?_setCell_other _ _ _ _ (by intro hh; simp only [Addr.mk.injEq] at hh; omega)]
            · exact s1
            · exact s2
          try simp only [Act.put, List.getElem_toArray, List.getElem_cons_zero, List.getElem_cons_succ, List.setIfInBounds_toArray, List.set_cons_zero, List.set_cons_succ]
          refine wpAnyH_ready (rs := [12]) (by kernel_rfl) (by simp) ?_
          refine AllReadyH.cons rfl (fun K hK => ?_) AllReadyH.nil
          go_simp
          refine hK.out _ _ (HS4) (fun _ => ?_)
          clear hK K
          refine wpAnyH_done (by kernel_rfl) ?_ _
          have HR4 := Lib.hid hr4
          have HB4 := Lib.hid hb4
          clear hr4 hb4 hr3 hb3 z1 z2 z3 z4 HS4 hSS3 HS hSe hSS hd hV3
          go_wp2
          go_roundw
          case rel => exact ⟨i + 1, by omega, by go_num, HR4, HB4⟩
          case measure => simp [intOf]; omega
        · have i2 : ¬ (i : Int) < (n : Int) := by omega
          have hie : i = n := by omega
          rw [hie] at Hrow
          have Hrow9 : Hid (RowF wr (some ⟨gr, 0, none⟩) N (cntI P Q n f (k + 1))) := Lib.hid Hrow.out.z.row
          have Hb9 := Lib.hid (Hb.out.trans (Hal.out.mono Hgz.out))
          have HB9 : Hid (∀ b : Addr, some (⟨gr, 0, none⟩ : Addr) = some b → B ≤ b.block) := Lib.hid (fun b hb => by
            cases hb
            exact Nat.le_trans hB1 Hgz.out)
          clear hie Hrow Hal HqB
          go_wp2
          go_roundw
          case rel => exact ⟨k + 1, _, _, by omega, by go_num, rfl, Hrow9, Hb9, HB9⟩
          case measure => simp [intOf]; omega
    · have i1 : ¬ (k : Int) < (K : Int) := by omega
      have hke : k = K := by omega
      rw [hke] at Hq
      have Hb9 := Lib.hid (Hb0.out.trans (Hb.out.mono Hb0.out.size))
      clear hke Hb
      go_wp2
      go_ret
      exact ⟨_, _, rfl, Hq.out, (by first | exact Hb9.out | (rw [← Hg0.out]; exact Hb9.out)), HqB.out⟩
end Go.Proofs.Ytlaoijfphkhchaa
