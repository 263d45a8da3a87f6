/- counting.Orbits. -/
import Derived.Test.YtlaoijfphkhchaaDvs
import Derived.Deep.CutRange
namespace Go.Proofs.Ytlaoijfphkhchaa
open Go.RowKit Go.Shelf
attribute [local go_sem] Oper.semAt_some
def accL (t : Nat → Int) : List (Nat × Int) → Int
  | [] => 0
  | x :: l => x.2 * t x.1 + accL t l
theorem accL_snoc (t : Nat → Int) (l : List (Nat × Int)) (x : Nat × Int) : accL t (l ++ [x]) = accL t l + x.2 * t x.1 := by
  induction l with
  | nil => simp [accL]
  | cons y l ih => simp only [List.cons_append, accL, ih]; omega
theorem accL_div (t : Nat → Int) (n : Nat) : ∀ j, accL t (divL n j) = dotN (fun i => if n % (i + 1) = 0 then muN (n / (i + 1)) * t (i + 1) else 0) j := by
  intro j
  induction j with
  | zero => rfl
  | succ j ih =>
    rw [divL, dotN, ← ih]
    by_cases h : n % (j + 1) = 0
    · rw [if_pos h, if_pos h, accL_snoc]
    · rw [if_neg h, if_neg h, List.append_nil, Int.add_zero]
theorem muN_bn (m : Nat) : Bn (muN m) 0 := by
  unfold Bn muN
  by_cases h : m < 13
  · have : ∀ k, k < 13 → ([0, 1, -1, -1, 0, -1, 1, -1, 0, 0, 1, -1, 0].getD k (0 : Int)).natAbs ≤ 2 ^ 0 := by decide
    exact this m h
  · rw [List.getD_eq_getElem?_getD, List.getElem?_eq_none (by simp; omega)]
    decide
theorem acc_bn {t : Nat → Int} {n e : Nat} (ht : ∀ i, i ≤ n → Bn (t i) e) (hn : n ≤ 12) (j : Nat) (hj : j ≤ n) : Bn (accL t (divL n j)) (e + 4) := by
  rw [accL_div]
  refine Bn.dot (m := 4) j (by omega) fun i hi => ?_
  split
  · exact ((muN_bn _).mul (ht (i + 1) (by omega))).up (by omega)
  · exact Bn.zero _
/-- Between two rounds: the number so far lies in the box. -/
def IOrb (W1 : World) (B1 g7 n : Nat) (t : Nat → Int) (pre : List (Nat × Int)) (W : World) : Prop :=
  (∃ j, j ≤ n ∧ pre = divL n j) ∧ BoxAt W g7 (.bool (canon (accL t pre)).neg) (.string (canon (accL t pre)).mag) ∧ Below W1.heap.size W1 W ∧ B1 ≤ W.heap.size
theorem IOrb.abides {W1 : World} {B1 g7 n : Nat} {t : Nat → Int} (h1 : W1.heap.size ≤ B1) (h7 : g7 < B1) : AbT (TurnT B1 (fun _ _ => False)) (IOrb W1 B1 g7 n t) := by
  rintro pre W W' row ⟨hp, hx, hb, hs⟩ hg hr
  have hne : ∀ u, u < B1 → some u ≠ row := fun u hu e => by
    have := turn_ge (hr u e.symm); omega
  exact ⟨hp, boxAt_grown hx hg (hne _ h7), hb.grown hg (by omega) (fun u e => by have := turn_ge (hr u e); omega), Nat.le_trans hs hg.size⟩
theorem KpDiv.put {B Bn : Nat} {W : World} {l : Nat} {o' : Obj} (h0 : B ≤ l) (h1 : Bn ≠ l) : KpDiv B Bn W (W.putObj l o') :=
  ⟨⟨rfl, rfl, rfl, by simp, fun b hb => World.putObj_heap_other (by omega)⟩, World.putObj_heap_other h1⟩
theorem KpDiv.of_below {B Bn : Nat} {W W' : World} (h : Below W.heap.size W W') (hB : B ≤ W.heap.size) (hn : Bn < W.heap.size) : KpDiv B Bn W W' := ⟨h.mono hB, h.block _ hn⟩
/-- A region that does not panic. -/
theorem wp_calm {P : Program} {c : Code} {K : Act → World → Prop} {Q : Exit → Act → World → Prop} {a : Act} {w : World} (h : c.wp P (Exit.then K (fun _ _ _ => False)) a w) : c.wp P (Exit.then K Q) a w :=
  Code.wp_mono (fun e a w he => by cases e <;> first | exact he | exact (show False from he).elim) h
theorem orb_next {W1 X Z : World} {B1 g7 n : Nat} {t : Nat → Int} {pre : List (Nat × Int)} {x : Nat × Int} {v : Int} {a : Act} (hI : IOrb W1 B1 g7 n t pre X) (hG : GDiv n pre x X) (h1 : W1.heap.size ≤ g7) (h7 : g7 + 1 < B1) (hv : v = accL t pre + x.2 * t x.1) (hb : Below X.heap.size X Z) :
    postT B1 (KpDiv g7 (g7 + 1)) (IOrb W1 B1 g7 n t) (fun _ _ _ => False) (pre ++ [x]) X .normal a ((Z.setCell ⟨g7, 0, none⟩ (.bool (canon v).neg)).setCell ⟨g7, 1, none⟩ (.string (canon v).mag)) := by
  obtain ⟨⟨j', hj', hp⟩, hx, hbw, hs⟩ := hI
  obtain ⟨j, hj, hrem, hp2, hz⟩ := hG
  have hxz : Below g7 X Z := hb.mono (Nat.le_of_lt hx.2.2.2.2)
  refine ⟨(keeps_of_below hb).trans (((KeepsOthers.setCell _ _ _).from _).trans ((KeepsOthers.setCell _ _ _).from _)), ⟨(hxz.setCell (Nat.le_refl _) _).setCell (Nat.le_refl _) _, ?_⟩, ⟨j + 1, by omega, ?_⟩, ?_, ((hbw.trans (hb.mono hbw.size)).setCell h1 _).setCell h1 _, by have := hb.size; simp; omega⟩
  · rw [Below.heap_setCell _ _ _ _ (by simp), Below.heap_setCell _ _ _ _ (by simp)]
    exact hb.block _ (by omega)
  · rw [divL, if_pos hrem, ← hp2, hz]
  · rw [accL_snoc, ← hv]
    exact boxp_set (hx.below hb hx.2.2.2.2) _ _
theorem orb_skip {W1 X : World} {B1 g7 n : Nat} {t : Nat → Int} {pre : List (Nat × Int)} {x : Nat × Int} {a : Act} (hI : IOrb W1 B1 g7 n t pre X) (hG : GDiv n pre x X) (h0 : x.2 = 0) :
    postT B1 (KpDiv g7 (g7 + 1)) (IOrb W1 B1 g7 n t) (fun _ _ _ => False) (pre ++ [x]) X .normal a X := by
  obtain ⟨⟨j', hj', hp⟩, hx, hbw, hs⟩ := hI
  obtain ⟨j, hj, hrem, hp2, hz⟩ := hG
  refine ⟨keeps_of_below (Below.refl _ _), ⟨Below.refl _ _, rfl⟩, ⟨j + 1, by omega, ?_⟩, ?_, hbw, hs⟩
  · rw [divL, if_pos hrem, ← hp2, hz]
  · rw [accL_snoc, h0, Int.zero_mul, Int.add_zero]
    exact hx
set_option maxRecDepth 100000 in
set_option maxHeartbeats 16000000 in
theorem Orbits_any (L : Int) (N m n : Nat) (E : Nat → Nat → Int) (p : Option Addr) (c : Nat) (h1 : 0 < N) (hN : N ≤ 32) (hm : m ≤ 1000000) (hn0 : 0 < n) (hn : n ≤ 12) (hg : gChk L N m E = 0) (w : World) (hE : EdgAt w p m E) :
    Calls Try.prog 13 #[.agg #[.int .i64 L, .int .i64 (N : Int), .slice p m c], .int .i64 (n : Int)] w (RetNumE 0 (accL (fun d => trF N (powF N (adjE E m) d)) (divL n n) / (n : Int)) w) := by
  have hok : EdOk N m E := by have := gChk_ok hg; simpa using this
  obtain ⟨t, ht⟩ : ∃ t : Nat → Int, t = fun d => trF N (powF N (adjE E m) d) := ⟨_, rfl⟩
  have hbt : ∀ d, d ≤ 12 → Bn (t d) 400 := fun d hd => by
    rw [ht]
    have h := Bn.dot (e := d * 25) (m := 5) N (pow5 hN) fun i hi => powF_bn (adjE_bn E m N hm) (pow5 hN) d i i hi hi
    exact h.up (by omega)
  obtain ⟨W0, hW0⟩ : ∃ W, (w.alloc (.cells #[.int .i64 L, .int .i64 (N : Int), .slice p m c] 24)).alloc (.cells #[.bool false, .string ⟨#[]⟩] 28) = W := ⟨_, rfl⟩
  have hb0 : Below w.heap.size w W0 := by rw [← hW0]; exact ((Below.refl _ _).alloc (Nat.le_refl _) _).alloc (by simp) _
  have hbx : BoxAt3 W0 w.heap.size (.int .i64 L) (.int .i64 (N : Int)) (.slice p m c) := by rw [← hW0]; exact (BoxAt3.new w _ _ _ _).below ((Below.refl _ _).alloc (by simp) _)
  have hbr : BoxAt W0 (w.heap.size + 1) (.bool false) (.string ⟨#[]⟩) := by
    rw [← hW0]
    have := BoxAt.new (w.alloc (.cells #[.int .i64 L, .int .i64 (N : Int), .slice p m c] 24)) (.bool false) (.string ⟨#[]⟩) 28
    simpa using this
  have hE0 : EdgAt W0 p m E := hE.mono (Nat.le_refl _) hb0
  have hck : cntChk L N m E 1 (n : Int) = 0 := by unfold cntChk; rw [if_neg (by simp [hg]), if_neg (by omega)]
  have hh := cntChk_any L N m E 1 (n : Int) p c W0 hE0
  rw [hck] at hh
  have HK := Lib.hid hh
  have HC := Lib.hid (show ∀ (W : World) (d : Nat), Below W0.heap.size W0 W → d ≤ 12 → Calls Try.prog 44 #[.agg #[.int .i64 L, .int .i64 (N : Int), .slice p m c], .int .i64 (d : Int)] W (RetZ (canon (t d)) W) from fun W d hW hd => by
    rw [ht]; exact closed_any L N m d E p c h1 hN hm (by omega) hok W (hE0.mono (Nat.le_refl _) hW))
  have HB : Hid (∀ W, Below W0.heap.size W0 W → BoxAt3 W w.heap.size (.int .i64 L) (.int .i64 (N : Int)) (.slice p m c) ∧ Below w.heap.size w W ∧ BoxAt W (w.heap.size + 1) (.bool false) (.string ⟨#[]⟩)) := Lib.hid (fun W hW => ⟨hbx.below hW, hb0.trans (hW.mono hb0.size), hbr.below hW hbr.2.2.2.2⟩)
  obtain ⟨_, c0, c1, c2⟩ := hbx
  have n1 : ¬ (N : Int) > 32 := by omega
  have hsz0 : w.heap.size + 1 < W0.heap.size := hbr.2.2.2.2
  rw [← ht]
  clear hE hE0 hok hb0 hck hh hg hbr ht
  refine calls_marks Try.func13 rfl ?_
  simp only [Try.ntmps13, List.size_toArray, List.length_cons, List.length_nil, Nat.reduceAdd, Nat.reduceSub, Array.replicate_succ, Array.replicate_zero, List.push_toArray, List.append_toArray, List.nil_append, List.cons_append]
  go_wp2_with fail
  try rw [hW0]
  refine HK.out.mono ?_
  rintro e W1 ⟨rfl, hb⟩
  dsimp only
  obtain ⟨⟨_, z0, z1, z2⟩, _, _⟩ := HB.out _ hb
  have Hb1 := Lib.hid hb
  clear hb HK c0 c1 c2 hW0
  go_wp2_with fail
  refine (divisors_any (n : Int) _).mono ?_
  rintro e w3 ⟨rfl, hw3⟩
  dsimp only
  have hsz3 : w3.heap.size = W1.heap.size + 2 := by rw [hw3]; simp
  have hbn : Boxed w3 (W1.heap.size + 1) 3 (.int .i64 (n : Int)) := by
    rw [hw3]
    have := Boxed.new (W1.alloc (.cells #[.bool false, .string ⟨#[]⟩] 28)) 3 (.int .i64 (n : Int))
    simpa using this
  have hx7 : BoxAt w3 W1.heap.size (.bool (canon (accL t (divL n 0))).neg) (.string (canon (accL t (divL n 0))).mag) := by
    rw [hw3]
    exact (BoxAt.new W1 (.bool false) (.string ⟨#[]⟩) 28).below ((Below.refl _ _).alloc (Nat.le_refl _) _) (by simp)
  have hw13 : Below W1.heap.size W1 w3 := by rw [hw3]; exact ((Below.refl _ _).alloc (Nat.le_refl _) _).alloc (by simp) _
  simp only [World.size_alloc]
  clear hw3 z0 z1 z2
  obtain ⟨g7, hg7⟩ : ∃ g, W1.heap.size = g := ⟨_, rfl⟩
  rw [hg7] at hsz3 hbn hx7 ⊢
  obtain ⟨g0, hg0⟩ : ∃ g, w.heap.size = g := ⟨_, rfl⟩
  rw [hg0] at HB hsz0
  try rw [hg0]
  go_wp2_with fail
  have hg01 : g0 + 1 < g7 := by rw [← hg7]; exact Nat.lt_of_lt_of_le hsz0 Hb1.out.size
  refine rangeW (gf := 84) (lb := #[.pointer (some ⟨g7 + 1, 0, none⟩)]) rfl (enters_of Try.func84 (by kernel_rfl) rfl)
    (encs := encD) (G := GDiv n) (S := fun xs => xs = divL n n) (T := fun _ _ => False) (Kp := KpDiv g7 (g7 + 1))
    (Pre := fun X => Boxed X (g7 + 1) 3 (.int .i64 (n : Int)) ∧ Below g7 W1 X)
    (fun l J Jx X hX hJ _ hY h0 => div1_in l g7 (g7 + 1) n J Jx hJ hY W1 X hX.2 hX.1 hn h0)
    (by rintro r X h; exact h.elim) (fun h k => h.trans k) (fun X l o o' hl _ _ => KpDiv.put (by omega) (by omega))
    (fun X hX => ⟨(hX.block _ hbn.lt).trans hbn, by rw [← hg7]; exact hw13.trans (hX.mono hw13.size)⟩) (fun _ => rfl)
    (fun x pre X X' row h hg hr => h)
    (IOrb W1 w3.heap.size g7 n t) (fun _ _ _ => False) (IOrb.abides (by omega) (by omega)) (fun _ _ _ _ _ h => h.elim)
    ⟨⟨0, by omega, rfl⟩, hx7, hw13, Nat.le_refl _⟩
    (fun z => { tmps := #[.agg #[.int .i64 L, .int .i64 (N : Int), .slice p m c], .int .i64 (n : Int), .pointer (some ⟨g0, 0, none⟩), undef, .pointer (some ⟨g0 + 1, 0, none⟩), .int .i64 0, .int .i64 0, .pointer (some ⟨g7, 0, none⟩), .int .i64 (z.1 : Int), .int .i64 z.2, undef, undef, undef, .agg #[.int .i64 L, .int .i64 (N : Int), .slice p m c], .int .i64 (n : Int), .int .i64 0, .int .i64 0, .bool false, undef, undef, .pointer (some ⟨g0, 1, none⟩), .int .i64 (N : Int), .bool (decide (32 < (N : Int))), undef, .int .i64 (n : Int), .func (.func 84) #[] #[.pointer (some ⟨g7 + 1, 0, none⟩)], .int .i64 (z.1 : Int), .int .i64 z.2, undef, undef, undef, undef, undef, undef, undef, undef, undef, undef, undef, undef, undef, undef, undef, undef, undef, undef, undef], defers := [] }) ?assign ?body ?done ?stop
  case assign =>
    rintro l ⟨d, mu⟩ X K hK
    dsimp only [encD] at hK ⊢
    gi_wp2
    exact hK
  case body =>
    rintro l pre ⟨dd, mu⟩ X hI hG
    by_cases hmu : mu = 0
    · have m0 : (mu != 0) = false := by rw [hmu]; rfl
      have Hsk := Lib.hid (fun a => orb_skip (a := a) hI hG hmu)
      clear hmu
      gi_wp2
      exact Hsk.out { tmps := #[], defers := [] }
    · have m0 : (mu != 0) = true := by rw [bne_iff_ne]; exact hmu
      obtain ⟨⟨j', hj', hp⟩, hx, hbX, hsX⟩ := id hI
      obtain ⟨j, hj, hrem, hp2, hz⟩ := id hG
      obtain ⟨hdd, hmm⟩ := Prod.mk.inj hz
      have hmb : Bn mu 0 := by rw [hmm]; exact muN_bn _
      have hml : mu.natAbs ≤ 1 := hmb
      have hdl : dd ≤ 12 := by omega
      have hac : Bn (accL t pre) 404 := by rw [hp]; exact acc_bn (fun i hi => hbt i (by omega)) hn j' hj'
      have hpr : Bn (mu * t dd) 400 := (hmb.mul (hbt dd hdl)).up (by omega)
      have HN := Lib.hid (fun (Z : World) (a : Act) (v : Int) (hv : v = accL t pre + mu * t dd) (h : Below X.heap.size X Z) => orb_next (a := a) hI hG (by omega) (by omega) hv h)
      have HOf := Lib.hid (fun W => of_any mu (by omega) (by omega) W)
      have HMl := Lib.hid (fun W => mulc_any mu (t dd) (hmb.size _ (by omega)) ((hbt dd hdl).size _ (by omega)) W)
      have HAd := Lib.hid (fun W => addc_any (accL t pre) (mu * t dd) (hac.size _ (by omega)) (hpr.size _ (by omega)) W)
      have hX0 : Below W0.heap.size W0 X := Hb1.out.trans (hbX.mono Hb1.out.size)
      have HCl := Lib.hid (fun W (hW : Below X.heap.size X W) => HC.out W dd (hX0.trans (hW.mono hX0.size)) hdl)
      obtain ⟨⟨_, c0, c1, c2⟩, _⟩ := HB.out X hX0
      obtain ⟨v, hv⟩ : ∃ v, v = accL t pre + mu * t dd := ⟨_, rfl⟩
      have HV := Lib.hid hv
      rw [← hv] at HAd
      obtain ⟨a1, ha1⟩ : ∃ a, accL t pre = a := ⟨_, rfl⟩
      obtain ⟨pr, hpr2⟩ : ∃ a, mu * t dd = a := ⟨_, rfl⟩
      obtain ⟨td, htd⟩ : ∃ a, t dd = a := ⟨_, rfl⟩
      rw [ha1] at HAd hx
      rw [hpr2] at HAd HMl
      rw [htd] at HMl HCl
      have HXX : Hid (∀ W, Below X.heap.size X W → BoxAt W g7 (.bool (canon a1).neg) (.string (canon a1).mag)) := Lib.hid (fun W hW => hx.below hW hx.2.2.2.2)
      obtain ⟨SS, hSe⟩ : ∃ SS : World → Prop, SS = fun W => W.cell? ⟨g0, 0, none⟩ = some (.int .i64 L) ∧ W.cell? ⟨g0, 1, none⟩ = some (.int .i64 (N : Int)) ∧ W.cell? ⟨g0, 2, none⟩ = some (.slice p m c) := ⟨_, rfl⟩
      have HS : Hid (∀ W, Below X.heap.size X W → SS W) := Lib.hid (fun W hW => by rw [hSe]; exact ⟨cell_below hW c0, cell_below hW c1, cell_below hW c2⟩)
      have HS2 : Hid (∀ W v1 v2, SS W → SS ((W.setCell ⟨g7, 0, none⟩ v1).setCell ⟨g7, 1, none⟩ v2)) := Lib.hid (fun W v1 v2 hW => by
        rw [hSe] at hW ⊢
        obtain ⟨s1, s2, s3⟩ := hW
        refine ⟨?_, ?_, ?_⟩ <;> (rw [World.cell?_setCell_other _ _ _ _ (by intro hh; simp only [Addr.mk.injEq] at hh; omega), World.cell?_setCell_other _ _ _ _ (by intro hh; simp only [Addr.mk.injEq] at hh; omega)]; assumption))
      have hd : Below X.heap.size X X.drew := (Below.refl _ _).drew
      clear c0 c1 c2 hx hI hG hp hp2 hz hdd hmm hmb hml hac hpr hv ha1 hpr2 htd hX0 hbX hsX hmu hrem hj hj'
      gi_wp2
      refine region_lift (by kernel_rfl) (by kernel_rfl) (by rintro ⟨_, _, h⟩; exact h) ?_
      refine wpAny_of_held (S := SS) _ _ _ _ ?_
      have hSS := HS.out _ hd
      refine wpAnyH_take (i := 1) (v := ?_) rfl (by kernel_rfl) (by kernel_rfl) (by kernel_rfl) (fun _ _ _ h => h) (Or.inl ⟨by rfl, ?_⟩) hSS ?_
      rotate_left 1
      next => intro w hSw; rw [hSe] at hSw; obtain ⟨s1, s2, s3⟩ := hSw; go_simp; try with_reducible rfl
      refine wpAnyH_take (i := 3) (v := ?_) rfl (by kernel_rfl) (by kernel_rfl) (by kernel_rfl) (fun _ _ _ h => h) (Or.inl ⟨by rfl, ?_⟩) hSS ?_
      rotate_left 1
      next => intro w hSw; rw [hSe] at hSw; obtain ⟨s1, s2, s3⟩ := hSw; go_simp; try with_reducible rfl
      refine wpAnyH_take (i := 4) (v := ?_) rfl (by kernel_rfl) (by kernel_rfl) (by kernel_rfl) (fun _ _ _ h => h) (Or.inl ⟨by rfl, ?_⟩) hSS ?_
      rotate_left 1
      next => intro w hSw; rw [hSe] at hSw; obtain ⟨s1, s2, s3⟩ := hSw; go_simp; try with_reducible rfl
      try simp only [Act.put, List.getElem_toArray, List.getElem_cons_zero, List.getElem_cons_succ, List.setIfInBounds_toArray, List.set_cons_zero, List.set_cons_succ]
      refine wpAnyH_ready (rs := [0, 2]) (by kernel_rfl) (by simp) ?_
      refine AllReadyH.cons rfl (fun K hK => ?_) (AllReadyH.cons rfl (fun K hK => ?_) AllReadyH.nil)
      · obtain ⟨z0, z1, z2, z3, z4⟩ := HXX.out _ hd
        go_simp
        refine hK.out _ _ (HS.out _ hd) (fun _ => ?_)
        clear hK K z0 z1 z2 z3 z4
        try simp only [Act.put, List.getElem_toArray, List.getElem_cons_zero, List.getElem_cons_succ, List.setIfInBounds_toArray, List.set_cons_zero, List.set_cons_succ]
        refine wpAnyH_ready (rs := [2]) (by kernel_rfl) (by simp) ?_
        refine AllReadyH.cons rfl (fun K hK => ?_) AllReadyH.nil
        go_simp
        refine (HOf.out _).mono ?_
        rintro e w1 ⟨rfl, hbc⟩
        have hb1 : Below X.heap.size X w1 := hd.trans (hbc.mono hd.size)
        dsimp only
        refine hK.out _ _ (HS.out _ hb1) (fun _ => ?_)
        clear hK K hbc
        try simp only [Act.put, List.getElem_toArray, List.getElem_cons_zero, List.getElem_cons_succ, List.setIfInBounds_toArray, List.set_cons_zero, List.set_cons_succ]
        refine wpAnyH_ready (rs := [5]) (by kernel_rfl) (by simp) ?_
        refine AllReadyH.cons rfl (fun K hK => ?_) AllReadyH.nil
        go_simp
        refine (HCl.out _ hb1).mono ?_
        rintro e w2 ⟨rfl, hbc⟩
        have hb2 : Below X.heap.size X w2 := hb1.trans (hbc.mono hb1.size)
        dsimp only
        refine hK.out _ _ (HS.out _ hb2) (fun _ => ?_)
        clear hK K hbc
        try simp only [Act.put, List.getElem_toArray, List.getElem_cons_zero, List.getElem_cons_succ, List.setIfInBounds_toArray, List.set_cons_zero, List.set_cons_succ]
        refine wpAnyH_ready (rs := [6]) (by kernel_rfl) (by simp) ?_
        refine AllReadyH.cons rfl (fun K hK => ?_) AllReadyH.nil
        go_simp
        refine (HMl.out _).mono ?_
        rintro e w3 ⟨rfl, hbc⟩
        have hb3 : Below X.heap.size X w3 := hb2.trans (hbc.mono hb2.size)
        dsimp only
        refine hK.out _ _ (HS.out _ hb3) (fun _ => ?_)
        clear hK K hbc
        try simp only [Act.put, List.getElem_toArray, List.getElem_cons_zero, List.getElem_cons_succ, List.setIfInBounds_toArray, List.set_cons_zero, List.set_cons_succ]
        refine wpAnyH_ready (rs := [7]) (by kernel_rfl) (by simp) ?_
        refine AllReadyH.cons rfl (fun K hK => ?_) AllReadyH.nil
        go_simp
        refine (HAd.out _).mono ?_
        rintro e w4 ⟨rfl, hbc⟩
        have hb4 : Below X.heap.size X w4 := hb3.trans (hbc.mono hb3.size)
        dsimp only
        refine hK.out _ _ (HS.out _ hb4) (fun _ => ?_)
        clear hK K hbc
        try simp only [Act.put, List.getElem_toArray, List.getElem_cons_zero, List.getElem_cons_succ, List.setIfInBounds_toArray, List.set_cons_zero, List.set_cons_succ]
        refine wpAnyH_ready (rs := [8]) (by kernel_rfl) (by simp) ?_
        refine AllReadyH.cons rfl (fun K hK => ?_) AllReadyH.nil
        obtain ⟨z0, z1, z2, z3, z4⟩ := HXX.out _ hb4
        go_simp
        refine hK.out _ _ (HS2.out _ _ _ (HS.out _ hb4)) (fun _ => ?_)
        clear hK K z0 z1 z2 z3 z4
        refine wpAnyH_done (by kernel_rfl) ?_ _
        exact HN.out _ { tmps := #[], defers := [] } v HV.out hb4
      · go_simp
        refine (HOf.out _).mono ?_
        rintro e w5 ⟨rfl, hbc⟩
        have hb5 : Below X.heap.size X w5 := hd.trans (hbc.mono hd.size)
        dsimp only
        refine hK.out _ _ (HS.out _ hb5) (fun _ => ?_)
        clear hK K hbc
        try simp only [Act.put, List.getElem_toArray, List.getElem_cons_zero, List.getElem_cons_succ, List.setIfInBounds_toArray, List.set_cons_zero, List.set_cons_succ]
        refine wpAnyH_ready (rs := [0, 5]) (by kernel_rfl) (by simp) ?_
        refine AllReadyH.cons rfl (fun K hK => ?_) (AllReadyH.cons rfl (fun K hK => ?_) AllReadyH.nil)
        · obtain ⟨z0, z1, z2, z3, z4⟩ := HXX.out _ hb5
          go_simp
          refine hK.out _ _ (HS.out _ hb5) (fun _ => ?_)
          clear hK K z0 z1 z2 z3 z4
          try simp only [Act.put, List.getElem_toArray, List.getElem_cons_zero, List.getElem_cons_succ, List.setIfInBounds_toArray, List.set_cons_zero, List.set_cons_succ]
          refine wpAnyH_ready (rs := [5]) (by kernel_rfl) (by simp) ?_
          refine AllReadyH.cons rfl (fun K hK => ?_) AllReadyH.nil
          go_simp
          refine (HCl.out _ hb5).mono ?_
          rintro e w6 ⟨rfl, hbc⟩
          have hb6 : Below X.heap.size X w6 := hb5.trans (hbc.mono hb5.size)
          dsimp only
          refine hK.out _ _ (HS.out _ hb6) (fun _ => ?_)
          clear hK K hbc
          try simp only [Act.put, List.getElem_toArray, List.getElem_cons_zero, List.getElem_cons_succ, List.setIfInBounds_toArray, List.set_cons_zero, List.set_cons_succ]
          refine wpAnyH_ready (rs := [6]) (by kernel_rfl) (by simp) ?_
          refine AllReadyH.cons rfl (fun K hK => ?_) AllReadyH.nil
          go_simp
          refine (HMl.out _).mono ?_
          rintro e w7 ⟨rfl, hbc⟩
          have hb7 : Below X.heap.size X w7 := hb6.trans (hbc.mono hb6.size)
          dsimp only
          refine hK.out _ _ (HS.out _ hb7) (fun _ => ?_)
          clear hK K hbc
          try simp only [Act.put, List.getElem_toArray, List.getElem_cons_zero, List.getElem_cons_succ, List.setIfInBounds_toArray, List.set_cons_zero, List.set_cons_succ]
          refine wpAnyH_ready (rs := [7]) (by kernel_rfl) (by simp) ?_
          refine AllReadyH.cons rfl (fun K hK => ?_) AllReadyH.nil
          go_simp
          refine (HAd.out _).mono ?_
          rintro e w8 ⟨rfl, hbc⟩
          have hb8 : Below X.heap.size X w8 := hb7.trans (hbc.mono hb7.size)
          dsimp only
          refine hK.out _ _ (HS.out _ hb8) (fun _ => ?_)
          clear hK K hbc
          try simp only [Act.put, List.getElem_toArray, List.getElem_cons_zero, List.getElem_cons_succ, List.setIfInBounds_toArray, List.set_cons_zero, List.set_cons_succ]
          refine wpAnyH_ready (rs := [8]) (by kernel_rfl) (by simp) ?_
          refine AllReadyH.cons rfl (fun K hK => ?_) AllReadyH.nil
          obtain ⟨z0, z1, z2, z3, z4⟩ := HXX.out _ hb8
          go_simp
          refine hK.out _ _ (HS2.out _ _ _ (HS.out _ hb8)) (fun _ => ?_)
          clear hK K z0 z1 z2 z3 z4
          refine wpAnyH_done (by kernel_rfl) ?_ _
          exact HN.out _ { tmps := #[], defers := [] } v HV.out hb8
        · go_simp
          refine (HCl.out _ hb5).mono ?_
          rintro e w9 ⟨rfl, hbc⟩
          have hb9 : Below X.heap.size X w9 := hb5.trans (hbc.mono hb5.size)
          dsimp only
          refine hK.out _ _ (HS.out _ hb9) (fun _ => ?_)
          clear hK K hbc
          try simp only [Act.put, List.getElem_toArray, List.getElem_cons_zero, List.getElem_cons_succ, List.setIfInBounds_toArray, List.set_cons_zero, List.set_cons_succ]
          refine wpAnyH_ready (rs := [0, 6]) (by kernel_rfl) (by simp) ?_
          refine AllReadyH.cons rfl (fun K hK => ?_) (AllReadyH.cons rfl (fun K hK => ?_) AllReadyH.nil)
          · obtain ⟨z0, z1, z2, z3, z4⟩ := HXX.out _ hb9
            go_simp
            refine hK.out _ _ (HS.out _ hb9) (fun _ => ?_)
            clear hK K z0 z1 z2 z3 z4
            try simp only [Act.put, List.getElem_toArray, List.getElem_cons_zero, List.getElem_cons_succ, List.setIfInBounds_toArray, List.set_cons_zero, List.set_cons_succ]
            refine wpAnyH_ready (rs := [6]) (by kernel_rfl) (by simp) ?_
            refine AllReadyH.cons rfl (fun K hK => ?_) AllReadyH.nil
            go_simp
            refine (HMl.out _).mono ?_
            rintro e w10 ⟨rfl, hbc⟩
            have hb10 : Below X.heap.size X w10 := hb9.trans (hbc.mono hb9.size)
            dsimp only
            refine hK.out _ _ (HS.out _ hb10) (fun _ => ?_)
            clear hK K hbc
            try simp only [Act.put, List.getElem_toArray, List.getElem_cons_zero, List.getElem_cons_succ, List.setIfInBounds_toArray, List.set_cons_zero, List.set_cons_succ]
            refine wpAnyH_ready (rs := [7]) (by kernel_rfl) (by simp) ?_
            refine AllReadyH.cons rfl (fun K hK => ?_) AllReadyH.nil
            go_simp
            refine (HAd.out _).mono ?_
            rintro e w11 ⟨rfl, hbc⟩
            have hb11 : Below X.heap.size X w11 := hb10.trans (hbc.mono hb10.size)
            dsimp only
            refine hK.out _ _ (HS.out _ hb11) (fun _ => ?_)
            clear hK K hbc
            try simp only [Act.put, List.getElem_toArray, List.getElem_cons_zero, List.getElem_cons_succ, List.setIfInBounds_toArray, List.set_cons_zero, List.set_cons_succ]
            refine wpAnyH_ready (rs := [8]) (by kernel_rfl) (by simp) ?_
            refine AllReadyH.cons rfl (fun K hK => ?_) AllReadyH.nil
            obtain ⟨z0, z1, z2, z3, z4⟩ := HXX.out _ hb11
            go_simp
            refine hK.out _ _ (HS2.out _ _ _ (HS.out _ hb11)) (fun _ => ?_)
            clear hK K z0 z1 z2 z3 z4
            refine wpAnyH_done (by kernel_rfl) ?_ _
            exact HN.out _ { tmps := #[], defers := [] } v HV.out hb11
          · go_simp
            refine (HMl.out _).mono ?_
            rintro e w12 ⟨rfl, hbc⟩
            have hb12 : Below X.heap.size X w12 := hb9.trans (hbc.mono hb9.size)
            dsimp only
            refine hK.out _ _ (HS.out _ hb12) (fun _ => ?_)
            clear hK K hbc
            try simp only [Act.put, List.getElem_toArray, List.getElem_cons_zero, List.getElem_cons_succ, List.setIfInBounds_toArray, List.set_cons_zero, List.set_cons_succ]
            refine wpAnyH_ready (rs := [0]) (by kernel_rfl) (by simp) ?_
            refine AllReadyH.cons rfl (fun K hK => ?_) AllReadyH.nil
            obtain ⟨z0, z1, z2, z3, z4⟩ := HXX.out _ hb12
            go_simp
            refine hK.out _ _ (HS.out _ hb12) (fun _ => ?_)
            clear hK K z0 z1 z2 z3 z4
            try simp only [Act.put, List.getElem_toArray, List.getElem_cons_zero, List.getElem_cons_succ, List.setIfInBounds_toArray, List.set_cons_zero, List.set_cons_succ]
            refine wpAnyH_ready (rs := [7]) (by kernel_rfl) (by simp) ?_
            refine AllReadyH.cons rfl (fun K hK => ?_) AllReadyH.nil
            go_simp
            refine (HAd.out _).mono ?_
            rintro e w13 ⟨rfl, hbc⟩
            have hb13 : Below X.heap.size X w13 := hb12.trans (hbc.mono hb12.size)
            dsimp only
            refine hK.out _ _ (HS.out _ hb13) (fun _ => ?_)
            clear hK K hbc
            try simp only [Act.put, List.getElem_toArray, List.getElem_cons_zero, List.getElem_cons_succ, List.setIfInBounds_toArray, List.set_cons_zero, List.set_cons_succ]
            refine wpAnyH_ready (rs := [8]) (by kernel_rfl) (by simp) ?_
            refine AllReadyH.cons rfl (fun K hK => ?_) AllReadyH.nil
            obtain ⟨z0, z1, z2, z3, z4⟩ := HXX.out _ hb13
            go_simp
            refine hK.out _ _ (HS2.out _ _ _ (HS.out _ hb13)) (fun _ => ?_)
            clear hK K z0 z1 z2 z3 z4
            refine wpAnyH_done (by kernel_rfl) ?_ _
            exact HN.out _ { tmps := #[], defers := [] } v HV.out hb13
  case done =>
    rintro D xs X hD hS ⟨⟨j, hj, hp⟩, hx, hbX, hsX⟩ hK
    subst hS
    have hac : Bn (accL t (divL n n)) 404 := acc_bn (fun i hi => hbt i (by omega)) hn n (Nat.le_refl _)
    have HOf := Lib.hid (fun W => of_any (n : Int) (by omega) (by omega) W)
    have HDv := Lib.hid (fun W => divc_any (accL t (divL n n)) (n : Int) (by omega) (by omega) (hac.size _ (by omega)) W)
    obtain ⟨a, ha⟩ : ∃ a, accL t (divL n n) = a := ⟨_, rfl⟩
    rw [ha] at hx HDv
    try rw [ha]
    have hX0 : Below W0.heap.size W0 X := Hb1.out.trans (hbX.mono Hb1.out.size)
    have HBX := Lib.hid (fun W (hW : Below X.heap.size X W) => HB.out W (hX0.trans (hW.mono hX0.size)))
    have hxl : g7 < X.heap.size := hx.2.2.2.2
    obtain ⟨Q, hQ⟩ : ∃ Q, canon (a / (n : Int)) = Q := ⟨_, rfl⟩
    obtain ⟨R, hR⟩ : ∃ R, remZ (canon a) (canon (n : Int)) = R := ⟨_, rfl⟩
    rw [hQ, hR] at HDv
    have HQ := Lib.hid hQ
    have HA := Lib.hid ha
    have HK := Lib.hid hK
    obtain ⟨x0, x1, _, _, _⟩ := hx
    obtain ⟨SS, hSe⟩ : ∃ SS : World → Prop, SS = fun W => W.cell? ⟨g7, 0, none⟩ = some (.bool (canon a).neg) ∧ W.cell? ⟨g7, 1, none⟩ = some (.string (canon a).mag) := ⟨_, rfl⟩
    have HS : Hid (∀ W, Below X.heap.size X W → SS W) := Lib.hid (fun W hW => by rw [hSe]; exact ⟨cell_below hW x0, cell_below hW x1⟩)
    have hd : Below X.heap.size X X.drew := (Below.refl _ _).drew
    clear hp hac ha hQ hR x0 x1 hK HB HC hbt hbn hx7 hw13
    go_upto_region 12 with (fail)
    go_cut [10, 11, 12] from 38 to 45 (fun u _ _ wx => ∃ h1, u = .pointer (some ⟨h1, 0, none⟩) ∧ Hid (X.heap.size ≤ h1) ∧ Hid (BoxAt wx h1 (.bool Q.neg) (.string Q.mag)) ∧ Hid (Below X.heap.size X wx))
    case first =>
      refine wp_calm ?_
      refine wp_region_held_drew (S := SS) (by kernel_rfl) (HS.out _ hd) (fun hSS => ?_)
      refine wpAnyH_take (i := 0) (v := ?_) rfl (by kernel_rfl) (by kernel_rfl) (by kernel_rfl) (fun _ _ _ h => h) (Or.inl ⟨by rfl, ?_⟩) hSS ?_
      rotate_left 1
      next => intro w hSw; rw [hSe] at hSw; obtain ⟨s1, s2⟩ := hSw; go_simp; try with_reducible rfl
      refine wpAnyH_take (i := 1) (v := ?_) rfl (by kernel_rfl) (by kernel_rfl) (by kernel_rfl) (fun _ _ _ h => h) (Or.inl ⟨by rfl, ?_⟩) hSS ?_
      rotate_left 1
      next => intro w hSw; rw [hSe] at hSw; obtain ⟨s1, s2⟩ := hSw; go_simp; try with_reducible rfl
      obtain ⟨w0, hw0⟩ : ∃ Y, X.drew = Y := ⟨_, rfl⟩
      rw [hw0] at hd hSS ⊢
      try simp only [Act.put, List.getElem_toArray, List.getElem_cons_zero, List.getElem_cons_succ, List.setIfInBounds_toArray, List.set_cons_zero, List.set_cons_succ]
      refine wpAnyH_ready (rs := [2, 8, 9]) (by kernel_rfl) (by simp) ?_
      refine AllReadyH.cons rfl (fun K hK => ?_) (AllReadyH.cons rfl (fun K hK => ?_) (AllReadyH.cons rfl (fun K hK => ?_) AllReadyH.nil))
      · go_simp
        refine (HOf.out _).mono ?_
        rintro e w14 ⟨rfl, hbc⟩
        have hb14 : Below X.heap.size X w14 := hd.trans (hbc.mono hd.size)
        dsimp only
        refine hK.out _ _ (HS.out _ hb14) (fun _ => ?_)
        clear hK K hbc
        try simp only [Act.put, List.getElem_toArray, List.getElem_cons_zero, List.getElem_cons_succ, List.setIfInBounds_toArray, List.set_cons_zero, List.set_cons_succ]
        refine wpAnyH_ready (rs := [3, 8, 9]) (by kernel_rfl) (by simp) ?_
        refine AllReadyH.cons rfl (fun K hK => ?_) (AllReadyH.cons rfl (fun K hK => ?_) (AllReadyH.cons rfl (fun K hK => ?_) AllReadyH.nil))
        · go_simp
          refine (HDv.out _).mono ?_
          rintro e w15 ⟨rfl, hbc⟩
          have hb15 : Below X.heap.size X w15 := hb14.trans (hbc.mono hb14.size)
          dsimp only
          refine hK.out _ _ (HS.out _ hb15) (fun _ => ?_)
          clear hK K hbc
          refine wpAnyH_take (i := 4) (v := ?_) rfl (by kernel_rfl) (by kernel_rfl) (by kernel_rfl) (fun _ _ _ h => h) (Or.inl ⟨by rfl, ?_⟩) (HS.out _ hb15) ?_
          rotate_left 1
          next => intro w hSw; rw [hSe] at hSw; obtain ⟨s1, s2⟩ := hSw; go_simp; try with_reducible rfl
          refine wpAnyH_take (i := 5) (v := ?_) rfl (by kernel_rfl) (by kernel_rfl) (by kernel_rfl) (fun _ _ _ h => h) (Or.inl ⟨by rfl, ?_⟩) (HS.out _ hb15) ?_
          rotate_left 1
          next => intro w hSw; rw [hSe] at hSw; obtain ⟨s1, s2⟩ := hSw; go_simp; try with_reducible rfl
          refine wpAnyH_take (i := 6) (v := ?_) rfl (by kernel_rfl) (by kernel_rfl) (by kernel_rfl) (fun _ _ _ h => h) (Or.inl ⟨by rfl, ?_⟩) (HS.out _ hb15) ?_
          rotate_left 1
          next => intro w hSw; rw [hSe] at hSw; obtain ⟨s1, s2⟩ := hSw; go_simp; try with_reducible rfl
          refine wpAnyH_take (i := 7) (v := ?_) rfl (by kernel_rfl) (by kernel_rfl) (by kernel_rfl) (fun _ _ _ h => h) (Or.inl ⟨by rfl, ?_⟩) (HS.out _ hb15) ?_
          rotate_left 1
          next => intro w hSw; rw [hSe] at hSw; obtain ⟨s1, s2⟩ := hSw; go_simp; try with_reducible rfl
          try simp only [Act.put, List.getElem_toArray, List.getElem_cons_zero, List.getElem_cons_succ, List.setIfInBounds_toArray, List.set_cons_zero, List.set_cons_succ]
          refine wpAnyH_ready (rs := [8, 9]) (by kernel_rfl) (by simp) ?_
          refine AllReadyH.cons rfl (fun K hK => ?_) (AllReadyH.cons rfl (fun K hK => ?_) AllReadyH.nil)
          · go_simp
            have hb16 : Below X.heap.size X (w15.alloc (.cells #[.bool false, .string ⟨#[]⟩] 28)) := hb15.alloc hb15.size _
            refine hK.out _ _ (HS.out _ hb16) (fun _ => ?_)
            clear hK K
            have f16_8 := BoxAt.new w15 (.bool false) (.string ⟨#[]⟩) 28
            have lA := hb15.size
            obtain ⟨gA, hgA⟩ : ∃ g, w15.heap.size = g := ⟨_, rfl⟩
            obtain ⟨w16, hw16⟩ : ∃ Y, w15.alloc (.cells #[.bool false, .string ⟨#[]⟩] 28) = Y := ⟨_, rfl⟩
            rw [hw16] at hb16 f16_8 ⊢
            rw [hgA] at lA f16_8 ⊢
            try simp only [Act.put, List.getElem_toArray, List.getElem_cons_zero, List.getElem_cons_succ, List.setIfInBounds_toArray, List.set_cons_zero, List.set_cons_succ]
            refine wpAnyH_ready (rs := [9]) (by kernel_rfl) (by simp) ?_
            refine AllReadyH.cons rfl (fun K hK => ?_) AllReadyH.nil
            · go_simp
              have hb17 : Below X.heap.size X (w16.alloc (.cells #[.bool false, .string ⟨#[]⟩] 28)) := hb16.alloc hb16.size _
              refine hK.out _ _ (HS.out _ hb17) (fun _ => ?_)
              clear hK K
              have f17_9 := BoxAt.new w16 (.bool false) (.string ⟨#[]⟩) 28
              have f17_8 := BoxAt.below f16_8 ((Below.refl w16.heap.size w16).alloc (Nat.le_refl _) (.cells #[.bool false, .string ⟨#[]⟩] 28)) (f16_8).2.2.2.2
              have lB := hb16.size
              obtain ⟨gB, hgB⟩ : ∃ g, w16.heap.size = g := ⟨_, rfl⟩
              obtain ⟨w17, hw17⟩ : ∃ Y, w16.alloc (.cells #[.bool false, .string ⟨#[]⟩] 28) = Y := ⟨_, rfl⟩
              rw [hw17] at hb17 f17_8 f17_9 ⊢
              rw [hgB] at lB f17_9 ⊢
              have hne : gA ≠ gB := by have := (f16_8).2.2.2.2; omega
              try simp only [Act.put, List.getElem_toArray, List.getElem_cons_zero, List.getElem_cons_succ, List.setIfInBounds_toArray, List.set_cons_zero, List.set_cons_succ]
              refine wpAnyH_ready (rs := [10]) (by kernel_rfl) (by simp) ?_
              refine AllReadyH.cons rfl (fun K hK => ?_) AllReadyH.nil
              obtain ⟨z0, z1, z2, z3, z4⟩ := id f17_8
              go_simp
              have hs1 := (hb17.setCell (p := ⟨gA, 0, none⟩) lA (.bool Q.neg)).setCell (p := ⟨gA, 1, none⟩) lA (.string Q.mag)
              refine hK.out _ _ (HS.out _ hs1) (fun _ => ?_)
              clear hK K z0 z1 z2 z3 z4
              have eA := boxp_set f17_8 (.bool Q.neg) (.string Q.mag)
              have eB := boxp_far (boxp_far f17_9 (p := ⟨gA, 0, none⟩) hne.symm (.bool Q.neg)) (p := ⟨gA, 1, none⟩) hne.symm (.string Q.mag)
              try simp only [Act.put, List.getElem_toArray, List.getElem_cons_zero, List.getElem_cons_succ, List.setIfInBounds_toArray, List.set_cons_zero, List.set_cons_succ]
              refine wpAnyH_ready (rs := [11]) (by kernel_rfl) (by simp) ?_
              refine AllReadyH.cons rfl (fun K hK => ?_) AllReadyH.nil
              obtain ⟨z0, z1, z2, z3, z4⟩ := id eB
              go_simp
              have hs2 := (hs1.setCell (p := ⟨gB, 0, none⟩) lB (.bool R.neg)).setCell (p := ⟨gB, 1, none⟩) lB (.string R.mag)
              refine hK.out _ _ (HS.out _ hs2) (fun _ => ?_)
              clear hK K z0 z1 z2 z3 z4
              have eA2 := boxp_far (boxp_far eA (p := ⟨gB, 0, none⟩) hne (.bool R.neg)) (p := ⟨gB, 1, none⟩) hne (.string R.mag)
              try simp only [Act.put, List.getElem_toArray, List.getElem_cons_zero, List.getElem_cons_succ, List.setIfInBounds_toArray, List.set_cons_zero, List.set_cons_succ]
              refine wpAnyH_take (i := 12) (v := ?_) rfl (by kernel_rfl) (by kernel_rfl) (by kernel_rfl) (fun _ _ _ h => h) (Or.inl ⟨by rfl, ?_⟩) (HS.out _ hs2) ?_
              rotate_left 1
              next => intro w hSw; rw [hSe] at hSw; obtain ⟨s1, s2⟩ := hSw; go_simp; try with_reducible rfl
              try simp only [Act.put, List.getElem_toArray, List.getElem_cons_zero, List.getElem_cons_succ, List.setIfInBounds_toArray, List.set_cons_zero, List.set_cons_succ]
              refine wpAnyH_done (by kernel_rfl) ?_ _
              go_wp2_with fail
              go_meet
              exact ⟨gA, rfl, Lib.hid lA, Lib.hid eA2, Lib.hid hs2⟩
          · go_simp
            have hb18 : Below X.heap.size X (w15.alloc (.cells #[.bool false, .string ⟨#[]⟩] 28)) := hb15.alloc hb15.size _
            refine hK.out _ _ (HS.out _ hb18) (fun _ => ?_)
            clear hK K
            have f18_9 := BoxAt.new w15 (.bool false) (.string ⟨#[]⟩) 28
            have lB := hb15.size
            obtain ⟨gB, hgB⟩ : ∃ g, w15.heap.size = g := ⟨_, rfl⟩
            obtain ⟨w18, hw18⟩ : ∃ Y, w15.alloc (.cells #[.bool false, .string ⟨#[]⟩] 28) = Y := ⟨_, rfl⟩
            rw [hw18] at hb18 f18_9 ⊢
            rw [hgB] at lB f18_9 ⊢
            try simp only [Act.put, List.getElem_toArray, List.getElem_cons_zero, List.getElem_cons_succ, List.setIfInBounds_toArray, List.set_cons_zero, List.set_cons_succ]
            refine wpAnyH_ready (rs := [8]) (by kernel_rfl) (by simp) ?_
            refine AllReadyH.cons rfl (fun K hK => ?_) AllReadyH.nil
            · go_simp
              have hb19 : Below X.heap.size X (w18.alloc (.cells #[.bool false, .string ⟨#[]⟩] 28)) := hb18.alloc hb18.size _
              refine hK.out _ _ (HS.out _ hb19) (fun _ => ?_)
              clear hK K
              have f19_8 := BoxAt.new w18 (.bool false) (.string ⟨#[]⟩) 28
              have f19_9 := BoxAt.below f18_9 ((Below.refl w18.heap.size w18).alloc (Nat.le_refl _) (.cells #[.bool false, .string ⟨#[]⟩] 28)) (f18_9).2.2.2.2
              have lA := hb18.size
              obtain ⟨gA, hgA⟩ : ∃ g, w18.heap.size = g := ⟨_, rfl⟩
              obtain ⟨w19, hw19⟩ : ∃ Y, w18.alloc (.cells #[.bool false, .string ⟨#[]⟩] 28) = Y := ⟨_, rfl⟩
              rw [hw19] at hb19 f19_9 f19_8 ⊢
              rw [hgA] at lA f19_8 ⊢
              have hne : gA ≠ gB := by have := (f18_9).2.2.2.2; omega
              try simp only [Act.put, List.getElem_toArray, List.getElem_cons_zero, List.getElem_cons_succ, List.setIfInBounds_toArray, List.set_cons_zero, List.set_cons_succ]
              refine wpAnyH_ready (rs := [10]) (by kernel_rfl) (by simp) ?_
              refine AllReadyH.cons rfl (fun K hK => ?_) AllReadyH.nil
              obtain ⟨z0, z1, z2, z3, z4⟩ := id f19_8
              go_simp
              have hs1 := (hb19.setCell (p := ⟨gA, 0, none⟩) lA (.bool Q.neg)).setCell (p := ⟨gA, 1, none⟩) lA (.string Q.mag)
              refine hK.out _ _ (HS.out _ hs1) (fun _ => ?_)
              clear hK K z0 z1 z2 z3 z4
              have eA := boxp_set f19_8 (.bool Q.neg) (.string Q.mag)
              have eB := boxp_far (boxp_far f19_9 (p := ⟨gA, 0, none⟩) hne.symm (.bool Q.neg)) (p := ⟨gA, 1, none⟩) hne.symm (.string Q.mag)
              try simp only [Act.put, List.getElem_toArray, List.getElem_cons_zero, List.getElem_cons_succ, List.setIfInBounds_toArray, List.set_cons_zero, List.set_cons_succ]
              refine wpAnyH_ready (rs := [11]) (by kernel_rfl) (by simp) ?_
              refine AllReadyH.cons rfl (fun K hK => ?_) AllReadyH.nil
              obtain ⟨z0, z1, z2, z3, z4⟩ := id eB
              go_simp
              have hs2 := (hs1.setCell (p := ⟨gB, 0, none⟩) lB (.bool R.neg)).setCell (p := ⟨gB, 1, none⟩) lB (.string R.mag)
              refine hK.out _ _ (HS.out _ hs2) (fun _ => ?_)
              clear hK K z0 z1 z2 z3 z4
              have eA2 := boxp_far (boxp_far eA (p := ⟨gB, 0, none⟩) hne (.bool R.neg)) (p := ⟨gB, 1, none⟩) hne (.string R.mag)
              try simp only [Act.put, List.getElem_toArray, List.getElem_cons_zero, List.getElem_cons_succ, List.setIfInBounds_toArray, List.set_cons_zero, List.set_cons_succ]
              refine wpAnyH_take (i := 12) (v := ?_) rfl (by kernel_rfl) (by kernel_rfl) (by kernel_rfl) (fun _ _ _ h => h) (Or.inl ⟨by rfl, ?_⟩) (HS.out _ hs2) ?_
              rotate_left 1
              next => intro w hSw; rw [hSe] at hSw; obtain ⟨s1, s2⟩ := hSw; go_simp; try with_reducible rfl
              try simp only [Act.put, List.getElem_toArray, List.getElem_cons_zero, List.getElem_cons_succ, List.setIfInBounds_toArray, List.set_cons_zero, List.set_cons_succ]
              refine wpAnyH_done (by kernel_rfl) ?_ _
              go_wp2_with fail
              go_meet
              exact ⟨gA, rfl, Lib.hid lA, Lib.hid eA2, Lib.hid hs2⟩
        · go_simp
          have hb20 : Below X.heap.size X (w14.alloc (.cells #[.bool false, .string ⟨#[]⟩] 28)) := hb14.alloc hb14.size _
          refine hK.out _ _ (HS.out _ hb20) (fun _ => ?_)
          clear hK K
          have f20_8 := BoxAt.new w14 (.bool false) (.string ⟨#[]⟩) 28
          have lA := hb14.size
          obtain ⟨gA, hgA⟩ : ∃ g, w14.heap.size = g := ⟨_, rfl⟩
          obtain ⟨w20, hw20⟩ : ∃ Y, w14.alloc (.cells #[.bool false, .string ⟨#[]⟩] 28) = Y := ⟨_, rfl⟩
          rw [hw20] at hb20 f20_8 ⊢
          rw [hgA] at lA f20_8 ⊢
          try simp only [Act.put, List.getElem_toArray, List.getElem_cons_zero, List.getElem_cons_succ, List.setIfInBounds_toArray, List.set_cons_zero, List.set_cons_succ]
          refine wpAnyH_ready (rs := [3, 9]) (by kernel_rfl) (by simp) ?_
          refine AllReadyH.cons rfl (fun K hK => ?_) (AllReadyH.cons rfl (fun K hK => ?_) AllReadyH.nil)
          · go_simp
            refine (HDv.out _).mono ?_
            rintro e w21 ⟨rfl, hbc⟩
            have hb21 : Below X.heap.size X w21 := hb20.trans (hbc.mono hb20.size)
            dsimp only
            refine hK.out _ _ (HS.out _ hb21) (fun _ => ?_)
            have f21_8 := BoxAt.below f20_8 hbc (f20_8).2.2.2.2
            clear hK K hbc
            refine wpAnyH_take (i := 4) (v := ?_) rfl (by kernel_rfl) (by kernel_rfl) (by kernel_rfl) (fun _ _ _ h => h) (Or.inl ⟨by rfl, ?_⟩) (HS.out _ hb21) ?_
            rotate_left 1
            next => intro w hSw; rw [hSe] at hSw; obtain ⟨s1, s2⟩ := hSw; go_simp; try with_reducible rfl
            refine wpAnyH_take (i := 5) (v := ?_) rfl (by kernel_rfl) (by kernel_rfl) (by kernel_rfl) (fun _ _ _ h => h) (Or.inl ⟨by rfl, ?_⟩) (HS.out _ hb21) ?_
            rotate_left 1
            next => intro w hSw; rw [hSe] at hSw; obtain ⟨s1, s2⟩ := hSw; go_simp; try with_reducible rfl
            refine wpAnyH_take (i := 6) (v := ?_) rfl (by kernel_rfl) (by kernel_rfl) (by kernel_rfl) (fun _ _ _ h => h) (Or.inl ⟨by rfl, ?_⟩) (HS.out _ hb21) ?_
            rotate_left 1
            next => intro w hSw; rw [hSe] at hSw; obtain ⟨s1, s2⟩ := hSw; go_simp; try with_reducible rfl
            refine wpAnyH_take (i := 7) (v := ?_) rfl (by kernel_rfl) (by kernel_rfl) (by kernel_rfl) (fun _ _ _ h => h) (Or.inl ⟨by rfl, ?_⟩) (HS.out _ hb21) ?_
            rotate_left 1
            next => intro w hSw; rw [hSe] at hSw; obtain ⟨s1, s2⟩ := hSw; go_simp; try with_reducible rfl
            try simp only [Act.put, List.getElem_toArray, List.getElem_cons_zero, List.getElem_cons_succ, List.setIfInBounds_toArray, List.set_cons_zero, List.set_cons_succ]
            refine wpAnyH_ready (rs := [9]) (by kernel_rfl) (by simp) ?_
            refine AllReadyH.cons rfl (fun K hK => ?_) AllReadyH.nil
            · go_simp
              have hb22 : Below X.heap.size X (w21.alloc (.cells #[.bool false, .string ⟨#[]⟩] 28)) := hb21.alloc hb21.size _
              refine hK.out _ _ (HS.out _ hb22) (fun _ => ?_)
              clear hK K
              have f22_9 := BoxAt.new w21 (.bool false) (.string ⟨#[]⟩) 28
              have f22_8 := BoxAt.below f21_8 ((Below.refl w21.heap.size w21).alloc (Nat.le_refl _) (.cells #[.bool false, .string ⟨#[]⟩] 28)) (f21_8).2.2.2.2
              have lB := hb21.size
              obtain ⟨gB, hgB⟩ : ∃ g, w21.heap.size = g := ⟨_, rfl⟩
              obtain ⟨w22, hw22⟩ : ∃ Y, w21.alloc (.cells #[.bool false, .string ⟨#[]⟩] 28) = Y := ⟨_, rfl⟩
              rw [hw22] at hb22 f22_8 f22_9 ⊢
              rw [hgB] at lB f22_9 ⊢
              have hne : gA ≠ gB := by have := (f21_8).2.2.2.2; omega
              try simp only [Act.put, List.getElem_toArray, List.getElem_cons_zero, List.getElem_cons_succ, List.setIfInBounds_toArray, List.set_cons_zero, List.set_cons_succ]
              refine wpAnyH_ready (rs := [10]) (by kernel_rfl) (by simp) ?_
              refine AllReadyH.cons rfl (fun K hK => ?_) AllReadyH.nil
              obtain ⟨z0, z1, z2, z3, z4⟩ := id f22_8
              go_simp
              have hs1 := (hb22.setCell (p := ⟨gA, 0, none⟩) lA (.bool Q.neg)).setCell (p := ⟨gA, 1, none⟩) lA (.string Q.mag)
              refine hK.out _ _ (HS.out _ hs1) (fun _ => ?_)
              clear hK K z0 z1 z2 z3 z4
              have eA := boxp_set f22_8 (.bool Q.neg) (.string Q.mag)
              have eB := boxp_far (boxp_far f22_9 (p := ⟨gA, 0, none⟩) hne.symm (.bool Q.neg)) (p := ⟨gA, 1, none⟩) hne.symm (.string Q.mag)
              try simp only [Act.put, List.getElem_toArray, List.getElem_cons_zero, List.getElem_cons_succ, List.setIfInBounds_toArray, List.set_cons_zero, List.set_cons_succ]
              refine wpAnyH_ready (rs := [11]) (by kernel_rfl) (by simp) ?_
              refine AllReadyH.cons rfl (fun K hK => ?_) AllReadyH.nil
              obtain ⟨z0, z1, z2, z3, z4⟩ := id eB
              go_simp
              have hs2 := (hs1.setCell (p := ⟨gB, 0, none⟩) lB (.bool R.neg)).setCell (p := ⟨gB, 1, none⟩) lB (.string R.mag)
              refine hK.out _ _ (HS.out _ hs2) (fun _ => ?_)
              clear hK K z0 z1 z2 z3 z4
              have eA2 := boxp_far (boxp_far eA (p := ⟨gB, 0, none⟩) hne (.bool R.neg)) (p := ⟨gB, 1, none⟩) hne (.string R.mag)
              try simp only [Act.put, List.getElem_toArray, List.getElem_cons_zero, List.getElem_cons_succ, List.setIfInBounds_toArray, List.set_cons_zero, List.set_cons_succ]
              refine wpAnyH_take (i := 12) (v := ?_) rfl (by kernel_rfl) (by kernel_rfl) (by kernel_rfl) (fun _ _ _ h => h) (Or.inl ⟨by rfl, ?_⟩) (HS.out _ hs2) ?_
              rotate_left 1
              next => intro w hSw; rw [hSe] at hSw; obtain ⟨s1, s2⟩ := hSw; go_simp; try with_reducible rfl
              try simp only [Act.put, List.getElem_toArray, List.getElem_cons_zero, List.getElem_cons_succ, List.setIfInBounds_toArray, List.set_cons_zero, List.set_cons_succ]
              refine wpAnyH_done (by kernel_rfl) ?_ _
              go_wp2_with fail
              go_meet
              exact ⟨gA, rfl, Lib.hid lA, Lib.hid eA2, Lib.hid hs2⟩
          · go_simp
            have hb23 : Below X.heap.size X (w20.alloc (.cells #[.bool false, .string ⟨#[]⟩] 28)) := hb20.alloc hb20.size _
            refine hK.out _ _ (HS.out _ hb23) (fun _ => ?_)
            clear hK K
            have f23_9 := BoxAt.new w20 (.bool false) (.string ⟨#[]⟩) 28
            have f23_8 := BoxAt.below f20_8 ((Below.refl w20.heap.size w20).alloc (Nat.le_refl _) (.cells #[.bool false, .string ⟨#[]⟩] 28)) (f20_8).2.2.2.2
            have lB := hb20.size
            obtain ⟨gB, hgB⟩ : ∃ g, w20.heap.size = g := ⟨_, rfl⟩
            obtain ⟨w23, hw23⟩ : ∃ Y, w20.alloc (.cells #[.bool false, .string ⟨#[]⟩] 28) = Y := ⟨_, rfl⟩
            rw [hw23] at hb23 f23_8 f23_9 ⊢
            rw [hgB] at lB f23_9 ⊢
            have hne : gA ≠ gB := by have := (f20_8).2.2.2.2; omega
            try simp only [Act.put, List.getElem_toArray, List.getElem_cons_zero, List.getElem_cons_succ, List.setIfInBounds_toArray, List.set_cons_zero, List.set_cons_succ]
            refine wpAnyH_ready (rs := [3]) (by kernel_rfl) (by simp) ?_
            refine AllReadyH.cons rfl (fun K hK => ?_) AllReadyH.nil
            · go_simp
              refine (HDv.out _).mono ?_
              rintro e w24 ⟨rfl, hbc⟩
              have hb24 : Below X.heap.size X w24 := hb23.trans (hbc.mono hb23.size)
              dsimp only
              refine hK.out _ _ (HS.out _ hb24) (fun _ => ?_)
              have f24_8 := BoxAt.below f23_8 hbc (f23_8).2.2.2.2
              have f24_9 := BoxAt.below f23_9 hbc (f23_9).2.2.2.2
              clear hK K hbc
              refine wpAnyH_take (i := 4) (v := ?_) rfl (by kernel_rfl) (by kernel_rfl) (by kernel_rfl) (fun _ _ _ h => h) (Or.inl ⟨by rfl, ?_⟩) (HS.out _ hb24) ?_
              rotate_left 1
              next => intro w hSw; rw [hSe] at hSw; obtain ⟨s1, s2⟩ := hSw; go_simp; try with_reducible rfl
              refine wpAnyH_take (i := 5) (v := ?_) rfl (by kernel_rfl) (by kernel_rfl) (by kernel_rfl) (fun _ _ _ h => h) (Or.inl ⟨by rfl, ?_⟩) (HS.out _ hb24) ?_
              rotate_left 1
              next => intro w hSw; rw [hSe] at hSw; obtain ⟨s1, s2⟩ := hSw; go_simp; try with_reducible rfl
              refine wpAnyH_take (i := 6) (v := ?_) rfl (by kernel_rfl) (by kernel_rfl) (by kernel_rfl) (fun _ _ _ h => h) (Or.inl ⟨by rfl, ?_⟩) (HS.out _ hb24) ?_
              rotate_left 1
              next => intro w hSw; rw [hSe] at hSw; obtain ⟨s1, s2⟩ := hSw; go_simp; try with_reducible rfl
              refine wpAnyH_take (i := 7) (v := ?_) rfl (by kernel_rfl) (by kernel_rfl) (by kernel_rfl) (fun _ _ _ h => h) (Or.inl ⟨by rfl, ?_⟩) (HS.out _ hb24) ?_
              rotate_left 1
              next => intro w hSw; rw [hSe] at hSw; obtain ⟨s1, s2⟩ := hSw; go_simp; try with_reducible rfl
              try simp only [Act.put, List.getElem_toArray, List.getElem_cons_zero, List.getElem_cons_succ, List.setIfInBounds_toArray, List.set_cons_zero, List.set_cons_succ]
              refine wpAnyH_ready (rs := [10]) (by kernel_rfl) (by simp) ?_
              refine AllReadyH.cons rfl (fun K hK => ?_) AllReadyH.nil
              obtain ⟨z0, z1, z2, z3, z4⟩ := id f24_8
              go_simp
              have hs1 := (hb24.setCell (p := ⟨gA, 0, none⟩) lA (.bool Q.neg)).setCell (p := ⟨gA, 1, none⟩) lA (.string Q.mag)
              refine hK.out _ _ (HS.out _ hs1) (fun _ => ?_)
              clear hK K z0 z1 z2 z3 z4
              have eA := boxp_set f24_8 (.bool Q.neg) (.string Q.mag)
              have eB := boxp_far (boxp_far f24_9 (p := ⟨gA, 0, none⟩) hne.symm (.bool Q.neg)) (p := ⟨gA, 1, none⟩) hne.symm (.string Q.mag)
              try simp only [Act.put, List.getElem_toArray, List.getElem_cons_zero, List.getElem_cons_succ, List.setIfInBounds_toArray, List.set_cons_zero, List.set_cons_succ]
              refine wpAnyH_ready (rs := [11]) (by kernel_rfl) (by simp) ?_
              refine AllReadyH.cons rfl (fun K hK => ?_) AllReadyH.nil
              obtain ⟨z0, z1, z2, z3, z4⟩ := id eB
              go_simp
              have hs2 := (hs1.setCell (p := ⟨gB, 0, none⟩) lB (.bool R.neg)).setCell (p := ⟨gB, 1, none⟩) lB (.string R.mag)
              refine hK.out _ _ (HS.out _ hs2) (fun _ => ?_)
              clear hK K z0 z1 z2 z3 z4
              have eA2 := boxp_far (boxp_far eA (p := ⟨gB, 0, none⟩) hne (.bool R.neg)) (p := ⟨gB, 1, none⟩) hne (.string R.mag)
              try simp only [Act.put, List.getElem_toArray, List.getElem_cons_zero, List.getElem_cons_succ, List.setIfInBounds_toArray, List.set_cons_zero, List.set_cons_succ]
              refine wpAnyH_take (i := 12) (v := ?_) rfl (by kernel_rfl) (by kernel_rfl) (by kernel_rfl) (fun _ _ _ h => h) (Or.inl ⟨by rfl, ?_⟩) (HS.out _ hs2) ?_
              rotate_left 1
              next => intro w hSw; rw [hSe] at hSw; obtain ⟨s1, s2⟩ := hSw; go_simp; try with_reducible rfl
              try simp only [Act.put, List.getElem_toArray, List.getElem_cons_zero, List.getElem_cons_succ, List.setIfInBounds_toArray, List.set_cons_zero, List.set_cons_succ]
              refine wpAnyH_done (by kernel_rfl) ?_ _
              go_wp2_with fail
              go_meet
              exact ⟨gA, rfl, Lib.hid lA, Lib.hid eA2, Lib.hid hs2⟩
        · go_simp
          have hb25 : Below X.heap.size X (w14.alloc (.cells #[.bool false, .string ⟨#[]⟩] 28)) := hb14.alloc hb14.size _
          refine hK.out _ _ (HS.out _ hb25) (fun _ => ?_)
          clear hK K
          have f25_9 := BoxAt.new w14 (.bool false) (.string ⟨#[]⟩) 28
          have lB := hb14.size
          obtain ⟨gB, hgB⟩ : ∃ g, w14.heap.size = g := ⟨_, rfl⟩
          obtain ⟨w25, hw25⟩ : ∃ Y, w14.alloc (.cells #[.bool false, .string ⟨#[]⟩] 28) = Y := ⟨_, rfl⟩
          rw [hw25] at hb25 f25_9 ⊢
          rw [hgB] at lB f25_9 ⊢
          try simp only [Act.put, List.getElem_toArray, List.getElem_cons_zero, List.getElem_cons_succ, List.setIfInBounds_toArray, List.set_cons_zero, List.set_cons_succ]
          refine wpAnyH_ready (rs := [3, 8]) (by kernel_rfl) (by simp) ?_
          refine AllReadyH.cons rfl (fun K hK => ?_) (AllReadyH.cons rfl (fun K hK => ?_) AllReadyH.nil)
          · go_simp
            refine (HDv.out _).mono ?_
            rintro e w26 ⟨rfl, hbc⟩
            have hb26 : Below X.heap.size X w26 := hb25.trans (hbc.mono hb25.size)
            dsimp only
            refine hK.out _ _ (HS.out _ hb26) (fun _ => ?_)
            have f26_9 := BoxAt.below f25_9 hbc (f25_9).2.2.2.2
            clear hK K hbc
            refine wpAnyH_take (i := 4) (v := ?_) rfl (by kernel_rfl) (by kernel_rfl) (by kernel_rfl) (fun _ _ _ h => h) (Or.inl ⟨by rfl, ?_⟩) (HS.out _ hb26) ?_
            rotate_left 1
            next => intro w hSw; rw [hSe] at hSw; obtain ⟨s1, s2⟩ := hSw; go_simp; try with_reducible rfl
            refine wpAnyH_take (i := 5) (v := ?_) rfl (by kernel_rfl) (by kernel_rfl) (by kernel_rfl) (fun _ _ _ h => h) (Or.inl ⟨by rfl, ?_⟩) (HS.out _ hb26) ?_
            rotate_left 1
            next => intro w hSw; rw [hSe] at hSw; obtain ⟨s1, s2⟩ := hSw; go_simp; try with_reducible rfl
            refine wpAnyH_take (i := 6) (v := ?_) rfl (by kernel_rfl) (by kernel_rfl) (by kernel_rfl) (fun _ _ _ h => h) (Or.inl ⟨by rfl, ?_⟩) (HS.out _ hb26) ?_
            rotate_left 1
            next => intro w hSw; rw [hSe] at hSw; obtain ⟨s1, s2⟩ := hSw; go_simp; try with_reducible rfl
            refine wpAnyH_take (i := 7) (v := ?_) rfl (by kernel_rfl) (by kernel_rfl) (by kernel_rfl) (fun _ _ _ h => h) (Or.inl ⟨by rfl, ?_⟩) (HS.out _ hb26) ?_
            rotate_left 1
            next => intro w hSw; rw [hSe] at hSw; obtain ⟨s1, s2⟩ := hSw; go_simp; try with_reducible rfl
            try simp only [Act.put, List.getElem_toArray, List.getElem_cons_zero, List.getElem_cons_succ, List.setIfInBounds_toArray, List.set_cons_zero, List.set_cons_succ]
            refine wpAnyH_ready (rs := [8]) (by kernel_rfl) (by simp) ?_
            refine AllReadyH.cons rfl (fun K hK => ?_) AllReadyH.nil
            · go_simp
              have hb27 : Below X.heap.size X (w26.alloc (.cells #[.bool false, .string ⟨#[]⟩] 28)) := hb26.alloc hb26.size _
              refine hK.out _ _ (HS.out _ hb27) (fun _ => ?_)
              clear hK K
              have f27_8 := BoxAt.new w26 (.bool false) (.string ⟨#[]⟩) 28
              have f27_9 := BoxAt.below f26_9 ((Below.refl w26.heap.size w26).alloc (Nat.le_refl _) (.cells #[.bool false, .string ⟨#[]⟩] 28)) (f26_9).2.2.2.2
              have lA := hb26.size
              obtain ⟨gA, hgA⟩ : ∃ g, w26.heap.size = g := ⟨_, rfl⟩
              obtain ⟨w27, hw27⟩ : ∃ Y, w26.alloc (.cells #[.bool false, .string ⟨#[]⟩] 28) = Y := ⟨_, rfl⟩
              rw [hw27] at hb27 f27_9 f27_8 ⊢
              rw [hgA] at lA f27_8 ⊢
              have hne : gA ≠ gB := by have := (f26_9).2.2.2.2; omega
              try simp only [Act.put, List.getElem_toArray, List.getElem_cons_zero, List.getElem_cons_succ, List.setIfInBounds_toArray, List.set_cons_zero, List.set_cons_succ]
              refine wpAnyH_ready (rs := [10]) (by kernel_rfl) (by simp) ?_
              refine AllReadyH.cons rfl (fun K hK => ?_) AllReadyH.nil
              obtain ⟨z0, z1, z2, z3, z4⟩ := id f27_8
              go_simp
              have hs1 := (hb27.setCell (p := ⟨gA, 0, none⟩) lA (.bool Q.neg)).setCell (p := ⟨gA, 1, none⟩) lA (.string Q.mag)
              refine hK.out _ _ (HS.out _ hs1) (fun _ => ?_)
              clear hK K z0 z1 z2 z3 z4
              have eA := boxp_set f27_8 (.bool Q.neg) (.string Q.mag)
              have eB := boxp_far (boxp_far f27_9 (p := ⟨gA, 0, none⟩) hne.symm (.bool Q.neg)) (p := ⟨gA, 1, none⟩) hne.symm (.string Q.mag)
              try simp only [Act.put, List.getElem_toArray, List.getElem_cons_zero, List.getElem_cons_succ, List.setIfInBounds_toArray, List.set_cons_zero, List.set_cons_succ]
              refine wpAnyH_ready (rs := [11]) (by kernel_rfl) (by simp) ?_
              refine AllReadyH.cons rfl (fun K hK => ?_) AllReadyH.nil
              obtain ⟨z0, z1, z2, z3, z4⟩ := id eB
              go_simp
              have hs2 := (hs1.setCell (p := ⟨gB, 0, none⟩) lB (.bool R.neg)).setCell (p := ⟨gB, 1, none⟩) lB (.string R.mag)
              refine hK.out _ _ (HS.out _ hs2) (fun _ => ?_)
              clear hK K z0 z1 z2 z3 z4
              have eA2 := boxp_far (boxp_far eA (p := ⟨gB, 0, none⟩) hne (.bool R.neg)) (p := ⟨gB, 1, none⟩) hne (.string R.mag)
              try simp only [Act.put, List.getElem_toArray, List.getElem_cons_zero, List.getElem_cons_succ, List.setIfInBounds_toArray, List.set_cons_zero, List.set_cons_succ]
              refine wpAnyH_take (i := 12) (v := ?_) rfl (by kernel_rfl) (by kernel_rfl) (by kernel_rfl) (fun _ _ _ h => h) (Or.inl ⟨by rfl, ?_⟩) (HS.out _ hs2) ?_
              rotate_left 1
              next => intro w hSw; rw [hSe] at hSw; obtain ⟨s1, s2⟩ := hSw; go_simp; try with_reducible rfl
              try simp only [Act.put, List.getElem_toArray, List.getElem_cons_zero, List.getElem_cons_succ, List.setIfInBounds_toArray, List.set_cons_zero, List.set_cons_succ]
              refine wpAnyH_done (by kernel_rfl) ?_ _
              go_wp2_with fail
              go_meet
              exact ⟨gA, rfl, Lib.hid lA, Lib.hid eA2, Lib.hid hs2⟩
          · go_simp
            have hb28 : Below X.heap.size X (w25.alloc (.cells #[.bool false, .string ⟨#[]⟩] 28)) := hb25.alloc hb25.size _
            refine hK.out _ _ (HS.out _ hb28) (fun _ => ?_)
            clear hK K
            have f28_8 := BoxAt.new w25 (.bool false) (.string ⟨#[]⟩) 28
            have f28_9 := BoxAt.below f25_9 ((Below.refl w25.heap.size w25).alloc (Nat.le_refl _) (.cells #[.bool false, .string ⟨#[]⟩] 28)) (f25_9).2.2.2.2
            have lA := hb25.size
            obtain ⟨gA, hgA⟩ : ∃ g, w25.heap.size = g := ⟨_, rfl⟩
            obtain ⟨w28, hw28⟩ : ∃ Y, w25.alloc (.cells #[.bool false, .string ⟨#[]⟩] 28) = Y := ⟨_, rfl⟩
            rw [hw28] at hb28 f28_9 f28_8 ⊢
            rw [hgA] at lA f28_8 ⊢
            have hne : gA ≠ gB := by have := (f25_9).2.2.2.2; omega
            try simp only [Act.put, List.getElem_toArray, List.getElem_cons_zero, List.getElem_cons_succ, List.setIfInBounds_toArray, List.set_cons_zero, List.set_cons_succ]
            refine wpAnyH_ready (rs := [3]) (by kernel_rfl) (by simp) ?_
            refine AllReadyH.cons rfl (fun K hK => ?_) AllReadyH.nil
            · go_simp
              refine (HDv.out _).mono ?_
              rintro e w29 ⟨rfl, hbc⟩
              have hb29 : Below X.heap.size X w29 := hb28.trans (hbc.mono hb28.size)
              dsimp only
              refine hK.out _ _ (HS.out _ hb29) (fun _ => ?_)
              have f29_9 := BoxAt.below f28_9 hbc (f28_9).2.2.2.2
              have f29_8 := BoxAt.below f28_8 hbc (f28_8).2.2.2.2
              clear hK K hbc
              refine wpAnyH_take (i := 4) (v := ?_) rfl (by kernel_rfl) (by kernel_rfl) (by kernel_rfl) (fun _ _ _ h => h) (Or.inl ⟨by rfl, ?_⟩) (HS.out _ hb29) ?_
              rotate_left 1
              next => intro w hSw; rw [hSe] at hSw; obtain ⟨s1, s2⟩ := hSw; go_simp; try with_reducible rfl
              refine wpAnyH_take (i := 5) (v := ?_) rfl (by kernel_rfl) (by kernel_rfl) (by kernel_rfl) (fun _ _ _ h => h) (Or.inl ⟨by rfl, ?_⟩) (HS.out _ hb29) ?_
              rotate_left 1
              next => intro w hSw; rw [hSe] at hSw; obtain ⟨s1, s2⟩ := hSw; go_simp; try with_reducible rfl
              refine wpAnyH_take (i := 6) (v := ?_) rfl (by kernel_rfl) (by kernel_rfl) (by kernel_rfl) (fun _ _ _ h => h) (Or.inl ⟨by rfl, ?_⟩) (HS.out _ hb29) ?_
              rotate_left 1
              next => intro w hSw; rw [hSe] at hSw; obtain ⟨s1, s2⟩ := hSw; go_simp; try with_reducible rfl
              refine wpAnyH_take (i := 7) (v := ?_) rfl (by kernel_rfl) (by kernel_rfl) (by kernel_rfl) (fun _ _ _ h => h) (Or.inl ⟨by rfl, ?_⟩) (HS.out _ hb29) ?_
              rotate_left 1
              next => intro w hSw; rw [hSe] at hSw; obtain ⟨s1, s2⟩ := hSw; go_simp; try with_reducible rfl
              try simp only [Act.put, List.getElem_toArray, List.getElem_cons_zero, List.getElem_cons_succ, List.setIfInBounds_toArray, List.set_cons_zero, List.set_cons_succ]
              refine wpAnyH_ready (rs := [10]) (by kernel_rfl) (by simp) ?_
              refine AllReadyH.cons rfl (fun K hK => ?_) AllReadyH.nil
              obtain ⟨z0, z1, z2, z3, z4⟩ := id f29_8
              go_simp
              have hs1 := (hb29.setCell (p := ⟨gA, 0, none⟩) lA (.bool Q.neg)).setCell (p := ⟨gA, 1, none⟩) lA (.string Q.mag)
              refine hK.out _ _ (HS.out _ hs1) (fun _ => ?_)
              clear hK K z0 z1 z2 z3 z4
              have eA := boxp_set f29_8 (.bool Q.neg) (.string Q.mag)
              have eB := boxp_far (boxp_far f29_9 (p := ⟨gA, 0, none⟩) hne.symm (.bool Q.neg)) (p := ⟨gA, 1, none⟩) hne.symm (.string Q.mag)
              try simp only [Act.put, List.getElem_toArray, List.getElem_cons_zero, List.getElem_cons_succ, List.setIfInBounds_toArray, List.set_cons_zero, List.set_cons_succ]
              refine wpAnyH_ready (rs := [11]) (by kernel_rfl) (by simp) ?_
              refine AllReadyH.cons rfl (fun K hK => ?_) AllReadyH.nil
              obtain ⟨z0, z1, z2, z3, z4⟩ := id eB
              go_simp
              have hs2 := (hs1.setCell (p := ⟨gB, 0, none⟩) lB (.bool R.neg)).setCell (p := ⟨gB, 1, none⟩) lB (.string R.mag)
              refine hK.out _ _ (HS.out _ hs2) (fun _ => ?_)
              clear hK K z0 z1 z2 z3 z4
              have eA2 := boxp_far (boxp_far eA (p := ⟨gB, 0, none⟩) hne (.bool R.neg)) (p := ⟨gB, 1, none⟩) hne (.string R.mag)
              try simp only [Act.put, List.getElem_toArray, List.getElem_cons_zero, List.getElem_cons_succ, List.setIfInBounds_toArray, List.set_cons_zero, List.set_cons_succ]
              refine wpAnyH_take (i := 12) (v := ?_) rfl (by kernel_rfl) (by kernel_rfl) (by kernel_rfl) (fun _ _ _ h => h) (Or.inl ⟨by rfl, ?_⟩) (HS.out _ hs2) ?_
              rotate_left 1
              next => intro w hSw; rw [hSe] at hSw; obtain ⟨s1, s2⟩ := hSw; go_simp; try with_reducible rfl
              try simp only [Act.put, List.getElem_toArray, List.getElem_cons_zero, List.getElem_cons_succ, List.setIfInBounds_toArray, List.set_cons_zero, List.set_cons_succ]
              refine wpAnyH_done (by kernel_rfl) ?_ _
              go_wp2_with fail
              go_meet
              exact ⟨gA, rfl, Lib.hid lA, Lib.hid eA2, Lib.hid hs2⟩
      · go_simp
        have hb30 : Below X.heap.size X (w0.alloc (.cells #[.bool false, .string ⟨#[]⟩] 28)) := hd.alloc hd.size _
        refine hK.out _ _ (HS.out _ hb30) (fun _ => ?_)
        clear hK K
        have f30_8 := BoxAt.new w0 (.bool false) (.string ⟨#[]⟩) 28
        have lA := hd.size
        obtain ⟨gA, hgA⟩ : ∃ g, w0.heap.size = g := ⟨_, rfl⟩
        obtain ⟨w30, hw30⟩ : ∃ Y, w0.alloc (.cells #[.bool false, .string ⟨#[]⟩] 28) = Y := ⟨_, rfl⟩
        rw [hw30] at hb30 f30_8 ⊢
        rw [hgA] at lA f30_8 ⊢
        try simp only [Act.put, List.getElem_toArray, List.getElem_cons_zero, List.getElem_cons_succ, List.setIfInBounds_toArray, List.set_cons_zero, List.set_cons_succ]
        refine wpAnyH_ready (rs := [2, 9]) (by kernel_rfl) (by simp) ?_
        refine AllReadyH.cons rfl (fun K hK => ?_) (AllReadyH.cons rfl (fun K hK => ?_) AllReadyH.nil)
        · go_simp
          refine (HOf.out _).mono ?_
          rintro e w31 ⟨rfl, hbc⟩
          have hb31 : Below X.heap.size X w31 := hb30.trans (hbc.mono hb30.size)
          dsimp only
          refine hK.out _ _ (HS.out _ hb31) (fun _ => ?_)
          have f31_8 := BoxAt.below f30_8 hbc (f30_8).2.2.2.2
          clear hK K hbc
          try simp only [Act.put, List.getElem_toArray, List.getElem_cons_zero, List.getElem_cons_succ, List.setIfInBounds_toArray, List.set_cons_zero, List.set_cons_succ]
          refine wpAnyH_ready (rs := [3, 9]) (by kernel_rfl) (by simp) ?_
          refine AllReadyH.cons rfl (fun K hK => ?_) (AllReadyH.cons rfl (fun K hK => ?_) AllReadyH.nil)
          · go_simp
            refine (HDv.out _).mono ?_
            rintro e w32 ⟨rfl, hbc⟩
            have hb32 : Below X.heap.size X w32 := hb31.trans (hbc.mono hb31.size)
            dsimp only
            refine hK.out _ _ (HS.out _ hb32) (fun _ => ?_)
            have f32_8 := BoxAt.below f31_8 hbc (f31_8).2.2.2.2
            clear hK K hbc
            refine wpAnyH_take (i := 4) (v := ?_) rfl (by kernel_rfl) (by kernel_rfl) (by kernel_rfl) (fun _ _ _ h => h) (Or.inl ⟨by rfl, ?_⟩) (HS.out _ hb32) ?_
            rotate_left 1
            next => intro w hSw; rw [hSe] at hSw; obtain ⟨s1, s2⟩ := hSw; go_simp; try with_reducible rfl
            refine wpAnyH_take (i := 5) (v := ?_) rfl (by kernel_rfl) (by kernel_rfl) (by kernel_rfl) (fun _ _ _ h => h) (Or.inl ⟨by rfl, ?_⟩) (HS.out _ hb32) ?_
            rotate_left 1
            next => intro w hSw; rw [hSe] at hSw; obtain ⟨s1, s2⟩ := hSw; go_simp; try with_reducible rfl
            refine wpAnyH_take (i := 6) (v := ?_) rfl (by kernel_rfl) (by kernel_rfl) (by kernel_rfl) (fun _ _ _ h => h) (Or.inl ⟨by rfl, ?_⟩) (HS.out _ hb32) ?_
            rotate_left 1
            next => intro w hSw; rw [hSe] at hSw; obtain ⟨s1, s2⟩ := hSw; go_simp; try with_reducible rfl
            refine wpAnyH_take (i := 7) (v := ?_) rfl (by kernel_rfl) (by kernel_rfl) (by kernel_rfl) (fun _ _ _ h => h) (Or.inl ⟨by rfl, ?_⟩) (HS.out _ hb32) ?_
            rotate_left 1
            next => intro w hSw; rw [hSe] at hSw; obtain ⟨s1, s2⟩ := hSw; go_simp; try with_reducible rfl
            try simp only [Act.put, List.getElem_toArray, List.getElem_cons_zero, List.getElem_cons_succ, List.setIfInBounds_toArray, List.set_cons_zero, List.set_cons_succ]
            refine wpAnyH_ready (rs := [9]) (by kernel_rfl) (by simp) ?_
            refine AllReadyH.cons rfl (fun K hK => ?_) AllReadyH.nil
            · go_simp
              have hb33 : Below X.heap.size X (w32.alloc (.cells #[.bool false, .string ⟨#[]⟩] 28)) := hb32.alloc hb32.size _
              refine hK.out _ _ (HS.out _ hb33) (fun _ => ?_)
              clear hK K
              have f33_9 := BoxAt.new w32 (.bool false) (.string ⟨#[]⟩) 28
              have f33_8 := BoxAt.below f32_8 ((Below.refl w32.heap.size w32).alloc (Nat.le_refl _) (.cells #[.bool false, .string ⟨#[]⟩] 28)) (f32_8).2.2.2.2
              have lB := hb32.size
              obtain ⟨gB, hgB⟩ : ∃ g, w32.heap.size = g := ⟨_, rfl⟩
              obtain ⟨w33, hw33⟩ : ∃ Y, w32.alloc (.cells #[.bool false, .string ⟨#[]⟩] 28) = Y := ⟨_, rfl⟩
              rw [hw33] at hb33 f33_8 f33_9 ⊢
              rw [hgB] at lB f33_9 ⊢
              have hne : gA ≠ gB := by have := (f32_8).2.2.2.2; omega
              try simp only [Act.put, List.getElem_toArray, List.getElem_cons_zero, List.getElem_cons_succ, List.setIfInBounds_toArray, List.set_cons_zero, List.set_cons_succ]
              refine wpAnyH_ready (rs := [10]) (by kernel_rfl) (by simp) ?_
              refine AllReadyH.cons rfl (fun K hK => ?_) AllReadyH.nil
              obtain ⟨z0, z1, z2, z3, z4⟩ := id f33_8
              go_simp
              have hs1 := (hb33.setCell (p := ⟨gA, 0, none⟩) lA (.bool Q.neg)).setCell (p := ⟨gA, 1, none⟩) lA (.string Q.mag)
              refine hK.out _ _ (HS.out _ hs1) (fun _ => ?_)
              clear hK K z0 z1 z2 z3 z4
              have eA := boxp_set f33_8 (.bool Q.neg) (.string Q.mag)
              have eB := boxp_far (boxp_far f33_9 (p := ⟨gA, 0, none⟩) hne.symm (.bool Q.neg)) (p := ⟨gA, 1, none⟩) hne.symm (.string Q.mag)
              try simp only [Act.put, List.getElem_toArray, List.getElem_cons_zero, List.getElem_cons_succ, List.setIfInBounds_toArray, List.set_cons_zero, List.set_cons_succ]
              refine wpAnyH_ready (rs := [11]) (by kernel_rfl) (by simp) ?_
              refine AllReadyH.cons rfl (fun K hK => ?_) AllReadyH.nil
              obtain ⟨z0, z1, z2, z3, z4⟩ := id eB
              go_simp
              have hs2 := (hs1.setCell (p := ⟨gB, 0, none⟩) lB (.bool R.neg)).setCell (p := ⟨gB, 1, none⟩) lB (.string R.mag)
              refine hK.out _ _ (HS.out _ hs2) (fun _ => ?_)
              clear hK K z0 z1 z2 z3 z4
              have eA2 := boxp_far (boxp_far eA (p := ⟨gB, 0, none⟩) hne (.bool R.neg)) (p := ⟨gB, 1, none⟩) hne (.string R.mag)
              try simp only [Act.put, List.getElem_toArray, List.getElem_cons_zero, List.getElem_cons_succ, List.setIfInBounds_toArray, List.set_cons_zero, List.set_cons_succ]
              refine wpAnyH_take (i := 12) (v := ?_) rfl (by kernel_rfl) (by kernel_rfl) (by kernel_rfl) (fun _ _ _ h => h) (Or.inl ⟨by rfl, ?_⟩) (HS.out _ hs2) ?_
              rotate_left 1
              next => intro w hSw; rw [hSe] at hSw; obtain ⟨s1, s2⟩ := hSw; go_simp; try with_reducible rfl
              try simp only [Act.put, List.getElem_toArray, List.getElem_cons_zero, List.getElem_cons_succ, List.setIfInBounds_toArray, List.set_cons_zero, List.set_cons_succ]
              refine wpAnyH_done (by kernel_rfl) ?_ _
              go_wp2_with fail
              go_meet
              exact ⟨gA, rfl, Lib.hid lA, Lib.hid eA2, Lib.hid hs2⟩
          · go_simp
            have hb34 : Below X.heap.size X (w31.alloc (.cells #[.bool false, .string ⟨#[]⟩] 28)) := hb31.alloc hb31.size _
            refine hK.out _ _ (HS.out _ hb34) (fun _ => ?_)
            clear hK K
            have f34_9 := BoxAt.new w31 (.bool false) (.string ⟨#[]⟩) 28
            have f34_8 := BoxAt.below f31_8 ((Below.refl w31.heap.size w31).alloc (Nat.le_refl _) (.cells #[.bool false, .string ⟨#[]⟩] 28)) (f31_8).2.2.2.2
            have lB := hb31.size
            obtain ⟨gB, hgB⟩ : ∃ g, w31.heap.size = g := ⟨_, rfl⟩
            obtain ⟨w34, hw34⟩ : ∃ Y, w31.alloc (.cells #[.bool false, .string ⟨#[]⟩] 28) = Y := ⟨_, rfl⟩
            rw [hw34] at hb34 f34_8 f34_9 ⊢
            rw [hgB] at lB f34_9 ⊢
            have hne : gA ≠ gB := by have := (f31_8).2.2.2.2; omega
            try simp only [Act.put, List.getElem_toArray, List.getElem_cons_zero, List.getElem_cons_succ, List.setIfInBounds_toArray, List.set_cons_zero, List.set_cons_succ]
            refine wpAnyH_ready (rs := [3]) (by kernel_rfl) (by simp) ?_
            refine AllReadyH.cons rfl (fun K hK => ?_) AllReadyH.nil
            · go_simp
              refine (HDv.out _).mono ?_
              rintro e w35 ⟨rfl, hbc⟩
              have hb35 : Below X.heap.size X w35 := hb34.trans (hbc.mono hb34.size)
              dsimp only
              refine hK.out _ _ (HS.out _ hb35) (fun _ => ?_)
              have f35_8 := BoxAt.below f34_8 hbc (f34_8).2.2.2.2
              have f35_9 := BoxAt.below f34_9 hbc (f34_9).2.2.2.2
              clear hK K hbc
              refine wpAnyH_take (i := 4) (v := ?_) rfl (by kernel_rfl) (by kernel_rfl) (by kernel_rfl) (fun _ _ _ h => h) (Or.inl ⟨by rfl, ?_⟩) (HS.out _ hb35) ?_
              rotate_left 1
              next => intro w hSw; rw [hSe] at hSw; obtain ⟨s1, s2⟩ := hSw; go_simp; try with_reducible rfl
              refine wpAnyH_take (i := 5) (v := ?_) rfl (by kernel_rfl) (by kernel_rfl) (by kernel_rfl) (fun _ _ _ h => h) (Or.inl ⟨by rfl, ?_⟩) (HS.out _ hb35) ?_
              rotate_left 1
              next => intro w hSw; rw [hSe] at hSw; obtain ⟨s1, s2⟩ := hSw; go_simp; try with_reducible rfl
              refine wpAnyH_take (i := 6) (v := ?_) rfl (by kernel_rfl) (by kernel_rfl) (by kernel_rfl) (fun _ _ _ h => h) (Or.inl ⟨by rfl, ?_⟩) (HS.out _ hb35) ?_
              rotate_left 1
              next => intro w hSw; rw [hSe] at hSw; obtain ⟨s1, s2⟩ := hSw; go_simp; try with_reducible rfl
              refine wpAnyH_take (i := 7) (v := ?_) rfl (by kernel_rfl) (by kernel_rfl) (by kernel_rfl) (fun _ _ _ h => h) (Or.inl ⟨by rfl, ?_⟩) (HS.out _ hb35) ?_
              rotate_left 1
              next => intro w hSw; rw [hSe] at hSw; obtain ⟨s1, s2⟩ := hSw; go_simp; try with_reducible rfl
              try simp only [Act.put, List.getElem_toArray, List.getElem_cons_zero, List.getElem_cons_succ, List.setIfInBounds_toArray, List.set_cons_zero, List.set_cons_succ]
              refine wpAnyH_ready (rs := [10]) (by kernel_rfl) (by simp) ?_
              refine AllReadyH.cons rfl (fun K hK => ?_) AllReadyH.nil
              obtain ⟨z0, z1, z2, z3, z4⟩ := id f35_8
              go_simp
              have hs1 := (hb35.setCell (p := ⟨gA, 0, none⟩) lA (.bool Q.neg)).setCell (p := ⟨gA, 1, none⟩) lA (.string Q.mag)
              refine hK.out _ _ (HS.out _ hs1) (fun _ => ?_)
              clear hK K z0 z1 z2 z3 z4
              have eA := boxp_set f35_8 (.bool Q.neg) (.string Q.mag)
              have eB := boxp_far (boxp_far f35_9 (p := ⟨gA, 0, none⟩) hne.symm (.bool Q.neg)) (p := ⟨gA, 1, none⟩) hne.symm (.string Q.mag)
              try simp only [Act.put, List.getElem_toArray, List.getElem_cons_zero, List.getElem_cons_succ, List.setIfInBounds_toArray, List.set_cons_zero, List.set_cons_succ]
              refine wpAnyH_ready (rs := [11]) (by kernel_rfl) (by simp) ?_
              refine AllReadyH.cons rfl (fun K hK => ?_) AllReadyH.nil
              obtain ⟨z0, z1, z2, z3, z4⟩ := id eB
              go_simp
              have hs2 := (hs1.setCell (p := ⟨gB, 0, none⟩) lB (.bool R.neg)).setCell (p := ⟨gB, 1, none⟩) lB (.string R.mag)
              refine hK.out _ _ (HS.out _ hs2) (fun _ => ?_)
              clear hK K z0 z1 z2 z3 z4
              have eA2 := boxp_far (boxp_far eA (p := ⟨gB, 0, none⟩) hne (.bool R.neg)) (p := ⟨gB, 1, none⟩) hne (.string R.mag)
              try simp only [Act.put, List.getElem_toArray, List.getElem_cons_zero, List.getElem_cons_succ, List.setIfInBounds_toArray, List.set_cons_zero, List.set_cons_succ]
              refine wpAnyH_take (i := 12) (v := ?_) rfl (by kernel_rfl) (by kernel_rfl) (by kernel_rfl) (fun _ _ _ h => h) (Or.inl ⟨by rfl, ?_⟩) (HS.out _ hs2) ?_
              rotate_left 1
              next => intro w hSw; rw [hSe] at hSw; obtain ⟨s1, s2⟩ := hSw; go_simp; try with_reducible rfl
              try simp only [Act.put, List.getElem_toArray, List.getElem_cons_zero, List.getElem_cons_succ, List.setIfInBounds_toArray, List.set_cons_zero, List.set_cons_succ]
              refine wpAnyH_done (by kernel_rfl) ?_ _
              go_wp2_with fail
              go_meet
              exact ⟨gA, rfl, Lib.hid lA, Lib.hid eA2, Lib.hid hs2⟩
        · go_simp
          have hb36 : Below X.heap.size X (w30.alloc (.cells #[.bool false, .string ⟨#[]⟩] 28)) := hb30.alloc hb30.size _
          refine hK.out _ _ (HS.out _ hb36) (fun _ => ?_)
          clear hK K
          have f36_9 := BoxAt.new w30 (.bool false) (.string ⟨#[]⟩) 28
          have f36_8 := BoxAt.below f30_8 ((Below.refl w30.heap.size w30).alloc (Nat.le_refl _) (.cells #[.bool false, .string ⟨#[]⟩] 28)) (f30_8).2.2.2.2
          have lB := hb30.size
          obtain ⟨gB, hgB⟩ : ∃ g, w30.heap.size = g := ⟨_, rfl⟩
          obtain ⟨w36, hw36⟩ : ∃ Y, w30.alloc (.cells #[.bool false, .string ⟨#[]⟩] 28) = Y := ⟨_, rfl⟩
          rw [hw36] at hb36 f36_8 f36_9 ⊢
          rw [hgB] at lB f36_9 ⊢
          have hne : gA ≠ gB := by have := (f30_8).2.2.2.2; omega
          try simp only [Act.put, List.getElem_toArray, List.getElem_cons_zero, List.getElem_cons_succ, List.setIfInBounds_toArray, List.set_cons_zero, List.set_cons_succ]
          refine wpAnyH_ready (rs := [2]) (by kernel_rfl) (by simp) ?_
          refine AllReadyH.cons rfl (fun K hK => ?_) AllReadyH.nil
          · go_simp
            refine (HOf.out _).mono ?_
            rintro e w37 ⟨rfl, hbc⟩
            have hb37 : Below X.heap.size X w37 := hb36.trans (hbc.mono hb36.size)
            dsimp only
            refine hK.out _ _ (HS.out _ hb37) (fun _ => ?_)
            have f37_8 := BoxAt.below f36_8 hbc (f36_8).2.2.2.2
            have f37_9 := BoxAt.below f36_9 hbc (f36_9).2.2.2.2
            clear hK K hbc
            try simp only [Act.put, List.getElem_toArray, List.getElem_cons_zero, List.getElem_cons_succ, List.setIfInBounds_toArray, List.set_cons_zero, List.set_cons_succ]
            refine wpAnyH_ready (rs := [3]) (by kernel_rfl) (by simp) ?_
            refine AllReadyH.cons rfl (fun K hK => ?_) AllReadyH.nil
            · go_simp
              refine (HDv.out _).mono ?_
              rintro e w38 ⟨rfl, hbc⟩
              have hb38 : Below X.heap.size X w38 := hb37.trans (hbc.mono hb37.size)
              dsimp only
              refine hK.out _ _ (HS.out _ hb38) (fun _ => ?_)
              have f38_8 := BoxAt.below f37_8 hbc (f37_8).2.2.2.2
              have f38_9 := BoxAt.below f37_9 hbc (f37_9).2.2.2.2
              clear hK K hbc
              refine wpAnyH_take (i := 4) (v := ?_) rfl (by kernel_rfl) (by kernel_rfl) (by kernel_rfl) (fun _ _ _ h => h) (Or.inl ⟨by rfl, ?_⟩) (HS.out _ hb38) ?_
              rotate_left 1
              next => intro w hSw; rw [hSe] at hSw; obtain ⟨s1, s2⟩ := hSw; go_simp; try with_reducible rfl
              refine wpAnyH_take (i := 5) (v := ?_) rfl (by kernel_rfl) (by kernel_rfl) (by kernel_rfl) (fun _ _ _ h => h) (Or.inl ⟨by rfl, ?_⟩) (HS.out _ hb38) ?_
              rotate_left 1
              next => intro w hSw; rw [hSe] at hSw; obtain ⟨s1, s2⟩ := hSw; go_simp; try with_reducible rfl
              refine wpAnyH_take (i := 6) (v := ?_) rfl (by kernel_rfl) (by kernel_rfl) (by kernel_rfl) (fun _ _ _ h => h) (Or.inl ⟨by rfl, ?_⟩) (HS.out _ hb38) ?_
              rotate_left 1
              next => intro w hSw; rw [hSe] at hSw; obtain ⟨s1, s2⟩ := hSw; go_simp; try with_reducible rfl
              refine wpAnyH_take (i := 7) (v := ?_) rfl (by kernel_rfl) (by kernel_rfl) (by kernel_rfl) (fun _ _ _ h => h) (Or.inl ⟨by rfl, ?_⟩) (HS.out _ hb38) ?_
              rotate_left 1
              next => intro w hSw; rw [hSe] at hSw; obtain ⟨s1, s2⟩ := hSw; go_simp; try with_reducible rfl
              try simp only [Act.put, List.getElem_toArray, List.getElem_cons_zero, List.getElem_cons_succ, List.setIfInBounds_toArray, List.set_cons_zero, List.set_cons_succ]
              refine wpAnyH_ready (rs := [10]) (by kernel_rfl) (by simp) ?_
              refine AllReadyH.cons rfl (fun K hK => ?_) AllReadyH.nil
              obtain ⟨z0, z1, z2, z3, z4⟩ := id f38_8
              go_simp
              have hs1 := (hb38.setCell (p := ⟨gA, 0, none⟩) lA (.bool Q.neg)).setCell (p := ⟨gA, 1, none⟩) lA (.string Q.mag)
              refine hK.out _ _ (HS.out _ hs1) (fun _ => ?_)
              clear hK K z0 z1 z2 z3 z4
              have eA := boxp_set f38_8 (.bool Q.neg) (.string Q.mag)
              have eB := boxp_far (boxp_far f38_9 (p := ⟨gA, 0, none⟩) hne.symm (.bool Q.neg)) (p := ⟨gA, 1, none⟩) hne.symm (.string Q.mag)
              try simp only [Act.put, List.getElem_toArray, List.getElem_cons_zero, List.getElem_cons_succ, List.setIfInBounds_toArray, List.set_cons_zero, List.set_cons_succ]
              refine wpAnyH_ready (rs := [11]) (by kernel_rfl) (by simp) ?_
              refine AllReadyH.cons rfl (fun K hK => ?_) AllReadyH.nil
              obtain ⟨z0, z1, z2, z3, z4⟩ := id eB
              go_simp
              have hs2 := (hs1.setCell (p := ⟨gB, 0, none⟩) lB (.bool R.neg)).setCell (p := ⟨gB, 1, none⟩) lB (.string R.mag)
              refine hK.out _ _ (HS.out _ hs2) (fun _ => ?_)
              clear hK K z0 z1 z2 z3 z4
              have eA2 := boxp_far (boxp_far eA (p := ⟨gB, 0, none⟩) hne (.bool R.neg)) (p := ⟨gB, 1, none⟩) hne (.string R.mag)
              try simp only [Act.put, List.getElem_toArray, List.getElem_cons_zero, List.getElem_cons_succ, List.setIfInBounds_toArray, List.set_cons_zero, List.set_cons_succ]
              refine wpAnyH_take (i := 12) (v := ?_) rfl (by kernel_rfl) (by kernel_rfl) (by kernel_rfl) (fun _ _ _ h => h) (Or.inl ⟨by rfl, ?_⟩) (HS.out _ hs2) ?_
              rotate_left 1
              next => intro w hSw; rw [hSe] at hSw; obtain ⟨s1, s2⟩ := hSw; go_simp; try with_reducible rfl
              try simp only [Act.put, List.getElem_toArray, List.getElem_cons_zero, List.getElem_cons_succ, List.setIfInBounds_toArray, List.set_cons_zero, List.set_cons_succ]
              refine wpAnyH_done (by kernel_rfl) ?_ _
              go_wp2_with fail
              go_meet
              exact ⟨gA, rfl, Lib.hid lA, Lib.hid eA2, Lib.hid hs2⟩
      · go_simp
        have hb39 : Below X.heap.size X (w0.alloc (.cells #[.bool false, .string ⟨#[]⟩] 28)) := hd.alloc hd.size _
        refine hK.out _ _ (HS.out _ hb39) (fun _ => ?_)
        clear hK K
        have f39_9 := BoxAt.new w0 (.bool false) (.string ⟨#[]⟩) 28
        have lB := hd.size
        obtain ⟨gB, hgB⟩ : ∃ g, w0.heap.size = g := ⟨_, rfl⟩
        obtain ⟨w39, hw39⟩ : ∃ Y, w0.alloc (.cells #[.bool false, .string ⟨#[]⟩] 28) = Y := ⟨_, rfl⟩
        rw [hw39] at hb39 f39_9 ⊢
        rw [hgB] at lB f39_9 ⊢
        try simp only [Act.put, List.getElem_toArray, List.getElem_cons_zero, List.getElem_cons_succ, List.setIfInBounds_toArray, List.set_cons_zero, List.set_cons_succ]
        refine wpAnyH_ready (rs := [2, 8]) (by kernel_rfl) (by simp) ?_
        refine AllReadyH.cons rfl (fun K hK => ?_) (AllReadyH.cons rfl (fun K hK => ?_) AllReadyH.nil)
        · go_simp
          refine (HOf.out _).mono ?_
          rintro e w40 ⟨rfl, hbc⟩
          have hb40 : Below X.heap.size X w40 := hb39.trans (hbc.mono hb39.size)
          dsimp only
          refine hK.out _ _ (HS.out _ hb40) (fun _ => ?_)
          have f40_9 := BoxAt.below f39_9 hbc (f39_9).2.2.2.2
          clear hK K hbc
          try simp only [Act.put, List.getElem_toArray, List.getElem_cons_zero, List.getElem_cons_succ, List.setIfInBounds_toArray, List.set_cons_zero, List.set_cons_succ]
          refine wpAnyH_ready (rs := [3, 8]) (by kernel_rfl) (by simp) ?_
          refine AllReadyH.cons rfl (fun K hK => ?_) (AllReadyH.cons rfl (fun K hK => ?_) AllReadyH.nil)
          · go_simp
            refine (HDv.out _).mono ?_
            rintro e w41 ⟨rfl, hbc⟩
            have hb41 : Below X.heap.size X w41 := hb40.trans (hbc.mono hb40.size)
            dsimp only
            refine hK.out _ _ (HS.out _ hb41) (fun _ => ?_)
            have f41_9 := BoxAt.below f40_9 hbc (f40_9).2.2.2.2
            clear hK K hbc
            refine wpAnyH_take (i := 4) (v := ?_) rfl (by kernel_rfl) (by kernel_rfl) (by kernel_rfl) (fun _ _ _ h => h) (Or.inl ⟨by rfl, ?_⟩) (HS.out _ hb41) ?_
            rotate_left 1
            next => intro w hSw; rw [hSe] at hSw; obtain ⟨s1, s2⟩ := hSw; go_simp; try with_reducible rfl
            refine wpAnyH_take (i := 5) (v := ?_) rfl (by kernel_rfl) (by kernel_rfl) (by kernel_rfl) (fun _ _ _ h => h) (Or.inl ⟨by rfl, ?_⟩) (HS.out _ hb41) ?_
            rotate_left 1
            next => intro w hSw; rw [hSe] at hSw; obtain ⟨s1, s2⟩ := hSw; go_simp; try with_reducible rfl
            refine wpAnyH_take (i := 6) (v := ?_) rfl (by kernel_rfl) (by kernel_rfl) (by kernel_rfl) (fun _ _ _ h => h) (Or.inl ⟨by rfl, ?_⟩) (HS.out _ hb41) ?_
            rotate_left 1
            next => intro w hSw; rw [hSe] at hSw; obtain ⟨s1, s2⟩ := hSw; go_simp; try with_reducible rfl
            refine wpAnyH_take (i := 7) (v := ?_) rfl (by kernel_rfl) (by kernel_rfl) (by kernel_rfl) (fun _ _ _ h => h) (Or.inl ⟨by rfl, ?_⟩) (HS.out _ hb41) ?_
            rotate_left 1
            next => intro w hSw; rw [hSe] at hSw; obtain ⟨s1, s2⟩ := hSw; go_simp; try with_reducible rfl
            try simp only [Act.put, List.getElem_toArray, List.getElem_cons_zero, List.getElem_cons_succ, List.setIfInBounds_toArray, List.set_cons_zero, List.set_cons_succ]
            refine wpAnyH_ready (rs := [8]) (by kernel_rfl) (by simp) ?_
            refine AllReadyH.cons rfl (fun K hK => ?_) AllReadyH.nil
            · go_simp
              have hb42 : Below X.heap.size X (w41.alloc (.cells #[.bool false, .string ⟨#[]⟩] 28)) := hb41.alloc hb41.size _
              refine hK.out _ _ (HS.out _ hb42) (fun _ => ?_)
              clear hK K
              have f42_8 := BoxAt.new w41 (.bool false) (.string ⟨#[]⟩) 28
              have f42_9 := BoxAt.below f41_9 ((Below.refl w41.heap.size w41).alloc (Nat.le_refl _) (.cells #[.bool false, .string ⟨#[]⟩] 28)) (f41_9).2.2.2.2
              have lA := hb41.size
              obtain ⟨gA, hgA⟩ : ∃ g, w41.heap.size = g := ⟨_, rfl⟩
              obtain ⟨w42, hw42⟩ : ∃ Y, w41.alloc (.cells #[.bool false, .string ⟨#[]⟩] 28) = Y := ⟨_, rfl⟩
              rw [hw42] at hb42 f42_9 f42_8 ⊢
              rw [hgA] at lA f42_8 ⊢
              have hne : gA ≠ gB := by have := (f41_9).2.2.2.2; omega
              try simp only [Act.put, List.getElem_toArray, List.getElem_cons_zero, List.getElem_cons_succ, List.setIfInBounds_toArray, List.set_cons_zero, List.set_cons_succ]
              refine wpAnyH_ready (rs := [10]) (by kernel_rfl) (by simp) ?_
              refine AllReadyH.cons rfl (fun K hK => ?_) AllReadyH.nil
              obtain ⟨z0, z1, z2, z3, z4⟩ := id f42_8
              go_simp
              have hs1 := (hb42.setCell (p := ⟨gA, 0, none⟩) lA (.bool Q.neg)).setCell (p := ⟨gA, 1, none⟩) lA (.string Q.mag)
              refine hK.out _ _ (HS.out _ hs1) (fun _ => ?_)
              clear hK K z0 z1 z2 z3 z4
              have eA := boxp_set f42_8 (.bool Q.neg) (.string Q.mag)
              have eB := boxp_far (boxp_far f42_9 (p := ⟨gA, 0, none⟩) hne.symm (.bool Q.neg)) (p := ⟨gA, 1, none⟩) hne.symm (.string Q.mag)
              try simp only [Act.put, List.getElem_toArray, List.getElem_cons_zero, List.getElem_cons_succ, List.setIfInBounds_toArray, List.set_cons_zero, List.set_cons_succ]
              refine wpAnyH_ready (rs := [11]) (by kernel_rfl) (by simp) ?_
              refine AllReadyH.cons rfl (fun K hK => ?_) AllReadyH.nil
              obtain ⟨z0, z1, z2, z3, z4⟩ := id eB
              go_simp
              have hs2 := (hs1.setCell (p := ⟨gB, 0, none⟩) lB (.bool R.neg)).setCell (p := ⟨gB, 1, none⟩) lB (.string R.mag)
              refine hK.out _ _ (HS.out _ hs2) (fun _ => ?_)
              clear hK K z0 z1 z2 z3 z4
              have eA2 := boxp_far (boxp_far eA (p := ⟨gB, 0, none⟩) hne (.bool R.neg)) (p := ⟨gB, 1, none⟩) hne (.string R.mag)
              try simp only [Act.put, List.getElem_toArray, List.getElem_cons_zero, List.getElem_cons_succ, List.setIfInBounds_toArray, List.set_cons_zero, List.set_cons_succ]
              refine wpAnyH_take (i := 12) (v := ?_) rfl (by kernel_rfl) (by kernel_rfl) (by kernel_rfl) (fun _ _ _ h => h) (Or.inl ⟨by rfl, ?_⟩) (HS.out _ hs2) ?_
              rotate_left 1
              next => intro w hSw; rw [hSe] at hSw; obtain ⟨s1, s2⟩ := hSw; go_simp; try with_reducible rfl
              try simp only [Act.put, List.getElem_toArray, List.getElem_cons_zero, List.getElem_cons_succ, List.setIfInBounds_toArray, List.set_cons_zero, List.set_cons_succ]
              refine wpAnyH_done (by kernel_rfl) ?_ _
              go_wp2_with fail
              go_meet
              exact ⟨gA, rfl, Lib.hid lA, Lib.hid eA2, Lib.hid hs2⟩
          · go_simp
            have hb43 : Below X.heap.size X (w40.alloc (.cells #[.bool false, .string ⟨#[]⟩] 28)) := hb40.alloc hb40.size _
            refine hK.out _ _ (HS.out _ hb43) (fun _ => ?_)
            clear hK K
            have f43_8 := BoxAt.new w40 (.bool false) (.string ⟨#[]⟩) 28
            have f43_9 := BoxAt.below f40_9 ((Below.refl w40.heap.size w40).alloc (Nat.le_refl _) (.cells #[.bool false, .string ⟨#[]⟩] 28)) (f40_9).2.2.2.2
            have lA := hb40.size
            obtain ⟨gA, hgA⟩ : ∃ g, w40.heap.size = g := ⟨_, rfl⟩
            obtain ⟨w43, hw43⟩ : ∃ Y, w40.alloc (.cells #[.bool false, .string ⟨#[]⟩] 28) = Y := ⟨_, rfl⟩
            rw [hw43] at hb43 f43_9 f43_8 ⊢
            rw [hgA] at lA f43_8 ⊢
            have hne : gA ≠ gB := by have := (f40_9).2.2.2.2; omega
            try simp only [Act.put, List.getElem_toArray, List.getElem_cons_zero, List.getElem_cons_succ, List.setIfInBounds_toArray, List.set_cons_zero, List.set_cons_succ]
            refine wpAnyH_ready (rs := [3]) (by kernel_rfl) (by simp) ?_
            refine AllReadyH.cons rfl (fun K hK => ?_) AllReadyH.nil
            · go_simp
              refine (HDv.out _).mono ?_
              rintro e w44 ⟨rfl, hbc⟩
              have hb44 : Below X.heap.size X w44 := hb43.trans (hbc.mono hb43.size)
              dsimp only
              refine hK.out _ _ (HS.out _ hb44) (fun _ => ?_)
              have f44_9 := BoxAt.below f43_9 hbc (f43_9).2.2.2.2
              have f44_8 := BoxAt.below f43_8 hbc (f43_8).2.2.2.2
              clear hK K hbc
              refine wpAnyH_take (i := 4) (v := ?_) rfl (by kernel_rfl) (by kernel_rfl) (by kernel_rfl) (fun _ _ _ h => h) (Or.inl ⟨by rfl, ?_⟩) (HS.out _ hb44) ?_
              rotate_left 1
              next => intro w hSw; rw [hSe] at hSw; obtain ⟨s1, s2⟩ := hSw; go_simp; try with_reducible rfl
              refine wpAnyH_take (i := 5) (v := ?_) rfl (by kernel_rfl) (by kernel_rfl) (by kernel_rfl) (fun _ _ _ h => h) (Or.inl ⟨by rfl, ?_⟩) (HS.out _ hb44) ?_
              rotate_left 1
              next => intro w hSw; rw [hSe] at hSw; obtain ⟨s1, s2⟩ := hSw; go_simp; try with_reducible rfl
              refine wpAnyH_take (i := 6) (v := ?_) rfl (by kernel_rfl) (by kernel_rfl) (by kernel_rfl) (fun _ _ _ h => h) (Or.inl ⟨by rfl, ?_⟩) (HS.out _ hb44) ?_
              rotate_left 1
              next => intro w hSw; rw [hSe] at hSw; obtain ⟨s1, s2⟩ := hSw; go_simp; try with_reducible rfl
              refine wpAnyH_take (i := 7) (v := ?_) rfl (by kernel_rfl) (by kernel_rfl) (by kernel_rfl) (fun _ _ _ h => h) (Or.inl ⟨by rfl, ?_⟩) (HS.out _ hb44) ?_
              rotate_left 1
              next => intro w hSw; rw [hSe] at hSw; obtain ⟨s1, s2⟩ := hSw; go_simp; try with_reducible rfl
              try simp only [Act.put, List.getElem_toArray, List.getElem_cons_zero, List.getElem_cons_succ, List.setIfInBounds_toArray, List.set_cons_zero, List.set_cons_succ]
              refine wpAnyH_ready (rs := [10]) (by kernel_rfl) (by simp) ?_
              refine AllReadyH.cons rfl (fun K hK => ?_) AllReadyH.nil
              obtain ⟨z0, z1, z2, z3, z4⟩ := id f44_8
              go_simp
              have hs1 := (hb44.setCell (p := ⟨gA, 0, none⟩) lA (.bool Q.neg)).setCell (p := ⟨gA, 1, none⟩) lA (.string Q.mag)
              refine hK.out _ _ (HS.out _ hs1) (fun _ => ?_)
              clear hK K z0 z1 z2 z3 z4
              have eA := boxp_set f44_8 (.bool Q.neg) (.string Q.mag)
              have eB := boxp_far (boxp_far f44_9 (p := ⟨gA, 0, none⟩) hne.symm (.bool Q.neg)) (p := ⟨gA, 1, none⟩) hne.symm (.string Q.mag)
              try simp only [Act.put, List.getElem_toArray, List.getElem_cons_zero, List.getElem_cons_succ, List.setIfInBounds_toArray, List.set_cons_zero, List.set_cons_succ]
              refine wpAnyH_ready (rs := [11]) (by kernel_rfl) (by simp) ?_
              refine AllReadyH.cons rfl (fun K hK => ?_) AllReadyH.nil
              obtain ⟨z0, z1, z2, z3, z4⟩ := id eB
              go_simp
              have hs2 := (hs1.setCell (p := ⟨gB, 0, none⟩) lB (.bool R.neg)).setCell (p := ⟨gB, 1, none⟩) lB (.string R.mag)
              refine hK.out _ _ (HS.out _ hs2) (fun _ => ?_)
              clear hK K z0 z1 z2 z3 z4
              have eA2 := boxp_far (boxp_far eA (p := ⟨gB, 0, none⟩) hne (.bool R.neg)) (p := ⟨gB, 1, none⟩) hne (.string R.mag)
              try simp only [Act.put, List.getElem_toArray, List.getElem_cons_zero, List.getElem_cons_succ, List.setIfInBounds_toArray, List.set_cons_zero, List.set_cons_succ]
              refine wpAnyH_take (i := 12) (v := ?_) rfl (by kernel_rfl) (by kernel_rfl) (by kernel_rfl) (fun _ _ _ h => h) (Or.inl ⟨by rfl, ?_⟩) (HS.out _ hs2) ?_
              rotate_left 1
              next => intro w hSw; rw [hSe] at hSw; obtain ⟨s1, s2⟩ := hSw; go_simp; try with_reducible rfl
              try simp only [Act.put, List.getElem_toArray, List.getElem_cons_zero, List.getElem_cons_succ, List.setIfInBounds_toArray, List.set_cons_zero, List.set_cons_succ]
              refine wpAnyH_done (by kernel_rfl) ?_ _
              go_wp2_with fail
              go_meet
              exact ⟨gA, rfl, Lib.hid lA, Lib.hid eA2, Lib.hid hs2⟩
        · go_simp
          have hb45 : Below X.heap.size X (w39.alloc (.cells #[.bool false, .string ⟨#[]⟩] 28)) := hb39.alloc hb39.size _
          refine hK.out _ _ (HS.out _ hb45) (fun _ => ?_)
          clear hK K
          have f45_8 := BoxAt.new w39 (.bool false) (.string ⟨#[]⟩) 28
          have f45_9 := BoxAt.below f39_9 ((Below.refl w39.heap.size w39).alloc (Nat.le_refl _) (.cells #[.bool false, .string ⟨#[]⟩] 28)) (f39_9).2.2.2.2
          have lA := hb39.size
          obtain ⟨gA, hgA⟩ : ∃ g, w39.heap.size = g := ⟨_, rfl⟩
          obtain ⟨w45, hw45⟩ : ∃ Y, w39.alloc (.cells #[.bool false, .string ⟨#[]⟩] 28) = Y := ⟨_, rfl⟩
          rw [hw45] at hb45 f45_9 f45_8 ⊢
          rw [hgA] at lA f45_8 ⊢
          have hne : gA ≠ gB := by have := (f39_9).2.2.2.2; omega
          try simp only [Act.put, List.getElem_toArray, List.getElem_cons_zero, List.getElem_cons_succ, List.setIfInBounds_toArray, List.set_cons_zero, List.set_cons_succ]
          refine wpAnyH_ready (rs := [2]) (by kernel_rfl) (by simp) ?_
          refine AllReadyH.cons rfl (fun K hK => ?_) AllReadyH.nil
          · go_simp
            refine (HOf.out _).mono ?_
            rintro e w46 ⟨rfl, hbc⟩
            have hb46 : Below X.heap.size X w46 := hb45.trans (hbc.mono hb45.size)
            dsimp only
            refine hK.out _ _ (HS.out _ hb46) (fun _ => ?_)
            have f46_9 := BoxAt.below f45_9 hbc (f45_9).2.2.2.2
            have f46_8 := BoxAt.below f45_8 hbc (f45_8).2.2.2.2
            clear hK K hbc
            try simp only [Act.put, List.getElem_toArray, List.getElem_cons_zero, List.getElem_cons_succ, List.setIfInBounds_toArray, List.set_cons_zero, List.set_cons_succ]
            refine wpAnyH_ready (rs := [3]) (by kernel_rfl) (by simp) ?_
            refine AllReadyH.cons rfl (fun K hK => ?_) AllReadyH.nil
            · go_simp
              refine (HDv.out _).mono ?_
              rintro e w47 ⟨rfl, hbc⟩
              have hb47 : Below X.heap.size X w47 := hb46.trans (hbc.mono hb46.size)
              dsimp only
              refine hK.out _ _ (HS.out _ hb47) (fun _ => ?_)
              have f47_9 := BoxAt.below f46_9 hbc (f46_9).2.2.2.2
              have f47_8 := BoxAt.below f46_8 hbc (f46_8).2.2.2.2
              clear hK K hbc
              refine wpAnyH_take (i := 4) (v := ?_) rfl (by kernel_rfl) (by kernel_rfl) (by kernel_rfl) (fun _ _ _ h => h) (Or.inl ⟨by rfl, ?_⟩) (HS.out _ hb47) ?_
              rotate_left 1
              next => intro w hSw; rw [hSe] at hSw; obtain ⟨s1, s2⟩ := hSw; go_simp; try with_reducible rfl
              refine wpAnyH_take (i := 5) (v := ?_) rfl (by kernel_rfl) (by kernel_rfl) (by kernel_rfl) (fun _ _ _ h => h) (Or.inl ⟨by rfl, ?_⟩) (HS.out _ hb47) ?_
              rotate_left 1
              next => intro w hSw; rw [hSe] at hSw; obtain ⟨s1, s2⟩ := hSw; go_simp; try with_reducible rfl
              refine wpAnyH_take (i := 6) (v := ?_) rfl (by kernel_rfl) (by kernel_rfl) (by kernel_rfl) (fun _ _ _ h => h) (Or.inl ⟨by rfl, ?_⟩) (HS.out _ hb47) ?_
              rotate_left 1
              next => intro w hSw; rw [hSe] at hSw; obtain ⟨s1, s2⟩ := hSw; go_simp; try with_reducible rfl
              refine wpAnyH_take (i := 7) (v := ?_) rfl (by kernel_rfl) (by kernel_rfl) (by kernel_rfl) (fun _ _ _ h => h) (Or.inl ⟨by rfl, ?_⟩) (HS.out _ hb47) ?_
              rotate_left 1
              next => intro w hSw; rw [hSe] at hSw; obtain ⟨s1, s2⟩ := hSw; go_simp; try with_reducible rfl
              try simp only [Act.put, List.getElem_toArray, List.getElem_cons_zero, List.getElem_cons_succ, List.setIfInBounds_toArray, List.set_cons_zero, List.set_cons_succ]
              refine wpAnyH_ready (rs := [10]) (by kernel_rfl) (by simp) ?_
              refine AllReadyH.cons rfl (fun K hK => ?_) AllReadyH.nil
              obtain ⟨z0, z1, z2, z3, z4⟩ := id f47_8
              go_simp
              have hs1 := (hb47.setCell (p := ⟨gA, 0, none⟩) lA (.bool Q.neg)).setCell (p := ⟨gA, 1, none⟩) lA (.string Q.mag)
              refine hK.out _ _ (HS.out _ hs1) (fun _ => ?_)
              clear hK K z0 z1 z2 z3 z4
              have eA := boxp_set f47_8 (.bool Q.neg) (.string Q.mag)
              have eB := boxp_far (boxp_far f47_9 (p := ⟨gA, 0, none⟩) hne.symm (.bool Q.neg)) (p := ⟨gA, 1, none⟩) hne.symm (.string Q.mag)
              try simp only [Act.put, List.getElem_toArray, List.getElem_cons_zero, List.getElem_cons_succ, List.setIfInBounds_toArray, List.set_cons_zero, List.set_cons_succ]
              refine wpAnyH_ready (rs := [11]) (by kernel_rfl) (by simp) ?_
              refine AllReadyH.cons rfl (fun K hK => ?_) AllReadyH.nil
              obtain ⟨z0, z1, z2, z3, z4⟩ := id eB
              go_simp
              have hs2 := (hs1.setCell (p := ⟨gB, 0, none⟩) lB (.bool R.neg)).setCell (p := ⟨gB, 1, none⟩) lB (.string R.mag)
              refine hK.out _ _ (HS.out _ hs2) (fun _ => ?_)
              clear hK K z0 z1 z2 z3 z4
              have eA2 := boxp_far (boxp_far eA (p := ⟨gB, 0, none⟩) hne (.bool R.neg)) (p := ⟨gB, 1, none⟩) hne (.string R.mag)
              try simp only [Act.put, List.getElem_toArray, List.getElem_cons_zero, List.getElem_cons_succ, List.setIfInBounds_toArray, List.set_cons_zero, List.set_cons_succ]
              refine wpAnyH_take (i := 12) (v := ?_) rfl (by kernel_rfl) (by kernel_rfl) (by kernel_rfl) (fun _ _ _ h => h) (Or.inl ⟨by rfl, ?_⟩) (HS.out _ hs2) ?_
              rotate_left 1
              next => intro w hSw; rw [hSe] at hSw; obtain ⟨s1, s2⟩ := hSw; go_simp; try with_reducible rfl
              try simp only [Act.put, List.getElem_toArray, List.getElem_cons_zero, List.getElem_cons_succ, List.setIfInBounds_toArray, List.set_cons_zero, List.set_cons_succ]
              refine wpAnyH_done (by kernel_rfl) ?_ _
              go_wp2_with fail
              go_meet
              exact ⟨gA, rfl, Lib.hid lA, Lib.hid eA2, Lib.hid hs2⟩
    case rest =>
      obtain ⟨h1, rfl, hle, BQ, hbw⟩ := hcut
      obtain ⟨b0, b1, _, _, bl⟩ := BQ.out
      have Hbx := Lib.hid (HBX.out _ hbw.out)
      obtain ⟨_, _, d0, d1, d2, d3, dl⟩ := Hbx.out
      have hDX : D < X.heap.size := by
        by_cases h : D < X.heap.size
        · exact h
        · have := HK.out
          rw [Array.getElem?_eq_none (by omega)] at this
          exact absurd this (by simp)
      have HKc := Lib.hid ((hbw.out.block D hDX).trans HK.out)
      clear HBX HS HOf HDv hd
      go_wp2_with fail
      obtain ⟨_, hwc, hr⟩ := Hbx.out
      have v2 := (hwc.setCell (p := ⟨g0 + 1, 0, none⟩) (show g0 ≤ g0 + 1 by omega) (.bool Q.neg)).setCell (p := ⟨g0 + 1, 1, none⟩) (show g0 ≤ g0 + 1 by omega) (.string Q.mag)
      have hK4 : ((wc.setCell ⟨g0 + 1, 0, none⟩ (.bool Q.neg)).setCell ⟨g0 + 1, 1, none⟩ (.string Q.mag)).heap[D]? = some (.deferred (some [])) := ((Below.heap_setCell _ _ _ D (by simp; omega)).trans (Below.heap_setCell _ _ _ D (by simp; omega))).trans HKc.out
      have hbx := boxp_set hr (.bool Q.neg) (.string Q.mag)
      generalize (wc.setCell ⟨g0 + 1, 0, none⟩ (.bool Q.neg)).setCell ⟨g0 + 1, 1, none⟩ (.string Q.mag) = V at *
      refine ⟨by simp, .inl ⟨_, _, rfl, run_takeDeferred hK4, ?_⟩⟩
      have f0 := (cell_of_block (World.putObj_heap_other (w := V) (o := .deferred none) (show g0 + 1 ≠ D by omega)) 0).trans hbx.1
      have f1 := (cell_of_block (World.putObj_heap_other (w := V) (o := .deferred none) (show g0 + 1 ≠ D by omega)) 1).trans hbx.2.1
      rw [← hg0] at v2
      refine ⟨.tuple #[.agg #[.bool Q.neg, .string Q.mag], .int .i64 0], ?_, v2.trans (belowK_b (w := w) (Nat.le_refl _) _ D _ _ (by omega) hK4 rfl rfl), .inl ⟨rfl, by rw [HA.out, HQ.out]⟩⟩
      simp [results, Try.results13, go_sem, f0, f1]
  case stop =>
    rintro D c pre X hD h hK
    exact h.elim
end Go.Proofs.Ytlaoijfphkhchaa
