/- counting.closed, Closed: the trace of a power. -/
import Derived.Test.YtlaoijfphkhchaaCla
import Derived.Test.YtlaoijfphkhchaaSqn
namespace Go.Proofs.Ytlaoijfphkhchaa
open Go.RowKit Go.Shelf
def trF (n : Nat) (F : Nat → Nat → Int) : Int := dotN (fun i => F i i) n
theorem adjE_bn (E : Nat → Nat → Int) (n N : Nat) (hn : n ≤ 1000000) : BnM N N (adjE E n) 20 := fun s t _ _ => by
  unfold Bn adjE
  have := cntE_le E n s t
  omega
theorem half_nat (m : Nat) : ((m : Int) / 2) = ((m / 2 : Nat) : Int) := by omega
set_option maxRecDepth 100000 in
set_option maxHeartbeats 8000000 in
theorem closed_any (L : Int) (N n K : Nat) (E : Nat → Nat → Int) (p : Option Addr) (c : Nat) (h1 : 0 < N) (hN : N ≤ 32) (hn : n ≤ 1000000) (hK : K ≤ 4096) (hok : EdOk N n E) (w : World) (hE : EdgAt w p n E) :
    Calls Try.prog 44 #[.agg #[.int .i64 L, .int .i64 (N : Int), .slice p n c], .int .i64 (K : Int)] w (RetZ (canon (trF N (powF N (adjE E n) K))) w) := by
  obtain ⟨W0, hW0⟩ : ∃ W, (w.alloc (.cells #[.int .i64 L, .int .i64 (N : Int), .slice p n c] 24)).alloc (.cells #[.bool false, .string ⟨#[]⟩] 28) = W := ⟨_, rfl⟩
  have hb0 : Below w.heap.size w W0 := by rw [← hW0]; exact ((Below.refl _ _).alloc (Nat.le_refl _) _).alloc (by simp) _
  have hbx : BoxAt3 W0 w.heap.size (.int .i64 L) (.int .i64 (N : Int)) (.slice p n c) := by rw [← hW0]; exact (BoxAt3.new w _ _ _ _).below ((Below.refl _ _).alloc (by simp) _)
  have hbr : BoxAt W0 (w.heap.size + 1) (.bool false) (.string ⟨#[]⟩) := by
    rw [← hW0]
    have := BoxAt.new (w.alloc (.cells #[.int .i64 L, .int .i64 (N : Int), .slice p n c] 24)) (.bool false) (.string ⟨#[]⟩) 28
    simpa using this
  have hE0 : EdgAt W0 p n E := hE.mono (Nat.le_refl _) hb0
  have HId := Lib.hid (show ∀ W, Calls Try.prog 81 #[.int .i64 (N : Int)] W (RetMatE 0 N N oneF W) from fun W => by
    have := identity_any (N : Int) W
    rw [if_neg (by omega), Int.toNat_natCast] at this
    exact this)
  have HAdj := Lib.hid (show ∀ W, Below W0.heap.size W0 W → Calls Try.prog 82 #[.agg #[.int .i64 L, .int .i64 (N : Int), .slice p n c]] W (RetMat N N (adjE E n) W) from fun W hW => cntAdj_any L N n E p c hN hn hok W (hE0.mono (Nat.le_refl _) hW))
  have hbn := fun u => powF_bn (adjE_bn E n N hn) (pow5 hN) u
  have HMul : Hid (∀ (W : World) (p q : Option Addr) (c d a b : Nat), a + b ≤ 4096 → MatF W p N N (powF N (adjE E n) a) → MatF W q N N (powF N (adjE E n) b) → Calls Try.prog 83 #[.slice p N c, .slice q N d] W (RetMatE 0 N N (powF N (adjE E n) (a + b)) W)) := Lib.hid (fun W p q c d a b hab hM hQ =>
    (matMul_any h1 hN (powF N (adjE E n) a) (powF N (adjE E n) b) p q c d (hbn a) (hbn b) (by omega) W hM hQ).mono fun e w' hr => by
      obtain ⟨hb, hr⟩ := hr
      rcases hr with ⟨h0, q, k, he, hM⟩ | h
      · exact ⟨hb, .inl ⟨h0, q, k, he, hM.congr fun i j _ hj => powF_add N _ a b i j hj⟩⟩
      · exact ⟨hb, .inr h⟩)
  have hsz : ∀ u, u ≤ 4096 → (∀ j, j ≤ N → (canon (dotN (fun i => powF N (adjE E n) u i i) j)).mag.size ≤ 100000000) ∧ ∀ i, i < N → (canon (powF N (adjE E n) u i i)).mag.size ≤ 100000000 := fun u hu =>
    ⟨fun j hj => (Bn.dot (e := u * 25) (m := 5) j (by omega) fun l hl => (hbn u) l l (by omega) (by omega)).size _ (by omega), fun i hi => ((hbn u) i i hi hi).size _ (by omega)⟩
  have Hsz := Lib.hid (hsz K hK)
  have HB : Hid (∀ W, Below W0.heap.size W0 W → BoxAt3 W w.heap.size (.int .i64 L) (.int .i64 (N : Int)) (.slice p n c) ∧ Below w.heap.size w W ∧ BoxAt W (w.heap.size + 1) (.bool false) (.string ⟨#[]⟩)) := Lib.hid (fun W hW => ⟨hbx.below hW, hb0.trans (hW.mono hb0.size), hbr.below hW hbr.2.2.2.2⟩)
  obtain ⟨_, c0, c1, c2⟩ := hbx
  have n0 : ((N : Int) == 0) = false := by rw [beq_eq_false_iff_ne]; omega
  clear hE hE0 hok hb0 hbr hbn hsz
  obtain ⟨A, hA⟩ : ∃ A, adjE E n = A := ⟨_, rfl⟩
  rw [hA] at HAdj HMul Hsz ⊢
  clear hA
  go_enter Try.func44, Try.ntmps44
  go_wp2_with fail
  refine (HId.out _).mono ?_
  rintro e W1 ⟨hb1, hr⟩
  rcases hr with ⟨_, q1, k1, rfl, hM1⟩ | ⟨h0, _⟩
  rotate_left 1
  · exact absurd rfl h0
  dsimp only
  have Hb1 := Lib.hid hb1
  have HM1 := Lib.hid (show MatF W1 q1 N N (powF N A 0) from hM1)
  obtain ⟨⟨_, y0, y1, y2⟩, _, _⟩ := HB.out _ hb1
  clear hb1 hM1 HId c0 c1 c2 hW0
  go_wp2_with fail
  refine (HAdj.out _ Hb1.out).mono ?_
  rintro e W2 ⟨q2, k2, rfl, hM2, hb2⟩
  dsimp only
  have HM1' := Lib.hid (HM1.out.below (Nat.le_refl _) hb2)
  have HM2 := Lib.hid (show MatF W2 q2 N N (powF N A 1) from hM2.congr fun i k hi _ => (powF_one N A i k hi).symm)
  have Hb2 := Lib.hid (Hb1.out.trans (hb2.mono Hb1.out.size))
  clear hb2 hM2 HAdj Hb1 HM1 y0 y1 y2
  go_wp2_with fail
  go_loopw [1, 5, 7] (fun kv pv qv wr => ∃ (m a b : Nat) (p q : Option Addr) (cp cq : Nat), kv = .int .i64 (m : Nat) ∧ pv = .slice p N cp ∧ qv = .slice q N cq ∧ m ≤ 4096 ∧ a ≤ 4096 ∧ Hid (a + b * m = K) ∧ Hid (MatF wr p N N (powF N A a)) ∧ Hid (MatF wr q N N (powF N A b)) ∧ Hid (Below W0.heap.size W0 wr)) (fun kv _ _ _ => (intOf kv).toNat)
  case atStart => exact ⟨K, 0, 1, q1, q2, k1, k2, by go_num, rfl, rfl, hK, by omega, Lib.hid (by omega), HM1', HM2, Hb2⟩
  case round =>
    clear HM1' HM2 Hb2
    obtain ⟨m, a, b, p1, p2, d1, d2, rfl, rfl, rfl, hm, ha, HK, HP, HQ, Hb⟩ := hrel
    by_cases hm0 : 0 < m
    · have m1 : (m : Int) > 0 := by omega
      have hmK : b ≤ K := by
        have h := HK.out
        have h2 : b * 1 ≤ b * m := Nat.mul_le_mul_left b hm0
        omega
      have Hqq : Hid (IntKind.i64.wrap ((m : Int) / 2) = ((m / 2 : Nat) : Int) ∧ wrap64 ((m : Int) / 2) = ((m / 2 : Nat) : Int)) := Lib.hid ⟨by rw [half_nat]; exact IntWalk.i64_in _ (by omega), by rw [half_nat]; exact IntWalk.wrap64_in _ (by omega)⟩
      by_cases hodd : m % 2 = 1
      · have r1 : (((m : Int) % 2) == 1) = true := by rw [beq_iff_eq]; omega
        have hab : a + b ≤ K := by
          have h := HK.out
          have h2 : b * 1 ≤ b * m := Nat.mul_le_mul_left b hm0
          omega
        have HMab := Lib.hid (HMul.out _ p1 p2 d1 d2 a b (by omega) HP.out HQ.out)
        go_wp2_with fail
        refine HMab.out.mono ?_
        rintro e V1 ⟨hb1, hr⟩
        rcases hr with ⟨_, q3, k3, rfl, hM3⟩ | ⟨h0, _⟩
        rotate_left 1
        · exact absurd rfl h0
        dsimp only
        have HP3 := Lib.hid hM3
        have HQ3 := Lib.hid (HQ.out.below (Nat.le_refl _) hb1)
        have Hb3 := Lib.hid (Hb.out.trans (hb1.mono Hb.out.size))
        clear hM3 hb1 HMab HP HQ Hb
        by_cases hm1 : 1 < m
        · have m2 : (m : Int) > 1 := by omega
          have h2b : b + b ≤ K := by
            have h := HK.out
            have h2 : b * 2 ≤ b * m := Nat.mul_le_mul_left b (by omega)
            omega
          have HMbb := Lib.hid (HMul.out _ p2 p2 d2 d2 b b (by omega) HQ3.out HQ3.out)
          have HKn : Hid (a + b + (b + b) * (m / 2) = K) := Lib.hid (by
            have h := HK.out
            have h3 : (b + b) * (m / 2) = b * (2 * (m / 2)) := by rw [← Nat.two_mul, Nat.mul_comm 2 b, Nat.mul_assoc]
            have h4 : b * m = b * (2 * (m / 2)) + b := by
              have : m = 2 * (m / 2) + 1 := by omega
              conv => lhs; rw [this]
              rw [Nat.mul_add, Nat.mul_one]
            omega)
          go_wp2_with fail
          refine HMbb.out.mono ?_
          rintro e V2 ⟨hb1, hr⟩
          rcases hr with ⟨_, q4, k4, rfl, hM4⟩ | ⟨h0, _⟩
          rotate_left 1
          · exact absurd rfl h0
          dsimp only
          have HP4 := Lib.hid (HP3.out.below (Nat.le_refl _) hb1)
          have HQ4 := Lib.hid hM4
          have Hb4 := Lib.hid (Hb3.out.trans (hb1.mono Hb3.out.size))
          clear hM4 hb1 HMbb HP3 HQ3 Hb3
          obtain ⟨hq1, hq2⟩ := Hqq.out
          go_wp2_with fail
          go_roundw
          all_goals clear hq1 hq2
          case rel => exact ⟨m / 2, a + b, b + b, q3, q4, k3, k4, by go_num, rfl, rfl, by omega, by omega, HKn, HP4, HQ4, Hb4⟩
          case measure => simp only [intOf]; omega
        · have m2 : ¬ (m : Int) > 1 := by omega
          have HKn : Hid (a + b + b * (m / 2) = K) := Lib.hid (by
            have h := HK.out
            have : m = 1 := by omega
            subst this
            simp at h ⊢
            exact h)
          obtain ⟨hq1, hq2⟩ := Hqq.out
          go_wp2_with fail
          go_roundw
          all_goals clear hq1 hq2
          case rel => exact ⟨m / 2, a + b, b, q3, p2, k3, d2, by go_num, rfl, rfl, by omega, by omega, HKn, HP3, HQ3, Hb3⟩
          case measure => simp only [intOf]; omega
      · have r1 : (((m : Int) % 2) == 1) = false := by rw [beq_eq_false_iff_ne]; omega
        have m2 : (m : Int) > 1 := by omega
        have h2b : b + b ≤ K := by
          have h := HK.out
          have h2 : b * 2 ≤ b * m := Nat.mul_le_mul_left b (by omega)
          omega
        have HMbb := Lib.hid (HMul.out _ p2 p2 d2 d2 b b (by omega) HQ.out HQ.out)
        have HKn : Hid (a + (b + b) * (m / 2) = K) := Lib.hid (by
          have h := HK.out
          have h3 : (b + b) * (m / 2) = b * (2 * (m / 2)) := by rw [← Nat.two_mul, Nat.mul_comm 2 b, Nat.mul_assoc]
          rw [h3, show 2 * (m / 2) = m from by omega]
          exact h)
        go_wp2_with fail
        refine HMbb.out.mono ?_
        rintro e V2 ⟨hb1, hr⟩
        rcases hr with ⟨_, q4, k4, rfl, hM4⟩ | ⟨h0, _⟩
        rotate_left 1
        · exact absurd rfl h0
        dsimp only
        have HP4 := Lib.hid (HP.out.below (Nat.le_refl _) hb1)
        have HQ4 := Lib.hid hM4
        have Hb4 := Lib.hid (Hb.out.trans (hb1.mono Hb.out.size))
        clear hM4 hb1 HMbb HP HQ Hb
        obtain ⟨hq1, hq2⟩ := Hqq.out
        go_wp2_with fail
        go_roundw
        all_goals clear hq1 hq2
        case rel => exact ⟨m / 2, a, b + b, p1, q4, d1, k4, by go_num, rfl, rfl, by omega, by omega, HKn, HP4, HQ4, Hb4⟩
        case measure => simp only [intOf]; omega
    · have m1 : ¬ (m : Int) > 0 := by omega
      have haK : a = K := by
        have h := HK.out
        have : m = 0 := by omega
        subst this
        simpa using h
      rw [haK] at HP
      clear HMul HQ HK haK
      obtain ⟨F, hF⟩ : ∃ F, powF N A K = F := ⟨_, rfl⟩
      have Htr0 : Hid (trF N (powF N A K) = dotN (fun i => F i i) N) := Lib.hid (by rw [← hF]; rfl)
      rw [hF] at HP Hsz
      clear hF
      go_wp2_with fail
      obtain ⟨Z, hZ⟩ : ∃ Z, wr = Z := ⟨_, rfl⟩
      rw [hZ] at HP Hb ⊢
      clear hZ
      have Hx : Hid (BoxAt (Z.alloc (.cells #[.bool false, .string ⟨#[]⟩] 28)) Z.heap.size (.bool (canon (dotN (fun i => F i i) 0)).neg) (.string (canon (dotN (fun i => F i i) 0)).mag)) := Lib.hid (BoxAt.new Z (.bool false) (.string ⟨#[]⟩) 28)
      have Hy : Hid (Below Z.heap.size Z (Z.alloc (.cells #[.bool false, .string ⟨#[]⟩] 28))) := Lib.hid ((Below.refl _ _).alloc (Nat.le_refl _) _)
      obtain ⟨g8, hg8⟩ : ∃ g, Z.heap.size = g := ⟨_, rfl⟩
      rw [hg8] at Hx Hy ⊢
      have Hg8 := Lib.hid hg8
      generalize Z.alloc (.cells #[.bool false, .string ⟨#[]⟩] 28) = V at *
      clear hg8
      go_loopw [46] (fun iv wr => ∃ i : Nat, i ≤ N ∧ iv = .int .i64 (i : Nat) ∧ Hid (BoxAt wr g8 (.bool (canon (dotN (fun i => F i i) i)).neg) (.string (canon (dotN (fun i => F i i) i)).mag)) ∧ Hid (Below g8 Z wr)) (fun iv _ => N - (intOf iv).toNat)
      case atStart => exact ⟨0, by omega, by go_num, Hx, Hy⟩
      case round =>
        clear Hx Hy
        obtain ⟨i, hi, rfl, Hx, Hy⟩ := hrel
        by_cases hil : i < N
        · have i1 : (i : Int) < (N : Int) := by omega
          have i0 : (0 : Int) ≤ (i : Int) := by omega
          obtain ⟨hb8, ho8, rfl, hb8l, H, hH, hR⟩ := (HP.out.below (B := g8) (by rw [Hg8.out]; exact Nat.le_refl _) Hy.out).cells hil
          obtain ⟨rb, ro, hre, _, hrc⟩ := RowF.cells (hR i hil) hil
          have hrl : rb < g8 := by
            obtain ⟨hb9, ho9, he9, _, H', hH', hR'⟩ := HP.out.cells hil
            cases he9
            obtain ⟨rb', ro', hre', hrl', _⟩ := RowF.cells (hR' i hil) hil
            have e1 := hH i hil
            have e2 := hH' i hil
            rw [Hy.out.cell (p := ⟨hb8, _, none⟩) (by
              have := World.block_lt_of_cell? Z _ e2
              rw [Hg8.out] at this
              exact this), e2] at e1
            injection e1 with e1
            injection e1 with e1
            rw [hre, hre'] at e1
            injection e1 with e1
            injection e1 with e1
            rw [← e1, ← Hg8.out]
            exact hrl'
          have c0 := hH i hil
          rw [hre] at c0
          obtain ⟨d0, d1⟩ := hrc i hil
          have hs1 := Hsz.out.1 i (by omega)
          have hs2 := Hsz.out.2 i hil
          have hnx : dotN (fun i => F i i) (i + 1) = dotN (fun i => F i i) i + F i i := rfl
          obtain ⟨x, hx⟩ : ∃ x, dotN (fun i => F i i) i = x := ⟨_, rfl⟩
          obtain ⟨y, hy⟩ : ∃ x, F i i = x := ⟨_, rfl⟩
          rw [hx] at hs1 hnx Hx
          rw [hy] at hs2 hnx d0 d1
          have HA := Lib.hid (fun W => addc_any x y hs1 hs2 W)
          obtain ⟨u, hu⟩ : ∃ u, x + y = u := ⟨_, rfl⟩
          rw [hu] at HA hnx
          have Hnx := Lib.hid hnx
          obtain ⟨Y, hY⟩ : ∃ Z, canon y = Z := ⟨_, rfl⟩
          obtain ⟨X, hX⟩ : ∃ Z, canon x = Z := ⟨_, rfl⟩
          rw [hY] at d0 d1 HA
          rw [hX] at Hx HA
          clear hs1 hs2 hnx hx hy hu hrc hH hR hre hb8l hY hX
          go_upto_region 15 with (fail)
          obtain ⟨V0, hV0⟩ : ∃ V, wr = V := ⟨_, rfl⟩
          rw [hV0] at d0 d1 Hx Hy c0 ⊢
          clear hV0
          obtain ⟨SS, hSe⟩ : ∃ SS : World → Prop, SS = fun W => W.cell? ⟨rb, ro + i * 2, none⟩ = some (.bool Y.neg) ∧ W.cell? ⟨rb, ro + i * 2 + 1, none⟩ = some (.string Y.mag) := ⟨_, rfl⟩
          have HS : Hid (∀ W, Below V0.heap.size V0 W → SS W) := Lib.hid (fun W hW => by rw [hSe]; exact ⟨cell_below hW d0, cell_below hW d1⟩)
          clear d0 d1
          have hd : Below V0.heap.size V0 V0.drew := (Below.refl V0.heap.size V0).drew
          have HXX : Hid (∀ W, Below V0.heap.size V0 W → BoxAt W g8 (.bool X.neg) (.string X.mag) ∧ Below g8 Z W) := Lib.hid (fun W hW => ⟨Hx.out.below hW Hx.out.2.2.2.2, Hy.out.trans (hW.mono (Nat.le_of_lt Hx.out.2.2.2.2))⟩)
          refine wp_region_held_drew (S := SS) (by kernel_rfl) (HS.out _ hd) (fun hSS => ?_)
          refine wpAnyH_take (i := 1) (v := ?_) rfl (by kernel_rfl) (by kernel_rfl) (by kernel_rfl) (fun _ _ _ h => h) (Or.inl ⟨by rfl, ?_⟩) hSS ?_
          rotate_left 1
          next => intro w hSw; rw [hSe] at hSw; obtain ⟨s1, s2⟩ := hSw; go_simp; try with_reducible rfl
          refine wpAnyH_take (i := 2) (v := ?_) rfl (by kernel_rfl) (by kernel_rfl) (by kernel_rfl) (fun _ _ _ h => h) (Or.inl ⟨by rfl, ?_⟩) hSS ?_
          rotate_left 1
          next => intro w hSw; rw [hSe] at hSw; obtain ⟨s1, s2⟩ := hSw; go_simp; try with_reducible rfl
          refine wpAnyH_take (i := 3) (v := ?_) rfl (by kernel_rfl) (by kernel_rfl) (by kernel_rfl) (fun _ _ _ h => h) (Or.inl ⟨by rfl, ?_⟩) hSS ?_
          rotate_left 1
          next => intro w hSw; rw [hSe] at hSw; obtain ⟨s1, s2⟩ := hSw; go_simp; try with_reducible rfl
          refine wpAnyH_take (i := 4) (v := ?_) rfl (by kernel_rfl) (by kernel_rfl) (by kernel_rfl) (fun _ _ _ h => h) (Or.inl ⟨by rfl, ?_⟩) hSS ?_
          rotate_left 1
          next => intro w hSw; rw [hSe] at hSw; obtain ⟨s1, s2⟩ := hSw; go_simp; try with_reducible rfl
          obtain ⟨⟨z1, z2, z3, z4, _⟩, _⟩ := HXX.out _ hd
          try simp only [Act.put, List.getElem_toArray, List.getElem_cons_zero, List.getElem_cons_succ, List.setIfInBounds_toArray, List.set_cons_zero, List.set_cons_succ]
          refine wpAnyH_ready (rs := [0]) (by kernel_rfl) (by simp) ?_
          refine AllReadyH.cons rfl (fun K hK => ?_) AllReadyH.nil
          go_simp
          refine hK.out _ _ (HS.out _ hd) (fun _ => ?_)
          clear hK K z1 z2 z3 z4
          try simp only [Act.put, List.getElem_toArray, List.getElem_cons_zero, List.getElem_cons_succ, List.setIfInBounds_toArray, List.set_cons_zero, List.set_cons_succ]
          refine wpAnyH_ready (rs := [5]) (by kernel_rfl) (by simp) ?_
          refine AllReadyH.cons rfl (fun K hK => ?_) AllReadyH.nil
          go_simp
          refine (HA.out _).mono ?_
          rintro e V1 ⟨rfl, hbc⟩
          have hV1 : Below V0.heap.size V0 V1 := hd.trans (hbc.mono hd.size)
          dsimp only
          refine hK.out _ _ (HS.out _ hV1) (fun _ => ?_)
          clear hK K hbc
          obtain ⟨hx1, hy1⟩ := HXX.out _ hV1
          have hx2 := boxp_set hx1 (.bool (canon u).neg) (.string (canon u).mag)
          have hy2 : Below g8 Z ((V1.setCell ⟨g8, 0, none⟩ (.bool (canon u).neg)).setCell ⟨g8, 1, none⟩ (.string (canon u).mag)) := (hy1.setCell (Nat.le_refl _) _).setCell (Nat.le_refl _) _
          have hx9 : BoxAt ((V1.setCell ⟨g8, 0, none⟩ (.bool (canon u).neg)).setCell ⟨g8, 1, none⟩ (.string (canon u).mag)) g8 (.bool (canon (dotN (fun i => F i i) (i + 1))).neg) (.string (canon (dotN (fun i => F i i) (i + 1))).mag) := by rw [Hnx.out]; exact hx2
          obtain ⟨z1, z2, z3, z4, _⟩ := hx1
          have hSS1 := HS.out _ hV1
          have HS4 : SS ((V1.setCell ⟨g8, 0, none⟩ (.bool (canon u).neg)).setCell ⟨g8, 1, none⟩ (.string (canon u).mag)) := by
            rw [hSe] at hSS1 ⊢
            obtain ⟨s1, s2⟩ := hSS1
            refine ⟨?_, ?_⟩ <;> rw [World.cell?_setCell_other _ _ _ _ (by intro hh; simp only [Addr.mk.injEq] at hh; omega), World.cell?_setCell_other _ _ _ _ (by intro hh; simp only [Addr.mk.injEq] at hh; omega)]
            · exact s1
            · exact s2
          try simp only [Act.put, List.getElem_toArray, List.getElem_cons_zero, List.getElem_cons_succ, List.setIfInBounds_toArray, List.set_cons_zero, List.set_cons_succ]
          refine wpAnyH_ready (rs := [6]) (by kernel_rfl) (by simp) ?_
          refine AllReadyH.cons rfl (fun K hK => ?_) AllReadyH.nil
          go_simp
          refine hK.out _ _ (HS4) (fun _ => ?_)
          clear hK K
          refine wpAnyH_done (by kernel_rfl) ?_ _
          have HX9 := Lib.hid hx9
          have HY9 := Lib.hid hy2
          clear hx2 hx9 hy2 hy1 z1 z2 z3 z4 HS4 hSS1 HS hSe hSS hd hV1 HXX HA Hx Hy c0
          go_wp2
          go_roundw
          case rel => exact ⟨i + 1, by omega, by go_num, HX9, HY9⟩
          case measure => simp [intOf]; omega
        · have i1 : ¬ (i : Int) < (N : Int) := by omega
          have hie : i = N := by omega
          rw [hie] at Hx
          have hbz : Below W0.heap.size W0 wr := Hb.out.trans (Hy.out.mono (by rw [← Hg8.out]; exact Hb.out.size))
          obtain ⟨_, hbw, hbr⟩ := HB.out _ hbz
          obtain ⟨r0, r1, r2, r3, r4⟩ := hbr
          obtain ⟨s0, s1, s2, s3, s4⟩ := Hx.out
          have Hbw := Lib.hid hbw
          have Htr := Lib.hid Htr0.out
          obtain ⟨T, hT⟩ : ∃ T, dotN (fun i => F i i) N = T := ⟨_, rfl⟩
          rw [hT] at s0 s1 Htr
          clear hie Hx Hy HB hbz hbw Hb HP hT
          go_wp2
          refine bodyPost_ret (v := .agg #[.bool (canon T).neg, .string (canon T).mag]) (by simp [results, Try.results44, go_sem, r0, r1]) rfl ?_
          rw [Htr.out]
          exact ⟨rfl, (Hbw.out.setCell (by simp) _).setCell (by simp) _⟩
end Go.Proofs.Ytlaoijfphkhchaa
