/- The walk of matrix.Apply. -/
import Derived.Test.YtlkoiekdafaapaaWtr
namespace Go.Proofs.Ytlkoiekdafaapaa
open Go.RowKit Go.Shelf

def applyE (a : GM) (n : Nat) (Z : Nat → ZI) : Int := if (a.chk != 0 || anyN (fun k => !okZ (Z k)) n) = true then 1 else if n ≠ a.L 0 then 11 else 0
theorem applyE_zero {a : GM} {n : Nat} {Z : Nat → ZI} (h : applyE a n Z = 0) : a.chk = 0 ∧ n = a.L 0 ∧ ∀ k, k < n → Z k = canon (valZ (Z k)) := by
  unfold applyE at h
  split at h
  · cases h
  · rename_i h1
    split at h
    · cases h
    · rename_i h2
      rw [Bool.not_eq_true, Bool.or_eq_false_iff, anyN_false] at h1
      exact ⟨by simpa using h1.1, by omega, fun k hk => by simpa [okZ] using h1.2 k hk⟩
/-- Within Apply: i rows are done, and k numbers of the next one. -/
structure ApI (w wr : World) (g r n i k : Nat) (F : Nat → Nat → Int) (V : Nat → Int) : Prop where
  below : Below w.heap.size w wr
  cur : ZAt wr g r (fun m => if m < i then dotN (fun j => F m j * V j) n else if m = i then dotN (fun j => F i j * V j) k else 0)
  low : w.heap.size ≤ g
theorem ApI.start (w wr : World) (hb : Below w.heap.size w wr) (r n : Nat) (t : TypeId) (F : Nat → Nat → Int) (V : Nat → Int) : ApI w (wr.alloc (.cells (madeCells #[.bool false, .string ⟨#[]⟩] (r * 2)) t)) wr.heap.size r n 0 0 F V :=
  ⟨hb.alloc hb.size _, (made_zero wr r t).congr fun k _ => by
    rw [if_neg (by omega)]
    split <;> rfl, hb.size⟩
theorem ApI.call {w wr wr' : World} {g r n i k : Nat} {F : Nat → Nat → Int} {V : Nat → Int} (h : ApI w wr g r n i k F V) (hb : Below wr.heap.size wr wr') : ApI w wr' g r n i k F V :=
  ⟨h.below.trans (hb.mono h.below.size), h.cur.below hb h.cur.1, h.low⟩
theorem ApI.put {w wr : World} {g r n i k : Nat} {F : Nat → Nat → Int} {V : Nat → Int} (h : ApI w wr g r n i k F V) :
    ApI w ((wr.setCell ⟨g, i * 2, none⟩ (.bool (canon (dotN (fun j => F i j * V j) (k + 1))).neg)).setCell ⟨g, i * 2 + 1, none⟩ (.string (canon (dotN (fun j => F i j * V j) (k + 1))).mag)) g r n i (k + 1) F V :=
  ⟨(h.below.setCell (by simpa using h.low) _).setCell (by simpa using h.low) _, (h.cur.set _).congr fun m _ => by
    by_cases e : m = i
    · subst e; simp
    · simp [e], h.low⟩
theorem ApI.leave {w wr : World} {g r n i : Nat} {F : Nat → Nat → Int} {V : Nat → Int} (h : ApI w wr g r n i n F V) : ApI w wr g r n (i + 1) 0 F V :=
  ⟨h.below, h.cur.congr fun m _ => by
    by_cases e : m = i
    · subst e; simp
    · by_cases e2 : m < i
      · rw [if_pos e2, if_pos (by omega)]
      · rw [if_neg e2, if_neg e, if_neg (by omega)]
        split <;> rfl, h.low⟩
set_option maxRecDepth 100000 in
set_option maxHeartbeats 4000000 in
theorem apply_m (a : GM) (p : Option Addr) (cp : Nat) (q : Option Addr) (n cq : Nat) (Z : Nat → ZI) (hfa : a.Fit) (hn : n ≤ 1000000) (hfZ : ∀ k, k < n → (Z k).mag.size ≤ 100000000) (hok : applyE a n Z = 0 → Small a.r n a.F ∧ SmallP a.r n 1 a.F (fun j _ => valZ (Z j))) (w : World) (ha : a.At w p) (hq : GRow w q n Z) :
    Calls Try.prog 29 #[.slice p a.r cp, .slice q n cq] w (RetRowE (applyE a n Z) a.r (fun i => dotN (fun j => a.F i j * valZ (Z j)) n) w) := by
  have hb0 : Below w.heap.size w (w.alloc (.cells #[.slice p a.r cp] 22)) := (Below.refl _ w).alloc (Nat.le_refl _) _
  have HB := Lib.hid (bad1m a p cp hfa w ha (w.alloc (.cells #[.slice p a.r cp] 22)) w.heap.size hb0 (by simp))
  have Hb0 := Lib.hid hb0
  clear hb0
  by_cases hz : a.chk = 0
  · have hz2 : (a.chk != 0) = false := by rw [hz]; rfl
    rw [hz2] at HB
    have HO := Lib.hid (fun (W : World) (hW : Below w.heap.size w W) => odd_any n q cq Z (by omega) W (hq.mono (Nat.le_refl _) hW) hfZ)
    by_cases ho : anyN (fun k => !okZ (Z k)) n = true
    · have hv : applyE a n Z = 1 := if_pos (by rw [ho]; simp)
      rw [hv]
      rw [ho] at HO
      clear hz hz2 hok hfa ha ho hv hfZ hq
      generalize a.r = r at *
      generalize (fun i => dotN (fun j => a.F i j * valZ (Z j)) n) = D at *
      go_enter Try.func29, Try.ntmps29
      go_wp2_with fail
      refine HB.out.mono ?_
      rintro e w2 ⟨rfl, hb2⟩
      dsimp only
      have Hb := Lib.hid (Hb0.out.trans (hb2.mono (by simp)))
      clear hb2 HB
      go_wp2_with fail
      refine (HO.out _ Hb.out).mono ?_
      rintro e w3 ⟨rfl, hb3⟩
      dsimp only
      have Hb3 := Lib.hid (Hb.out.trans (hb3.mono Hb.out.size))
      clear hb3 HO
      go_wp2
      refine bodyPost_ret (v := .tuple #[.slice none 0 0, .int .i64 1]) (by simp [results, Try.results29, go_sem]) rfl ?_
      exact ⟨Hb3.out, .inr ⟨by decide, rfl⟩⟩
    have ho2 : anyN (fun k => !okZ (Z k)) n = false := by simpa using ho
    rw [ho2] at HO
    have hcan : ∀ k, k < n → Z k = canon (valZ (Z k)) := fun k hk => by
      rw [anyN_false] at ho2
      simpa [okZ] using ho2 k hk
    obtain ⟨r0, c0, r1, c1, _, _⟩ := GM.chk_zero hz
    obtain ⟨bl, off, q1, c2, hpe, hbl, a0⟩ := GM.head ha r0
    have r0' : (0 : Int) < (a.r : Int) := by omega
    have hv1 : applyE a n Z = if n ≠ a.L 0 then 11 else 0 := if_neg (by rw [hz, ho2]; decide)
    by_cases hl : n = a.L 0
    · have hv : applyE a n Z = 0 := by rw [hv1, if_neg (by omega)]
      have e1 : ((n : Int) != (a.L 0 : Int)) = false := by rw [hl, bne_self_eq_false]
      obtain ⟨s1, s2⟩ := hok hv
      rw [hv]
      have hM := GM.mat ha hz
      rw [← hl] at hM a0 e1 c0 c1
      obtain ⟨V, hV⟩ : ∃ V : Nat → Int, V = fun j => valZ (Z j) := ⟨_, rfl⟩
      have hR : RowF w q n V := hq.congr fun k hk j _ => by
        rw [hV]
        show zg (Z k) j = zc (valZ (Z k)) j
        unfold zg zc
        rw [← hcan k hk]
      rw [show (fun i => dotN (fun j => a.F i j * valZ (Z j)) n) = fun i => dotN (fun j => a.F i j * V j) n from by rw [hV]]
      rw [show (fun j _ => valZ (Z j) : Nat → Nat → Int) = fun j _ => V j from by rw [hV]] at s2
      have HM := Lib.hid hM
      have HR := Lib.hid hR
      have HsF := Lib.hid s1
      have HsV : Hid (∀ j, j < n → (canon (V j)).mag.size ≤ 100000000) := Lib.hid (fun j hj => by rw [hV]; dsimp only; rw [← hcan j hj]; exact hfZ j hj)
      have HsP := Lib.hid s2
      clear hz hz2 hok hfa ha ho ho2 hv hv1 hfZ hq hcan hM hR hV hl s1 s2
      generalize a.r = r at *
      generalize a.F = F at *
      subst hpe
      go_enter Try.func29, Try.ntmps29
      go_wp2_with fail
      refine HB.out.mono ?_
      rintro e w2 ⟨rfl, hb2⟩
      dsimp only
      have Hb := Lib.hid (Hb0.out.trans (hb2.mono (by simp)))
      clear hb2 HB
      go_wp2_with fail
      refine (HO.out _ Hb.out).mono ?_
      rintro e w3 ⟨rfl, hb3⟩
      dsimp only
      have hb4 := Hb.out.trans (hb3.mono Hb.out.size)
      have Hb3 := Lib.hid hb4
      have a3 := cell_below hb4 a0
      have hmk := make_zs r (by omega) w3
      have Hst := Lib.hid (ApI.start w w3 hb4 r n 27 F V)
      clear hb3 HO hb4
      generalize w3.alloc (.cells (madeCells #[.bool false, .string ⟨#[]⟩] (r * 2)) 27) = w4 at *
      generalize w3.heap.size = g at *
      go_wp2
      go_loopw [30] (fun v wr => ∃ i : Nat, i ≤ r ∧ v = .int .i64 i ∧ Hid (ApI w wr g r n i 0 F V)) (fun v _ => r - (intOf v).toNat)
      case atStart => exact ⟨0, by omega, by go_num, Hst⟩
      case round =>
        clear Hst hmk a3 Hb3 Hb
        obtain ⟨i, hi, rfl, HA⟩ := hrel
        by_cases hlt : i < r
        · have i0 : (0 : Int) ≤ (i : Int) := by omega
          have i1 : (i : Int) < (r : Int) := by omega
          obtain ⟨fb, fo, hpe, hfb, H, hH, hRr⟩ := HM.out.cells hlt
          obtain ⟨he1, he2, _⟩ := Addr.mk.inj (Option.some.inj hpe)
          subst he1 he2
          have a5 := cell_below HA.out.below (hH i hlt)
          have HRi := Lib.hid (hRr i hlt)
          clear hH hRr hpe
          go_wp2
          go_loopw [37] (fun v wr => ∃ k : Nat, k ≤ n ∧ v = .int .i64 k ∧ Hid (ApI w wr g r n i k F V)) (fun v _ => n - (intOf v).toNat)
          case atStart => exact ⟨0, by omega, by go_num, HA⟩
          case round =>
            clear HA a5
            obtain ⟨k, hk, rfl, HA⟩ := hrel
            by_cases hkl : k < n
            · have k0 : (0 : Int) ≤ (k : Int) := by omega
              have k1 : (k : Int) < (n : Int) := by omega
              obtain ⟨ab, ao, hpe, hab, hac⟩ := HRi.out.cells hkl
              obtain ⟨a6, a7⟩ := hac k hkl
              have a6 := cell_below HA.out.below a6
              have a7 := cell_below HA.out.below a7
              obtain ⟨vb, vo, hqe, hvb, hvc⟩ := HR.out.cells hkl
              obtain ⟨v6, v7⟩ := hvc k hkl
              have v6 := cell_below HA.out.below v6
              have v7 := cell_below HA.out.below v7
              rw [hpe]
              rw [hqe]
              clear hac hvc
              go_wp2
              have hXb := (Below.refl wr.heap.size wr).alloc (Nat.le_refl _) (.cells #[.bool (canon (F i k)).neg, .string (canon (F i k)).mag] 27)
              have hbx := BoxAt.new wr (.bool (canon (F i k)).neg) (.string (canon (F i k)).mag) 27
              have hgl : g < wr.heap.size := HA.out.cur.1
              have hwl : w.heap.size ≤ wr.heap.size := HA.out.below.size
              have hglow : w.heap.size ≤ g := HA.out.low
              have HA := Lib.hid (HA.out.call hXb)
              have v6 := cell_below hXb v6
              have v7 := cell_below hXb v7
              have hF1 := HsF.out i k hlt hkl
              have hV1 := HsV.out k hkl
              obtain ⟨hP1, hP2⟩ := HsP.out i 0 hlt (by omega)
              have HM := Lib.hid (fun W => mulc_any (F i k) (V k) hF1 hV1 W)
              have HA1 := Lib.hid (fun W => addc_any (dotN (fun j => F i j * V j) k) (F i k * V k) (hP1 k (by omega)) (hP2 k hkl) W)
              rw [show dotN (fun j => F i j * V j) k + F i k * V k = dotN (fun j => F i j * V j) (k + 1) from rfl] at HA1
              clear hP1 hP2 hF1 hV1 a6 a7
              generalize wr.alloc (.cells #[.bool (canon (F i k)).neg, .string (canon (F i k)).mag] 27) = X at *
              obtain ⟨gx, hgx⟩ : ∃ gx, wr.heap.size = gx := ⟨_, rfl⟩
              rw [hgx] at hbx hgl ⊢
              have HN := Lib.hid (fun (W : World) (h : Below X.heap.size X W) => (HA.out.call h).put)
              have HX0 : ∀ W : World, Below X.heap.size X W → (W.cell? ⟨g, i * 2, none⟩ = some (.bool (canon (dotN (fun j => F i j * V j) k)).neg) ∧ W.cell? ⟨g, i * 2 + 1, none⟩ = some (.string (canon (dotN (fun j => F i j * V j) k)).mag)) ∧ W.frozen? ⟨g, i * 2, none⟩ = false ∧ W.frozen? ⟨g, i * 2 + 1, none⟩ = false := fun W h => by
                have h2 := (HA.out.call h).cur.2 i hlt
                simpa using h2
              obtain ⟨XF, hXF⟩ : ∃ Z, canon (F i k) = Z := ⟨_, rfl⟩
              obtain ⟨XG, hXG⟩ : ∃ Z, canon (V k) = Z := ⟨_, rfl⟩
              obtain ⟨XP, hXP⟩ : ∃ Z, canon (F i k * V k) = Z := ⟨_, rfl⟩
              obtain ⟨XS, hXS⟩ : ∃ Z, canon (dotN (fun j => F i j * V j) k) = Z := ⟨_, rfl⟩
              obtain ⟨XT, hXT⟩ : ∃ Z, canon (dotN (fun j => F i j * V j) (k + 1)) = Z := ⟨_, rfl⟩
              rw [hXF] at HM hbx ⊢
              rw [hXG] at HM v6 v7
              rw [hXP] at HM HA1
              rw [hXS] at HA1 HX0
              rw [hXT] at HA1 HN
              clear hXF hXG hXP hXS hXT
              have HX := Lib.hid HX0
              obtain ⟨SS, hSe⟩ : ∃ SS : World → Prop, SS = fun W => W.cell? ⟨gx, 0, none⟩ = some (.bool XF.neg) ∧ W.cell? ⟨gx, 1, none⟩ = some (.string XF.mag) ∧ W.cell? ⟨vb, vo + k * 2, none⟩ = some (.bool XG.neg) ∧ W.cell? ⟨vb, vo + k * 2 + 1, none⟩ = some (.string XG.mag) := ⟨_, rfl⟩
              have HS : Hid (∀ W, Below X.heap.size X W → SS W) := Lib.hid (fun W hW => by rw [hSe]; exact ⟨cell_below hW hbx.1, cell_below hW hbx.2.1, cell_below hW v6, cell_below hW v7⟩)
              have HS2 : Hid (∀ W v1 v2, SS W → SS ((W.setCell ⟨g, i * 2, none⟩ v1).setCell ⟨g, i * 2 + 1, none⟩ v2)) := Lib.hid (fun W v1 v2 hW => by
                rw [hSe] at hW ⊢
                obtain ⟨s1, s2, s3, s4⟩ := hW
                refine ⟨?_, ?_, ?_, ?_⟩ <;> (rw [World.cell?_setCell_other _ _ _ _ (by intro hh; simp only [Addr.mk.injEq] at hh; omega), World.cell?_setCell_other _ _ _ _ (by intro hh; simp only [Addr.mk.injEq] at hh; omega)]; assumption))
              clear HX0 hbx v6 v7 hXb HA
              have hd : Below X.heap.size X X.drew := (Below.refl X.heap.size X).drew
              have hd : Below X.heap.size X X.drew := hd
              have hSS := HS.out _ hd
              refine wp_region_held_drew (S := SS) (by kernel_rfl) hSS (fun hSS => ?_)
              refine wpAnyH_take (i := 0) (v := ?_) rfl (by kernel_rfl) (by kernel_rfl) (by kernel_rfl) (fun _ _ _ h => h) (Or.inl ⟨by rfl, ?_⟩) hSS ?_
              rotate_left 1
              next => intro w hSw; rw [hSe] at hSw; obtain ⟨s1, s2, s3, s4⟩ := hSw; go_simp; try with_reducible rfl
              refine wpAnyH_take (i := 1) (v := ?_) rfl (by kernel_rfl) (by kernel_rfl) (by kernel_rfl) (fun _ _ _ h => h) (Or.inl ⟨by rfl, ?_⟩) hSS ?_
              rotate_left 1
              next => intro w hSw; rw [hSe] at hSw; obtain ⟨s1, s2, s3, s4⟩ := hSw; go_simp; try with_reducible rfl
              refine wpAnyH_take (i := 2) (v := ?_) rfl (by kernel_rfl) (by kernel_rfl) (by kernel_rfl) (fun _ _ _ h => h) (Or.inl ⟨by rfl, ?_⟩) hSS ?_
              rotate_left 1
              next => intro w hSw; rw [hSe] at hSw; obtain ⟨s1, s2, s3, s4⟩ := hSw; go_simp; try with_reducible rfl
              refine wpAnyH_take (i := 3) (v := ?_) rfl (by kernel_rfl) (by kernel_rfl) (by kernel_rfl) (fun _ _ _ h => h) (Or.inl ⟨by rfl, ?_⟩) hSS ?_
              rotate_left 1
              next => intro w hSw; rw [hSe] at hSw; obtain ⟨s1, s2, s3, s4⟩ := hSw; go_simp; try with_reducible rfl
              refine wpAnyH_take (i := 4) (v := ?_) rfl (by kernel_rfl) (by kernel_rfl) (by kernel_rfl) (fun _ _ _ h => h) (Or.inl ⟨by rfl, ?_⟩) hSS ?_
              rotate_left 1
              next => intro w hSw; rw [hSe] at hSw; obtain ⟨s1, s2, s3, s4⟩ := hSw; go_simp; try with_reducible rfl
              refine wpAnyH_take (i := 6) (v := ?_) rfl (by kernel_rfl) (by kernel_rfl) (by kernel_rfl) (fun _ _ _ h => h) (Or.inl ⟨by rfl, ?_⟩) hSS ?_
              rotate_left 1
              next => intro w hSw; rw [hSe] at hSw; obtain ⟨s1, s2, s3, s4⟩ := hSw; go_simp; try with_reducible rfl
              refine wpAnyH_take (i := 7) (v := ?_) rfl (by kernel_rfl) (by kernel_rfl) (by kernel_rfl) (fun _ _ _ h => h) (Or.inl ⟨by rfl, ?_⟩) hSS ?_
              rotate_left 1
              next => intro w hSw; rw [hSe] at hSw; obtain ⟨s1, s2, s3, s4⟩ := hSw; go_simp; try with_reducible rfl
              refine wpAnyH_take (i := 8) (v := ?_) rfl (by kernel_rfl) (by kernel_rfl) (by kernel_rfl) (fun _ _ _ h => h) (Or.inl ⟨by rfl, ?_⟩) hSS ?_
              rotate_left 1
              next => intro w hSw; rw [hSe] at hSw; obtain ⟨s1, s2, s3, s4⟩ := hSw; go_simp; try with_reducible rfl
              refine wpAnyH_take (i := 9) (v := ?_) rfl (by kernel_rfl) (by kernel_rfl) (by kernel_rfl) (fun _ _ _ h => h) (Or.inl ⟨by rfl, ?_⟩) hSS ?_
              rotate_left 1
              next => intro w hSw; rw [hSe] at hSw; obtain ⟨s1, s2, s3, s4⟩ := hSw; go_simp; try with_reducible rfl
              refine wpAnyH_take (i := 10) (v := ?_) rfl (by kernel_rfl) (by kernel_rfl) (by kernel_rfl) (fun _ _ _ h => h) (Or.inl ⟨by rfl, ?_⟩) hSS ?_
              rotate_left 1
              next => intro w hSw; rw [hSe] at hSw; obtain ⟨s1, s2, s3, s4⟩ := hSw; go_simp; try with_reducible rfl
              simp only [Act.put, List.getElem_toArray, List.getElem_cons_zero, List.getElem_cons_succ, List.setIfInBounds_toArray, List.set_cons_zero, List.set_cons_succ]
              refine wpAnyH_ready (rs := [5, 11]) (by kernel_rfl) (by simp) ?_
              refine AllReadyH.cons rfl ?_ ?_
              · intro K hK
                obtain ⟨⟨z0, z1⟩, z2, z3⟩ := HX.out _ hd
                go_simp
                refine hK.out _ _ (HS.out _ hd) (fun _ => ?_)
                clear hK K
                refine wpAnyH_ready (rs := [11]) (by kernel_rfl) (by simp) ?_
                refine AllReadyH.cons rfl (fun K hK => ?_) AllReadyH.nil
                go_simp
                refine (HM.out _).mono ?_
                rintro e5 w5 ⟨rfl, hbm⟩
                have hb5 : Below X.heap.size X w5 := hd.trans (hbm.mono hd.size)
                dsimp only
                refine hK.out _ _ (HS.out _ hb5) (fun _ => ?_)
                clear hK K
                refine wpAnyH_ready (rs := [12]) (by kernel_rfl) (by simp) ?_
                refine AllReadyH.cons rfl (fun K hK => ?_) AllReadyH.nil
                go_simp
                refine (HA1.out _).mono ?_
                rintro e5 w6 ⟨rfl, hbm⟩
                have hb6 : Below X.heap.size X w6 := hb5.trans (hbm.mono hb5.size)
                dsimp only
                refine hK.out _ _ (HS.out _ hb6) (fun _ => ?_)
                clear hK K
                refine wpAnyH_take (i := 13) (v := ?_) rfl (by kernel_rfl) (by kernel_rfl) (by kernel_rfl) (fun _ _ _ h => h) (Or.inl ⟨by rfl, ?_⟩) (HS.out _ hb6) ?_
                rotate_left 1
                next => intro w hSw; rw [hSe] at hSw; obtain ⟨s1, s2, s3, s4⟩ := hSw; go_simp; try with_reducible rfl
                refine wpAnyH_ready (rs := [14]) (by kernel_rfl) (by simp) ?_
                refine AllReadyH.cons rfl (fun K hK => ?_) AllReadyH.nil
                obtain ⟨⟨z0, z1⟩, z2, z3⟩ := HX.out _ hb6
                go_simp
                refine hK.out _ _ (HS2.out _ _ _ (HS.out _ hb6)) (fun _ => ?_)
                clear hK K
                refine wpAnyH_done (by kernel_rfl) ?_ _
                have Hfin := Lib.hid (HN.out _ hb6)
                clear z0 z1 z2 z3
                go_wp2
                go_roundw
                case rel => exact ⟨k + 1, by omega, by go_num, Hfin⟩
                case measure => simp [intOf]; omega
              · refine AllReadyH.cons rfl ?_ AllReadyH.nil
                intro K hK
                go_simp
                refine (HM.out _).mono ?_
                rintro e5 w5 ⟨rfl, hbm⟩
                have hb5 : Below X.heap.size X w5 := hd.trans (hbm.mono hd.size)
                dsimp only
                refine hK.out _ _ (HS.out _ hb5) (fun _ => ?_)
                clear hK K
                refine wpAnyH_ready (rs := [5]) (by kernel_rfl) (by simp) ?_
                refine AllReadyH.cons rfl (fun K hK => ?_) AllReadyH.nil
                obtain ⟨⟨z0, z1⟩, z2, z3⟩ := HX.out _ hb5
                go_simp
                refine hK.out _ _ (HS.out _ hb5) (fun _ => ?_)
                clear hK K
                refine wpAnyH_ready (rs := [12]) (by kernel_rfl) (by simp) ?_
                refine AllReadyH.cons rfl (fun K hK => ?_) AllReadyH.nil
                go_simp
                refine (HA1.out _).mono ?_
                rintro e5 w6 ⟨rfl, hbm⟩
                have hb6 : Below X.heap.size X w6 := hb5.trans (hbm.mono hb5.size)
                dsimp only
                refine hK.out _ _ (HS.out _ hb6) (fun _ => ?_)
                clear hK K
                refine wpAnyH_take (i := 13) (v := ?_) rfl (by kernel_rfl) (by kernel_rfl) (by kernel_rfl) (fun _ _ _ h => h) (Or.inl ⟨by rfl, ?_⟩) (HS.out _ hb6) ?_
                rotate_left 1
                next => intro w hSw; rw [hSe] at hSw; obtain ⟨s1, s2, s3, s4⟩ := hSw; go_simp; try with_reducible rfl
                refine wpAnyH_ready (rs := [14]) (by kernel_rfl) (by simp) ?_
                refine AllReadyH.cons rfl (fun K hK => ?_) AllReadyH.nil
                obtain ⟨⟨z0, z1⟩, z2, z3⟩ := HX.out _ hb6
                go_simp
                refine hK.out _ _ (HS2.out _ _ _ (HS.out _ hb6)) (fun _ => ?_)
                clear hK K
                refine wpAnyH_done (by kernel_rfl) ?_ _
                have Hfin := Lib.hid (HN.out _ hb6)
                clear z0 z1 z2 z3
                go_wp2
                go_roundw
                case rel => exact ⟨k + 1, by omega, by go_num, Hfin⟩
                case measure => simp [intOf]; omega
            · have k1 : ¬ (k : Int) < (n : Int) := by omega
              have HA2 : Hid (ApI w wr g r n (i + 1) 0 F V) := Lib.hid (by
                have h := HA.out
                rw [show k = n from by omega] at h
                exact h.leave)
              clear HA
              go_wp2
              go_roundw
              case rel => exact ⟨i + 1, by omega, by go_num, HA2⟩
              case measure => simp [intOf]; omega
        · have i1 : ¬ (i : Int) < (r : Int) := by omega
          have hir : i = r := by omega
          go_wp2
          refine bodyPost_ret (v := .tuple #[.slice (some ⟨g, 0, none⟩) r r, .int .i64 0]) (by simp [results, Try.results29, go_sem]) rfl ?_
          refine ⟨HA.out.below, .inl ⟨rfl, _, _, rfl, (HA.out.cur.congr fun m hm => ?_).row⟩⟩
          rw [if_pos (by omega)]
    · have hv : applyE a n Z = 11 := by rw [hv1, if_pos hl]
      have e1 : ((n : Int) != (a.L 0 : Int)) = true := by rw [bne_iff_ne]; omega
      rw [hv]
      clear hz hz2 hok hfa ha ho ho2 hv hv1 hfZ hq hcan hl
      generalize (fun i => dotN (fun j => a.F i j * valZ (Z j)) n) = D at *
      generalize a.L 0 = l at *
      generalize a.r = r at *
      subst hpe
      go_enter Try.func29, Try.ntmps29
      go_wp2_with fail
      refine HB.out.mono ?_
      rintro e w2 ⟨rfl, hb2⟩
      dsimp only
      have Hb := Lib.hid (Hb0.out.trans (hb2.mono (by simp)))
      clear hb2 HB
      go_wp2_with fail
      refine (HO.out _ Hb.out).mono ?_
      rintro e w3 ⟨rfl, hb3⟩
      dsimp only
      have hb4 := Hb.out.trans (hb3.mono Hb.out.size)
      have Hb3 := Lib.hid hb4
      have a3 := cell_below hb4 a0
      clear hb3 HO hb4
      go_wp2
      refine bodyPost_ret (v := .tuple #[.slice none 0 0, .int .i64 11]) (by simp [results, Try.results29, go_sem]) rfl ?_
      exact ⟨Hb3.out, .inr ⟨by decide, rfl⟩⟩
  · have hz2 : (a.chk != 0) = true := by rw [bne_iff_ne]; exact hz
    have hv : applyE a n Z = 1 := if_pos (by rw [hz2]; rfl)
    rw [hz2] at HB
    rw [hv]
    clear hz hz2 hok hfa ha hv hfZ hq
    generalize a.r = r at *
    generalize (fun i => dotN (fun j => a.F i j * valZ (Z j)) n) = D at *
    go_enter Try.func29, Try.ntmps29
    go_wp2_with fail
    refine HB.out.mono ?_
    rintro e w2 ⟨rfl, hb2⟩
    dsimp only
    have Hb := Lib.hid (Hb0.out.trans (hb2.mono (by simp)))
    clear hb2 HB
    go_wp2
    refine bodyPost_ret (v := .tuple #[.slice none 0 0, .int .i64 1]) (by simp [results, Try.results29, go_sem]) rfl ?_
    exact ⟨Hb.out, .inr ⟨by decide, rfl⟩⟩
end Go.Proofs.Ytlkoiekdafaapaa
