/- graph.keep: the walk. -/
import Derived.Test.YtlaoijfphkhchaaBKep
import Derived.Test.YtlaoijfphkhchaaShelfA
namespace Go.Proofs.Ytlaoijfphkhchaa
open Go.RowKit Go.Shelf

theorem EdgAt.set {w : World} {q : Option Addr} {n : Nat} {E : Nat → Nat → Int} (h : EdgAt w q n E) (a : Addr) (x : Value) (hq : ∀ b, q = some b → b.block ≠ a.block) : EdgAt (w.setCell a x) q n E := by
  rcases h with h | ⟨b, off, rfl, hl, hc⟩
  · exact .inl h
  · exact .inr ⟨b, off, rfl, by simpa using hl, fun i hi j hj => by
      rw [World.cell?_setCell_other _ _ _ _ (by intro h; exact hq _ rfl (by rw [h]))]
      exact hc i hi j hj⟩
def RetPart (L : Int) (zs : List Int) (E : Nat → Nat → Int) (n : Nat) (w : World) (e : Ending) (w' : World) : Prop :=
  ∃ q cap, e = .returned (.agg #[.int .i64 L, .int .i64 (zs.length : Nat), .slice q (kepL zs E n).length cap]) ∧ (∀ b, q = some b → w.heap.size ≤ b.block) ∧ EdgAt w' q (kepL zs E n).length (edOf (kepL zs E n)) ∧ Below w.heap.size w w'
/-- A box of three cells that may be written. -/
def BoxF3 (w : World) (g : Nat) (v0 v1 v2 : Value) : Prop := BoxAt3 w g v0 v1 v2 ∧ ∀ j, j < 3 → w.frozen? ⟨g, j, none⟩ = false
theorem BoxF3.new (w : World) (v0 v1 v2 : Value) (t : TypeId) : BoxF3 (w.alloc (.cells #[v0, v1, v2] t)) w.heap.size v0 v1 v2 := ⟨BoxAt3.new w v0 v1 v2 t, fun j _ => by simp⟩
theorem BoxF3.below {w w' : World} {g : Nat} {v0 v1 v2 : Value} (h : BoxF3 w g v0 v1 v2) {B : Nat} (hb : Below B w w') (hB : g < B := by first | assumption | omega) : BoxF3 w' g v0 v1 v2 := by
  obtain ⟨⟨h1, h2, h3, h4⟩, h5⟩ := h
  obtain ⟨c1, c2⟩ := bcell hb
  exact ⟨⟨Nat.lt_of_lt_of_le h1 hb.size, by rw [c1 _ _ hB]; exact h2, by rw [c1 _ _ hB]; exact h3, by rw [c1 _ _ hB]; exact h4⟩, fun j hj => by rw [c2 _ _ hB]; exact h5 j hj⟩
theorem BoxF3.set2 {w : World} {g : Nat} {v0 v1 v2 : Value} (h : BoxF3 w g v0 v1 v2) (x : Value) : BoxF3 (w.setCell ⟨g, 2, none⟩ x) g v0 v1 x := by
  obtain ⟨⟨h1, h2, h3, h4⟩, h5⟩ := h
  refine ⟨⟨by simpa using h1, ?_, ?_, World.cell?_setCell_same _ _ _ h4⟩, fun j hj => by rw [World.frozen?_setCell]; exact h5 j hj⟩
  · rw [World.cell?_setCell_other _ _ _ _ (by intro h; injection h with _ h; omega)]; exact h2
  · rw [World.cell?_setCell_other _ _ _ _ (by intro h; injection h with _ h; omega)]; exact h3
theorem BoxF3.far {w : World} {g : Nat} {v0 v1 v2 : Value} (h : BoxF3 w g v0 v1 v2) (p : Addr) (x : Value) (hp : p.block ≠ g) : BoxF3 (w.setCell p x) g v0 v1 v2 := by
  obtain ⟨⟨h1, h2, h3, h4⟩, h5⟩ := h
  have key : ∀ j, (w.setCell p x).cell? ⟨g, j, none⟩ = w.cell? ⟨g, j, none⟩ := fun j => World.cell?_setCell_other _ _ _ _ (by intro h; rw [h] at hp; exact hp rfl)
  exact ⟨⟨by simpa using h1, by rw [key]; exact h2, by rw [key]; exact h3, by rw [key]; exact h4⟩, fun j hj => by rw [World.frozen?_setCell]; exact h5 j hj⟩
theorem OwnE.setCell {w : World} {B : Nat} {v : Value} {L : List (Int × Int × Int)} (h : OwnE w B v L) (p : Addr) (x : Value) (hp : p.block < B) : OwnE (w.setCell p x) B v L := by
  refine ⟨h.1, ?_⟩
  rcases h.2 with h2 | ⟨g, cap, cur, hv, hg, hh, r⟩
  · exact .inl h2
  · exact .inr ⟨g, cap, cur, hv, hg, by rw [Below.heap_setCell _ _ _ g (by omega)]; exact hh, r⟩
set_option maxRecDepth 100000 in
set_option maxHeartbeats 4000000 in
theorem keep_any (L : Int) (N n : Nat) (E : Nat → Nat → Int) (p : Option Addr) (c : Nat) (zs : List Int) (b off cz : Nat) (hs : zs.Pairwise (· < ·)) (h0 : 0 < zs.length) (hl : zs.length ≤ 1000000) (hn : n ≤ 1000000) (w : World) (hE : EdgAt w p n E) (hZ : IntsAt w (some ⟨b, off, none⟩) zs) :
    Calls Try.prog 74 #[.agg #[.int .i64 L, .int .i64 (N : Int), .slice p n c], .slice (some ⟨b, off, none⟩) zs.length cz] w (RetPart L zs E n w) := by
  have HBs : Hid (∀ W x, Below w.heap.size w W → Calls Try.prog 98 #[.slice (some ⟨b, off, none⟩) zs.length cz, .int .i64 x] W fun e w' => e = .returned (.tuple #[.int .i64 (zs.countP (fun y => decide (y < x)) : Nat), .bool (zs.contains x)]) ∧ ∃ q, w' = W.drewN q) := Lib.hid (fun W x hW => by
    have hZ2 := hZ.below (Nat.le_refl _) hW
    obtain ⟨b', off', he, _, hc⟩ := IntsAt.cells hZ2 h0
    cases he
    have h := Try.slices_BinarySearch_int b off zs.length cz zs x W (Nat.le_refl _) (by omega) hc (by rw [List.take_length]; exact hs.imp fun h => Int.le_of_lt h)
    rw [List.take_length] at h
    exact h)
  have HE := Lib.hid hE
  have Hex := Lib.hid (show kepL zs E 0 = [] from rfl)
  have Hst := Lib.hid (fun i => kepL_succ zs E i)
  have Hlen := Lib.hid (fun i => kepL_len zs E i)
  have Hkt := Lib.hid (show ∀ i, kepT zs E i = (((zs.countP (fun y => decide (y < E i 0)) : Nat) : Int), E i 1, ((zs.countP (fun y => decide (y < E i 2)) : Nat) : Int)) from fun i => rfl)
  clear hE hZ hs
  obtain ⟨KL, hKL⟩ : ∃ K, kepL zs E = K := ⟨_, rfl⟩
  unfold RetPart
  rw [hKL] at Hex Hst Hlen ⊢
  obtain ⟨KT, hKT⟩ : ∃ K, kepT zs E = K := ⟨_, rfl⟩
  rw [hKT] at Hst Hkt
  obtain ⟨CP, hCP⟩ : ∃ K : Int → Nat, (fun x => zs.countP (fun y => decide (y < x))) = K := ⟨_, rfl⟩
  have hcp : ∀ x, zs.countP (fun y => decide (y < x)) = CP x := fun x => by rw [← hCP]
  simp only [hcp] at HBs Hkt
  obtain ⟨CO, hCO⟩ : ∃ K : Int → Bool, zs.contains = K := ⟨_, rfl⟩
  rw [hCO] at HBs Hst
  obtain ⟨len, hlen⟩ : ∃ l, zs.length = l := ⟨_, rfl⟩
  rw [hlen] at h0 hl HBs ⊢
  clear hKL hKT hCP hcp hCO hlen
  go_enter Try.func74, Try.ntmps74
  go_wp2_with fail
  obtain ⟨W0, hW0⟩ : ∃ W, ((w.alloc (.cells #[.int .i64 L, .int .i64 (N : Int), .slice p n c] 24)).alloc (.cells #[.int .i64 0, .int .i64 0, .slice none 0 0] 24)).alloc (.cells #[.int .i64 L, .int .i64 (len : Int), .slice none 0 0] 24) = W := ⟨_, rfl⟩
  have hb0 : Below w.heap.size w W0 := by rw [← hW0]; exact (((Below.refl _ _).alloc (Nat.le_refl _) _).alloc (by simp) _).alloc (by simp; omega) _
  have hbr : BoxF3 W0 (w.heap.size + 1) (.int .i64 0) (.int .i64 0) (.slice none 0 0) := by
    have h := BoxF3.new (w.alloc (.cells #[.int .i64 L, .int .i64 (N : Int), .slice p n c] 24)) (.int .i64 0) (.int .i64 0) (.slice none 0 0) 24
    rw [show (w.alloc (.cells #[.int .i64 L, .int .i64 (N : Int), .slice p n c] 24)).heap.size = w.heap.size + 1 from by simp] at h
    rw [← hW0]
    exact h.below (B := w.heap.size + 1 + 1) ((Below.refl _ _).alloc (by simp) _) (by omega)
  have hbo : BoxF3 W0 (w.heap.size + 1 + 1) (.int .i64 L) (.int .i64 (len : Int)) (.slice none 0 0) := by
    have h := BoxF3.new ((w.alloc (.cells #[.int .i64 L, .int .i64 (N : Int), .slice p n c] 24)).alloc (.cells #[.int .i64 0, .int .i64 0, .slice none 0 0] 24)) (.int .i64 L) (.int .i64 (len : Int)) (.slice none 0 0) 24
    rw [show ((w.alloc (.cells #[.int .i64 L, .int .i64 (N : Int), .slice p n c] 24)).alloc (.cells #[.int .i64 0, .int .i64 0, .slice none 0 0] 24)).heap.size = w.heap.size + 1 + 1 from by simp] at h
    rw [← hW0]
    exact h
  have hsz : W0.heap.size = w.heap.size + 1 + 1 + 1 := by rw [← hW0]; simp
  have HE0 : Hid (∀ i, i < n → ∃ b off, p = some ⟨b, off, none⟩ ∧ b < w.heap.size + 1 ∧ ∀ i, i < n → ∀ j, j < 3 → W0.cell? ⟨b, off + i * 3 + j, none⟩ = some (edC E i j)) := Lib.hid (fun i hi => by
    rcases HE.out with h | ⟨b, off, rfl, hlt, hc⟩
    · omega
    · exact ⟨b, off, rfl, by omega, fun i hi j hj => (hb0.cell (p := ⟨b, off + i * 3 + j, none⟩) hlt).trans (hc i hi j hj)⟩)
  have Hb0 := Lib.hid hb0
  have Hbr := Lib.hid hbr
  have Hbo := Lib.hid hbo
  have Hsz := Lib.hid hsz
  clear hb0 hbr hbo hsz HE
  rw [hW0]
  clear hW0
  obtain ⟨g1, hg1⟩ : ∃ g, w.heap.size = g := ⟨_, rfl⟩
  rw [hg1] at Hbr Hbo Hsz HE0 ⊢
  have Hg1 := Lib.hid hg1
  clear hg1
  go_loopw [20] (fun iv wr => ∃ (i : Nat) (ov : Value), i ≤ n ∧ iv = .int .i64 (i : Nat) ∧ Hid (OwnE wr (g1 + 1 + 1 + 1) ov (KL i)) ∧ Hid (BoxF3 wr (g1 + 1 + 1) (.int .i64 L) (.int .i64 (len : Int)) ov) ∧ Hid (BoxF3 wr (g1 + 1) (.int .i64 0) (.int .i64 0) (.slice none 0 0)) ∧ Hid (Below (g1 + 1) W0 wr)) (fun iv _ => n - (intOf iv).toNat)
  case atStart => exact ⟨0, _, by omega, by go_num, Lib.hid (by rw [Hex.out]; exact OwnE.nil _ _), Hbo, Hbr, Lib.hid (Below.refl _ _)⟩
  case round =>
    clear Hbr Hbo Hex
    obtain ⟨i, ov, hi, rfl, Ho, Hbo, Hbr, Hb⟩ := hrel
    by_cases hil : i < n
    · have i1 : (i : Int) < (n : Int) := by omega
      have i0 : (0 : Int) ≤ (i : Int) := by omega
      have Hx := Hst.out i
      have Hk := Hkt.out i
      have Hsl := Hlen.out i
      obtain ⟨b2, of2, rfl, hbl, hcE⟩ := HE0.out i hil
      have x0 := (Hb.out.cell (p := ⟨b2, of2 + i * 3 + 0, none⟩) hbl).trans (hcE i hil 0 (by omega))
      have x1 := (Hb.out.cell (p := ⟨b2, of2 + i * 3 + 1, none⟩) hbl).trans (hcE i hil 1 (by omega))
      have x2 := (Hb.out.cell (p := ⟨b2, of2 + i * 3 + 2, none⟩) hbl).trans (hcE i hil 2 (by omega))
      simp only [edC, Nat.add_zero] at x0 x1 x2
      obtain ⟨e0, he0⟩ : ∃ e, E i 0 = e := ⟨_, rfl⟩
      obtain ⟨e1, he1⟩ : ∃ e, E i 1 = e := ⟨_, rfl⟩
      obtain ⟨e2, he2⟩ : ∃ e, E i 2 = e := ⟨_, rfl⟩
      rw [he0, he1, he2] at Hk
      rw [he0, he2] at Hx
      rw [he0] at x0
      rw [he1] at x1
      rw [he2] at x2
      clear hcE he0 he1 he2
      obtain ⟨⟨hr1, _, _, _⟩, _⟩ := Hbr.out
      obtain ⟨⟨ho1, o0, o1, o2⟩, _⟩ := Hbo.out
      obtain ⟨c0', hbg⟩ : g1 < wr.heap.size ∧ wr.cell? ⟨g1, 2, none⟩ = wr.cell? ⟨g1, 2, none⟩ := ⟨by omega, rfl⟩
      go_upto_region 5 with (fail)
      clear x0 x1 x2
      have hal := (Below.refl wr.heap.size wr).alloc (Nat.le_refl _) (.cells #[.int .i64 e0, .int .i64 e1, .int .i64 e2] 97)
      have hbx := BoxAt3.new wr (.int .i64 e0) (.int .i64 e1) (.int .i64 e2) 97
      have F1 := Lib.hid (Ho.out.alloc (.cells #[.int .i64 e0, .int .i64 e1, .int .i64 e2] 97))
      have F2 := Lib.hid (Hbo.out.below hal ho1)
      have F3 := Lib.hid (Hbr.out.below hal hr1)
      have F4 := Lib.hid (Hb.out.trans (hal.mono (by omega)))
      obtain ⟨gx, hgx⟩ : ∃ g, wr.heap.size = g := ⟨_, rfl⟩
      rw [hgx] at hbx ho1 hr1 ⊢
      clear Ho Hbo Hbr Hb hal o0 o1 o2
      generalize wr.alloc (.cells #[.int .i64 e0, .int .i64 e1, .int .i64 e2] 97) = X at *
      obtain ⟨hx0, x0, x1, x2⟩ := hbx
      have HB1 := HBs.out X e0 (Hb0.out.trans (F4.out.mono (by rw [Hg1.out]; exact Nat.le_succ _)))
      obtain ⟨k0, hk0⟩ : ∃ k, CP e0 = k := ⟨_, rfl⟩
      obtain ⟨k2, hk2⟩ : ∃ k, CP e2 = k := ⟨_, rfl⟩
      obtain ⟨b0, hb0⟩ : ∃ k, CO e0 = k := ⟨_, rfl⟩
      obtain ⟨b1, hb1⟩ : ∃ k, CO e2 = k := ⟨_, rfl⟩
      rw [hk0, hb0] at HB1
      rw [hk0, hk2] at Hk
      rw [hb0, hb1, Hk] at Hx
      have HX := Lib.hid Hx
      have HSl := Lib.hid Hsl
      clear Hk Hx Hsl hk0 hb0
      go_wp2_with fail
      refine HB1.mono ?_
      rintro e w2 ⟨rfl, q, rfl⟩
      dsimp only
      have HB2 := HBs.out (X.drewN q) e2 (Hb0.out.trans ((F4.out.trans (Drawn.below ⟨q, rfl⟩ _)).mono (by rw [Hg1.out]; exact Nat.le_succ _)))
      rw [hk2, hb1] at HB2
      clear HB1 hk2 hb1
      go_wp2_with fail
      refine HB2.mono ?_
      rintro e w2 ⟨rfl, q2, rfl⟩
      dsimp only
      clear HB2
      have hdn : Below X.heap.size X ((X.drewN q).drewN q2) := (Drawn.below ⟨q, rfl⟩ _).trans (Drawn.below ⟨q2, rfl⟩ _)
      have G1 := Lib.hid (F1.out.below (Nat.le_refl _) hdn)
      have G2 := Lib.hid (F2.out.below hdn (by omega))
      have G3 := Lib.hid (F3.out.below hdn (by omega))
      have G4 := Lib.hid (F4.out.trans (hdn.mono (by omega)))
      have y1 := (hdn.cell (p := ⟨gx, 1, none⟩) hx0).trans x1
      have hsY := hdn.size
      clear x0 x1 x2 F1 F2 F3 F4 hdn
      generalize (X.drewN q).drewN q2 = Y at *
      obtain ⟨⟨ho2, o0, o1, o2⟩, o3⟩ := G2.out
      have o4 := o3 2 (by omega)
      clear o3
      cases b0
      · go_wp2_with fail
        go_roundw
        case rel => exact ⟨i + 1, ov, by omega, by go_num, by rw [HX.out]; simpa using G1, G2, G3, G4⟩
        case measure => simp [intOf]; omega
      cases b1
      · go_wp2_with fail
        go_roundw
        case rel => exact ⟨i + 1, ov, by omega, by go_num, by rw [HX.out]; simpa using G1, G2, G3, G4⟩
        case measure => simp [intOf]; omega
      have hsz2 : g1 + 1 + 1 + 1 ≤ Y.heap.size := by
        have := Hsz.out
        have := G4.out.size
        omega
      have HN : Hid (KL (i + 1) = KL i ++ [((k0 : Int), e1, (k2 : Int))]) := Lib.hid (by rw [HX.out]; rfl)
      clear HX
      obtain ⟨KI, hKI⟩ : ∃ K, KL i = K := ⟨_, rfl⟩
      rw [hKI] at G1 HN HSl
      clear hKI
      go_wp2_with (at_builtin; refine wpList_append_edge rfl _ _ rfl (g1 + 1 + 1 + 1) _ _ rfl (G1.out.alloc _) Y.heap.size 1 ((k0 : Int), e1, (k2 : Int)) rfl (by simp [World.cell?_alloc_new]) (by simp [World.cell?_alloc_new]) (by simp [World.cell?_alloc_new]) (by have := HSl.out; omega) (by simp; omega) ?_)
      intro v' w1 hown' hgrow
      have hbn : Below (g1 + 1 + 1 + 1) Y w1 := below_append ((Below.refl (g1 + 1 + 1 + 1) Y).alloc hsz2 _) (G1.out.alloc _) hgrow (by simp; omega) (Nat.le_refl _)
      have J1 := Lib.hid hown'
      have J2 := Lib.hid (G2.out.below hbn (by omega))
      have J3 := Lib.hid (G3.out.below hbn (by omega))
      have J4 := Lib.hid (G4.out.trans (hbn.mono (by omega)))
      clear hown' hgrow hbn G1 G2 G3 G4 o0 o1 o2 o4 ho2
      obtain ⟨⟨ho2, o0, o1, o2⟩, o3⟩ := J2.out
      have o4 := o3 2 (by omega)
      clear o3
      obtain ⟨qv, cv, rfl, _, _, _⟩ := OwnE.form J1.out
      have J1' := J1.out
      rw [show (KI ++ [((k0 : Int), e1, (k2 : Int))]).length = KI.length + 1 from by simp] at J1'
      have J1x := Lib.hid J1'
      clear J1' J1
      go_wp2_with fail
      go_roundw
      case rel => exact ⟨i + 1, _, by omega, by go_num, by rw [HN.out]; exact Lib.hid (J1x.out.setCell ⟨g1 + 1 + 1, 2, none⟩ _ (by first | omega | (dsimp only; omega))), Lib.hid (J2.out.set2 _), Lib.hid (J3.out.far ⟨g1 + 1 + 1, 2, none⟩ _ (by first | omega | (dsimp only; omega))), Lib.hid (J4.out.setCell (p := ⟨g1 + 1 + 1, 2, none⟩) (by first | omega | (dsimp only; omega)) _)⟩
      case measure => simp [intOf]; omega
    · have i1 : ¬ (i : Int) < (n : Int) := by omega
      have hie : i = n := by omega
      subst hie
      obtain ⟨⟨hr1, r0, r1, r2⟩, r3⟩ := Hbr.out
      obtain ⟨⟨ho1, o0, o1, o2⟩, _⟩ := Hbo.out
      have r4 := r3 0 (by omega)
      have r5 := r3 1 (by omega)
      have r6 := r3 2 (by omega)
      clear r3
      obtain ⟨qq, cq, rfl, _, hqe, _⟩ := OwnE.form Ho.out
      have hlenw : (KL i).length ≤ i := Hlen.out i
      clear hqe
      go_wp2_with fail
      try simp only [Exit.inBlock, Exit.then]
      refine bodyPost_ret (v := .agg #[.int .i64 L, .int .i64 (len : Int), .slice qq (KL i).length cq]) (by simp [results, Try.results74, go_sem, r0, r1, r2]) rfl ?_
      obtain ⟨q', c', he, _, hqe, hqb⟩ := OwnE.form (((Ho.out.setCell ⟨g1 + 1, 0, none⟩ (.int .i64 L) (by first | omega | (dsimp only; omega))).setCell ⟨g1 + 1, 1, none⟩ (.int .i64 (len : Int)) (by first | omega | (dsimp only; omega))).setCell ⟨g1 + 1, 2, none⟩ (.slice qq (KL i).length cq) (by first | omega | (dsimp only; omega)))
      cases he
      have hw : w.heap.size ≤ g1 + 1 := by rw [Hg1.out]; exact Nat.le_succ _
      refine ⟨qq, ⟨cq, rfl⟩, fun b hb => Nat.le_trans (Nat.le_trans hw (Nat.le_add_right _ 2)) (hqb b hb), hqe, ?_⟩
      exact (((Hb0.out.trans (Hb.out.mono hw)).setCell (p := ⟨g1 + 1, 0, none⟩) hw _).setCell (p := ⟨g1 + 1, 1, none⟩) hw _).setCell (p := ⟨g1 + 1, 2, none⟩) hw _
def RetPartE (L : Int) (zs : List Int) (E : Nat → Nat → Int) (n : Nat) (w : World) (e : Ending) (w' : World) : Prop :=
  ∃ q cap, e = .returned (.tuple #[.agg #[.int .i64 L, .int .i64 (zs.length : Nat), .slice q (kepL zs E n).length cap], .int .i64 0]) ∧ EdgAt w' q (kepL zs E n).length (edOf (kepL zs E n)) ∧ Below w.heap.size w w'
set_option maxRecDepth 100000 in
set_option maxHeartbeats 4000000 in
theorem Keep_ok (L : Int) (N n : Nat) (E : Nat → Nat → Int) (p : Option Addr) (c : Nat) (zs : List Int) (b off cz : Nat) (hg : gChk L N n E = 0) (hs : zs.Pairwise (· < ·)) (hr : ∀ k, k < zs.length → 0 ≤ zs.getD k 0 ∧ zs.getD k 0 < (N : Int)) (h0 : 0 < zs.length) (hl : zs.length ≤ 1000000) (hn : n ≤ 1000000) (w : World) (hE : EdgAt w p n E) (hZ : IntsAt w (some ⟨b, off, none⟩) zs) :
    Calls Try.prog 36 #[.agg #[.int .i64 L, .int .i64 (N : Int), .slice p n c], .slice (some ⟨b, off, none⟩) zs.length cz] w (RetPartE L zs E n w) := by
  obtain ⟨W0, hW0⟩ : ∃ W, (w.alloc (.cells #[.int .i64 L, .int .i64 (N : Int), .slice p n c] 24)).alloc (.cells #[.int .i64 0, .int .i64 0, .slice none 0 0] 24) = W := ⟨_, rfl⟩
  have hb0 : Below w.heap.size w W0 := by rw [← hW0]; exact ((Below.refl _ _).alloc (Nat.le_refl _) _).alloc (by simp) _
  have hbx : BoxAt3 W0 w.heap.size (.int .i64 L) (.int .i64 (N : Int)) (.slice p n c) := by
    rw [← hW0]
    exact (BoxAt3.new w (.int .i64 L) (.int .i64 (N : Int)) (.slice p n c) 24).below ((Below.refl _ _).alloc (Nat.le_refl _) _)
  have hbr : BoxF3 W0 (w.heap.size + 1) (.int .i64 0) (.int .i64 0) (.slice none 0 0) := by
    have h := BoxF3.new (w.alloc (.cells #[.int .i64 L, .int .i64 (N : Int), .slice p n c] 24)) (.int .i64 0) (.int .i64 0) (.slice none 0 0) 24
    rw [show (w.alloc (.cells #[.int .i64 L, .int .i64 (N : Int), .slice p n c] 24)).heap.size = w.heap.size + 1 from by simp] at h
    rw [← hW0]
    exact h
  have hsz : W0.heap.size = w.heap.size + 1 + 1 := by rw [← hW0]; simp
  have HG := Lib.hid (gcheck_any L N n E p c W0 (hE.mono (Nat.le_refl _) hb0))
  rw [hg] at HG
  have HC := Lib.hid (fun W (hW : Below W0.heap.size W0 W) => checkSet_ok L N n p c zs (some ⟨b, off, none⟩) cz hr (fun k hk hkl => by
    have := List.pairwise_iff_getElem.1 hs (k - 1) k (by omega) hkl (by omega)
    rw [getD_at hkl, getD_at (show k - 1 < zs.length by omega)]; exact this) hl W ((hZ.below (Nat.le_refl _) hb0).below (Nat.le_refl _) hW))
  have HK := Lib.hid (fun W (hW : Below W0.heap.size W0 W) => keep_any L N n E p c zs b off cz hs h0 hl hn W ((hE.mono (Nat.le_refl _) hb0).mono (Nat.le_refl _) hW) ((hZ.below (Nat.le_refl _) hb0).below (Nat.le_refl _) hW))
  have HX : Hid (∀ W, Below W0.heap.size W0 W → BoxAt3 W w.heap.size (.int .i64 L) (.int .i64 (N : Int)) (.slice p n c) ∧ BoxF3 W (w.heap.size + 1) (.int .i64 0) (.int .i64 0) (.slice none 0 0) ∧ Below w.heap.size w W) := Lib.hid (fun W hW => ⟨hbx.below hW, hbr.below hW (by omega), hb0.trans (hW.mono (by omega))⟩)
  have Hsz := Lib.hid hsz
  unfold RetPartE
  unfold RetPart at HK
  obtain ⟨EO, hEO⟩ : ∃ F, edOf (kepL zs E n) = F := ⟨_, rfl⟩
  obtain ⟨kn, hkn⟩ : ∃ F, (kepL zs E n).length = F := ⟨_, rfl⟩
  obtain ⟨len, hlen⟩ : ∃ F, zs.length = F := ⟨_, rfl⟩
  rw [hEO, hkn, hlen] at HK
  rw [hlen] at HC
  rw [hEO, hkn, hlen]
  obtain ⟨_, c0, c1, c2⟩ := hbx
  clear hb0 hbr hsz hE hZ hs hr hEO hkn hlen
  go_enter Try.func36, Try.ntmps36
  go_wp2_with fail
  try rw [hW0]
  refine HG.out.mono ?_
  rintro e W1 ⟨rfl, hb1⟩
  dsimp only
  have HC1 := Lib.hid (HC.out W1 hb1)
  have Hb1 := Lib.hid hb1
  clear hW0 HG HC hb1 c0 c1 c2
  obtain ⟨⟨_, c0, c1, c2⟩, _, _⟩ := HX.out _ Hb1.out
  go_wp2_with fail
  refine HC1.out.mono ?_
  rintro e W2 ⟨rfl, hb2⟩
  dsimp only
  have Hb2 := Lib.hid (Hb1.out.trans (hb2.mono Hb1.out.size))
  have HK2 := Lib.hid (HK.out W2 Hb2.out)
  clear HC1 hb2 c0 c1 c2 HK Hb1
  obtain ⟨⟨_, c0, c1, c2⟩, _, _⟩ := HX.out _ Hb2.out
  go_wp2_with fail
  refine HK2.out.mono ?_
  rintro e W3 ⟨q, cap, rfl, hqb, hed, hb3⟩
  dsimp only
  have Hb3 := Lib.hid (Hb2.out.trans (hb3.mono Hb2.out.size))
  have Hed := Lib.hid hed
  have hqc : ∀ b, q = some b → b.block ≠ w.heap.size + 1 := fun b hb => by
    have h1 := hqb b hb
    have h2 := Hb2.out.size
    have h3 := Hsz.out
    omega
  have Hqc := Lib.hid hqc
  clear hb3 hed HK2 Hb2 c0 c1 c2 hqb hqc
  obtain ⟨_, ⟨⟨hr1, r0, r1, r2⟩, r3⟩, hbw⟩ := HX.out _ Hb3.out
  have Hbw := Lib.hid hbw
  have r4 := r3 0 (by omega)
  have r5 := r3 1 (by omega)
  have r6 := r3 2 (by omega)
  clear r3 hbw HX
  go_wp2_with fail
  try simp only [Exit.inBlock, Exit.then]
  refine bodyPost_ret (v := .tuple #[.agg #[.int .i64 L, .int .i64 (len : Int), .slice q kn cap], .int .i64 0]) (by simp [results, Try.results36, go_sem, r0, r1, r2]) rfl ?_
  refine ⟨q, cap, rfl, ?_, ?_⟩
  · exact ((Hed.out.set ⟨w.heap.size + 1, 0, none⟩ _ Hqc.out).set ⟨w.heap.size + 1, 1, none⟩ _ Hqc.out).set ⟨w.heap.size + 1, 2, none⟩ _ Hqc.out
  · exact ((Hbw.out.setCell (p := ⟨w.heap.size + 1, 0, none⟩) (Nat.le_succ _) _).setCell (p := ⟨w.heap.size + 1, 1, none⟩) (Nat.le_succ _) _).setCell (p := ⟨w.heap.size + 1, 2, none⟩) (Nat.le_succ _) _
end Go.Proofs.Ytlaoijfphkhchaa
