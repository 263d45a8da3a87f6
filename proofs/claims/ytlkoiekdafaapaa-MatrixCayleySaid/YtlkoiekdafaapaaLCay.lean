/- MatrixCayley: the walk. -/
import Derived.Test.YtlkoiekdafaapaaSqp
import Derived.Test.YtlkoiekdafaapaaLPrd
import Derived.Test.YtlkoiekdafaapaaHor
import Derived.Test.YtlkoiekdafaapaaApp
namespace Go.Proofs.Ytlkoiekdafaapaa
open Go.RowKit Go.Shelf

theorem RowF.at {w : World} {p : Option Addr} {c : Nat} {f : Nat → Int} (h : RowF w p c f) {k : Nat} (hk : k < c) {b off : Nat} (hp : p = some ⟨b, off, none⟩) : w.cell? ⟨b, off + k * 2, none⟩ = some (.bool (canon (f k)).neg) ∧ w.cell? ⟨b, off + k * 2 + 1, none⟩ = some (.string (canon (f k)).mag) := by
  obtain ⟨b', off', he, _, hc⟩ := h.cells hk
  rw [hp] at he
  cases he
  exact hc k hk
set_option maxRecDepth 100000 in
set_option maxHeartbeats 16000000 in
theorem lawCay (a : GM) (pa : Option Addr) (ca : Nat) (w : World) (ha : a.In w pa) :
    Calls Try.prog 7 #[.slice pa a.r ca] w (RetB true w) := by
  have HFa := Lib.hid (fun (W : World) (hW : Below w.heap.size w W) => fine_any a pa ca a.r W (ha.below (Nat.le_refl _) hW))
  by_cases fa : fineB a a.r = true
  rotate_left 1
  · rw [Bool.not_eq_true] at fa
    rw [fa] at HFa
    clear ha fa
    generalize a.r = n at *
    have Hbb : Hid (Below w.heap.size w w) := Lib.hid (Below.refl _ _)
    go_enter Try.func7, Try.ntmps7
    go_wp2_with fail
    refine (HFa.out _ Hbb.out).mono ?_
    rintro e y1 ⟨rfl, hbc⟩
    dsimp only
    have Hbb := Lib.hid (Hbb.out.trans (hbc.mono Hbb.out.size))
    clear hbc
    go_wp2_with fail
    refine (awake_any _).mono ?_
    rintro e y2 ⟨rfl, hbc⟩
    dsimp only
    have Hbb := Lib.hid (Hbb.out.trans (hbc.mono Hbb.out.size))
    clear hbc
    go_wp2
    go_ret
    exact ⟨rfl, Hbb.out⟩
  rw [fa] at HFa
  have SA := Lib.hid (fine_sq ca fa ha.at')
  obtain ⟨_, h1, h4, _⟩ := fine_says fa
  clear ha fa
  generalize a.F = A at *
  generalize a.r = n at *
  have Hbb : Hid (Below w.heap.size w w) := Lib.hid (Below.refl _ _)
  go_enter Try.func7, Try.ntmps7
  go_wp2_with fail
  refine (HFa.out _ Hbb.out).mono ?_
  rintro e y1 ⟨rfl, hbc⟩
  dsimp only
  have SA := Lib.hid (SA.out.below hbc)
  have Hbb := Lib.hid (Hbb.out.trans (hbc.mono Hbb.out.size))
  clear hbc
  clear HFa
  go_wp2_with fail
  refine (sq_chr h1 h4 SA.out (by decide)).mono ?_
  rintro e y2 ⟨v1, rfl, hsc, hbc⟩
  dsimp only
  have SA := Lib.hid (SA.out.below hbc)
  have Hbb := Lib.hid (Hbb.out.trans (hbc.mono Hbb.out.size))
  have SP := Lib.hid hsc
  clear hbc hsc
  obtain ⟨pp, pc, hv1, _⟩ := SP.out.val
  subst hv1
  have hdz := detL_size h1 h4 SA.out.bn (by decide)
  have HDn := Lib.hid (fun W => negc_any (detL n A) hdz W)
  clear hdz
  go_wp2_with fail
  refine (sq_det h1 h4 SA.out (by decide)).mono ?_
  rintro e y3 hok
  obtain ⟨rfl, hbc⟩ := hok.ok
  dsimp only
  clear hok
  have SA := Lib.hid (SA.out.below hbc)
  have SP := Lib.hid (SP.out.below hbc)
  have Hbb := Lib.hid (Hbb.out.trans (hbc.mono Hbb.out.size))
  clear hbc
  have HPR : Hid (RowF y3 pp (n + 1) (chrP n A n)) := Lib.hid (by
    obtain ⟨p', c', he, hR⟩ := SP.out.val
    injection he with he1 _ _
    rw [he1]
    exact hR)
  have HPb := Lib.hid SP.out.bn
  clear SP
  have hbc := (Below.refl y3.heap.size y3).alloc (Nat.le_refl _) (.cells #[.bool (canon (detL n A)).neg, .string (canon (detL n A)).mag] 27)
  have BD := Lib.hid (BoxAt.new y3 (.bool (canon (detL n A)).neg) (.string (canon (detL n A)).mag) 27)
  have HV := Lib.hid hbc
  clear hbc
  go_wp2_with fail
  generalize y3.alloc (.cells #[.bool (canon (detL n A)).neg, .string (canon (detL n A)).mag] 27) = x1 at *
  obtain ⟨gD, hgD⟩ : ∃ g, y3.heap.size = g := ⟨_, rfl⟩
  rw [hgD] at BD ⊢
  obtain ⟨pb, po, hpe, _, _⟩ := HPR.out.cells (k := 0) (by omega)
  subst hpe
  obtain ⟨n1, n2⟩ := HPR.out.at (k := n) (by omega) rfl
  rw [chrP_top n A] at n1 n2
  have n1 := cell_below HV.out n1
  have n2 := cell_below HV.out n2
  have HO := Lib.hid (fun W => lawOf_any 1 (by decide) (by decide) W)
  obtain ⟨SS, hSe⟩ : ∃ SS : World → Prop, SS = fun W => W.cell? ⟨pb, po + n * 2, none⟩ = some (.bool (canon 1).neg) ∧ W.cell? ⟨pb, po + n * 2 + 1, none⟩ = some (.string (canon 1).mag) := ⟨_, rfl⟩
  have HS : Hid (∀ W, Below x1.heap.size x1 W → SS W) := Lib.hid (fun W hW => by rw [hSe]; exact ⟨cell_below hW n1, cell_below hW n2⟩)
  clear n1 n2
  have nn0 : (0 : Int) ≤ (n : Int) := by omega
  have nn1 : (n : Int) < (n : Int) + 1 := by omega
  have nn4 : (n : Int) ≤ 4 := by omega
  have hw6 : IntKind.i64.wrap ((n : Int) + 1) = (n : Int) + 1 := IntWalk.i64_in _ (by omega)
  have hd : Below x1.heap.size x1 x1.drew := (Below.refl x1.heap.size x1).drew
  refine wp_region_held_drew (S := SS) (by kernel_rfl) (HS.out _ hd) (fun hSS => ?_)
  refine wpAnyH_take (i := 0) (v := ?_) rfl (by kernel_rfl) (by kernel_rfl) (by kernel_rfl) (fun _ _ _ h => h) (Or.inl ⟨by rfl, ?_⟩) hSS ?_
  rotate_left 1
  next => intro w hSw; rw [hSe] at hSw; obtain ⟨s1, s2⟩ := hSw; go_simp; try with_reducible rfl
  try simp only [Act.put, List.getElem_toArray, List.getElem_cons_zero, List.getElem_cons_succ, List.setIfInBounds_toArray, List.set_cons_zero, List.set_cons_succ]
  refine wpAnyH_take (i := 1) (v := ?_) rfl (by kernel_rfl) (by kernel_rfl) (by kernel_rfl) (fun _ _ _ h => h) (Or.inl ⟨by rfl, ?_⟩) hSS ?_
  rotate_left 1
  next => intro w hSw; rw [hSe] at hSw; obtain ⟨s1, s2⟩ := hSw; go_simp; try with_reducible rfl
  try simp only [Act.put, List.getElem_toArray, List.getElem_cons_zero, List.getElem_cons_succ, List.setIfInBounds_toArray, List.set_cons_zero, List.set_cons_succ]
  refine wpAnyH_take (i := 2) (v := ?_) rfl (by kernel_rfl) (by kernel_rfl) (by kernel_rfl) (fun _ _ _ h => h) (Or.inl ⟨by rfl, ?_⟩) hSS ?_
  rotate_left 1
  next => intro w hSw; rw [hSe] at hSw; obtain ⟨s1, s2⟩ := hSw; go_simp; try with_reducible rfl
  try simp only [Act.put, List.getElem_toArray, List.getElem_cons_zero, List.getElem_cons_succ, List.setIfInBounds_toArray, List.set_cons_zero, List.set_cons_succ]
  refine wpAnyH_take (i := 3) (v := ?_) rfl (by kernel_rfl) (by kernel_rfl) (by kernel_rfl) (fun _ _ _ h => h) (Or.inl ⟨by rfl, ?_⟩) hSS ?_
  rotate_left 1
  next => intro w hSw; rw [hSe] at hSw; obtain ⟨s1, s2⟩ := hSw; go_simp; try with_reducible rfl
  try simp only [Act.put, List.getElem_toArray, List.getElem_cons_zero, List.getElem_cons_succ, List.setIfInBounds_toArray, List.set_cons_zero, List.set_cons_succ]
  refine wpAnyH_take (i := 4) (v := ?_) rfl (by kernel_rfl) (by kernel_rfl) (by kernel_rfl) (fun _ _ _ h => h) (Or.inl ⟨by rfl, ?_⟩) hSS ?_
  rotate_left 1
  next => intro w hSw; rw [hSe] at hSw; obtain ⟨s1, s2⟩ := hSw; go_simp; try with_reducible rfl
  try simp only [Act.put, List.getElem_toArray, List.getElem_cons_zero, List.getElem_cons_succ, List.setIfInBounds_toArray, List.set_cons_zero, List.set_cons_succ]
  refine wpAnyH_take (i := 5) (v := ?_) rfl (by kernel_rfl) (by kernel_rfl) (by kernel_rfl) (fun _ _ _ h => h) (Or.inl ⟨by rfl, ?_⟩) hSS ?_
  rotate_left 1
  next => intro w hSw; rw [hSe] at hSw; obtain ⟨s1, s2⟩ := hSw; go_simp; try with_reducible rfl
  try simp only [Act.put, List.getElem_toArray, List.getElem_cons_zero, List.getElem_cons_succ, List.setIfInBounds_toArray, List.set_cons_zero, List.set_cons_succ]
  refine wpAnyH_take (i := 6) (v := ?_) rfl (by kernel_rfl) (by kernel_rfl) (by kernel_rfl) (fun _ _ _ h => h) (Or.inl ⟨by rfl, ?_⟩) hSS ?_
  rotate_left 1
  next => intro w hSw; rw [hSe] at hSw; obtain ⟨s1, s2⟩ := hSw; go_simp; try with_reducible rfl
  try simp only [Act.put, List.getElem_toArray, List.getElem_cons_zero, List.getElem_cons_succ, List.setIfInBounds_toArray, List.set_cons_zero, List.set_cons_succ]
  refine wpAnyH_take (i := 7) (v := ?_) rfl (by kernel_rfl) (by kernel_rfl) (by kernel_rfl) (fun _ _ _ h => h) (Or.inl ⟨by rfl, ?_⟩) hSS ?_
  rotate_left 1
  next => intro w hSw; rw [hSe] at hSw; obtain ⟨s1, s2⟩ := hSw; go_simp; try with_reducible rfl
  try simp only [Act.put, List.getElem_toArray, List.getElem_cons_zero, List.getElem_cons_succ, List.setIfInBounds_toArray, List.set_cons_zero, List.set_cons_succ]
  refine wpAnyH_take (i := 8) (v := ?_) rfl (by kernel_rfl) (by kernel_rfl) (by kernel_rfl) (fun _ _ _ h => h) (Or.inl ⟨by rfl, ?_⟩) hSS ?_
  rotate_left 1
  next => intro w hSw; rw [hSe] at hSw; obtain ⟨s1, s2⟩ := hSw; go_simp; try with_reducible rfl
  try simp only [Act.put, List.getElem_toArray, List.getElem_cons_zero, List.getElem_cons_succ, List.setIfInBounds_toArray, List.set_cons_zero, List.set_cons_succ]
  refine wpAnyH_take (i := 9) (v := ?_) rfl (by kernel_rfl) (by kernel_rfl) (by kernel_rfl) (fun _ _ _ h => h) (Or.inl ⟨by rfl, ?_⟩) hSS ?_
  rotate_left 1
  next => intro w hSw; rw [hSe] at hSw; obtain ⟨s1, s2⟩ := hSw; go_simp; try with_reducible rfl
  try simp only [Act.put, List.getElem_toArray, List.getElem_cons_zero, List.getElem_cons_succ, List.setIfInBounds_toArray, List.set_cons_zero, List.set_cons_succ]
  refine wpAnyH_take (i := 10) (v := ?_) rfl (by kernel_rfl) (by kernel_rfl) (by kernel_rfl) (fun _ _ _ h => h) (Or.inl ⟨by rfl, ?_⟩) hSS ?_
  rotate_left 1
  next => intro w hSw; rw [hSe] at hSw; obtain ⟨s1, s2⟩ := hSw; go_simp; try with_reducible rfl
  try simp only [Act.put, List.getElem_toArray, List.getElem_cons_zero, List.getElem_cons_succ, List.setIfInBounds_toArray, List.set_cons_zero, List.set_cons_succ]
  refine wpAnyH_take (i := 11) (v := ?_) rfl (by kernel_rfl) (by kernel_rfl) (by kernel_rfl) (fun _ _ _ h => h) (Or.inl ⟨by rfl, ?_⟩) hSS ?_
  rotate_left 1
  next => intro w hSw; rw [hSe] at hSw; obtain ⟨s1, s2⟩ := hSw; go_simp; try with_reducible rfl
  try simp only [Act.put, List.getElem_toArray, List.getElem_cons_zero, List.getElem_cons_succ, List.setIfInBounds_toArray, List.set_cons_zero, List.set_cons_succ]
  try simp only [bne_self_eq_false]
  refine wpAnyH_take (i := 12) (v := ?_) rfl (by kernel_rfl) (by kernel_rfl) (by kernel_rfl) (fun _ _ _ h => h) (Or.inl ⟨by rfl, ?_⟩) hSS ?_
  rotate_left 1
  next => intro w hSw; rw [hSe] at hSw; obtain ⟨s1, s2⟩ := hSw; go_simp; try with_reducible rfl
  try simp only [Act.put, List.getElem_toArray, List.getElem_cons_zero, List.getElem_cons_succ, List.setIfInBounds_toArray, List.set_cons_zero, List.set_cons_succ]
  refine wpAnyH_take (i := 13) (v := ?_) rfl (by kernel_rfl) (by kernel_rfl) (by kernel_rfl) (fun _ _ _ h => h) (Or.inl ⟨by rfl, ?_⟩) hSS ?_
  rotate_left 1
  next => intro w hSw; rw [hSe] at hSw; obtain ⟨s1, s2⟩ := hSw; go_simp; try with_reducible rfl
  try simp only [Act.put, List.getElem_toArray, List.getElem_cons_zero, List.getElem_cons_succ, List.setIfInBounds_toArray, List.set_cons_zero, List.set_cons_succ]
  refine wpAnyH_take (i := 14) (v := ?_) rfl (by kernel_rfl) (by kernel_rfl) (by kernel_rfl) (fun _ _ _ h => h) (Or.inl ⟨by rfl, ?_⟩) hSS ?_
  rotate_left 1
  next => intro w hSw; rw [hSe] at hSw; obtain ⟨s1, s2⟩ := hSw; go_simp; try with_reducible rfl
  try simp only [Act.put, List.getElem_toArray, List.getElem_cons_zero, List.getElem_cons_succ, List.setIfInBounds_toArray, List.set_cons_zero, List.set_cons_succ]
  refine wpAnyH_take (i := 15) (v := ?_) rfl (by kernel_rfl) (by kernel_rfl) (by kernel_rfl) (fun _ _ _ h => h) (Or.inl ⟨by rfl, ?_⟩) hSS ?_
  rotate_left 1
  next => intro w hSw; rw [hSe] at hSw; obtain ⟨s1, s2⟩ := hSw; go_simp; try with_reducible rfl
  try simp only [Act.put, List.getElem_toArray, List.getElem_cons_zero, List.getElem_cons_succ, List.setIfInBounds_toArray, List.set_cons_zero, List.set_cons_succ]
  refine wpAnyH_take (i := 16) (v := ?_) rfl (by kernel_rfl) (by kernel_rfl) (by kernel_rfl) (fun _ _ _ h => h) (Or.inl ⟨by rfl, ?_⟩) hSS ?_
  rotate_left 1
  next => intro w hSw; rw [hSe] at hSw; obtain ⟨s1, s2⟩ := hSw; go_simp; try with_reducible rfl
  try simp only [Act.put, List.getElem_toArray, List.getElem_cons_zero, List.getElem_cons_succ, List.setIfInBounds_toArray, List.set_cons_zero, List.set_cons_succ]
  refine wpAnyH_take (i := 17) (v := ?_) rfl (by kernel_rfl) (by kernel_rfl) (by kernel_rfl) (fun _ _ _ h => h) (Or.inl ⟨by rfl, ?_⟩) hSS ?_
  rotate_left 1
  next => intro w hSw; rw [hSe] at hSw; obtain ⟨s1, s2⟩ := hSw; go_simp; try with_reducible rfl
  try simp only [Act.put, List.getElem_toArray, List.getElem_cons_zero, List.getElem_cons_succ, List.setIfInBounds_toArray, List.set_cons_zero, List.set_cons_succ]
  try simp only [Act.put, List.getElem_toArray, List.getElem_cons_zero, List.getElem_cons_succ, List.setIfInBounds_toArray, List.set_cons_zero, List.set_cons_succ]
  refine wpAnyH_ready (rs := [18]) (by kernel_rfl) (by simp) ?_
  refine AllReadyH.cons rfl (fun K hK => ?_) AllReadyH.nil
  go_simp
  refine (HO.out _).mono ?_
  rintro e x2 ⟨rfl, hbc⟩
  have hx2 : Below x1.heap.size x1 x2 := hd.trans (hbc.mono hd.size)
  dsimp only
  refine hK.out _ _ (HS.out _ hx2) (fun _ => ?_)
  clear hK K
  refine wpAnyH_take (i := 19) (v := ?_) rfl (by kernel_rfl) (by kernel_rfl) (by kernel_rfl) (fun _ _ _ h => h) (Or.inl ⟨by rfl, ?_⟩) (HS.out _ hx2) ?_
  rotate_left 1
  next => intro w hSw; rw [hSe] at hSw; obtain ⟨s1, s2⟩ := hSw; go_simp; try with_reducible rfl
  try simp only [Act.put, List.getElem_toArray, List.getElem_cons_zero, List.getElem_cons_succ, List.setIfInBounds_toArray, List.set_cons_zero, List.set_cons_succ]
  refine wpAnyH_take (i := 20) (v := ?_) rfl (by kernel_rfl) (by kernel_rfl) (by kernel_rfl) (fun _ _ _ h => h) (Or.inl ⟨by rfl, ?_⟩) (HS.out _ hx2) ?_
  rotate_left 1
  next => intro w hSw; rw [hSe] at hSw; obtain ⟨s1, s2⟩ := hSw; go_simp; try with_reducible rfl
  try simp only [Act.put, List.getElem_toArray, List.getElem_cons_zero, List.getElem_cons_succ, List.setIfInBounds_toArray, List.set_cons_zero, List.set_cons_succ]
  refine wpAnyH_done (by kernel_rfl) ?_ _
  have BD := Lib.hid (BD.out.below hx2 BD.out.2.2.2.2)
  have HV := Lib.hid (HV.out.trans (hx2.mono HV.out.size))
  clear hx2 hd HS hSe HO hSS hbc
  go_upto_if 62 with (fail)
  go_cut [6] (fun v wx => v = .pointer (some ⟨gD, 0, none⟩) ∧ Hid (BoxAt wx gD (.bool (canon (sgF n (detL n A))).neg) (.string (canon (sgF n (detL n A))).mag)) ∧ Hid (Below y3.heap.size y3 wx))
  case first =>
    by_cases hodd : n % 2 = 1
    · have ep : ((n : Int) % 2 == 1) = true := by rw [beq_iff_eq]; omega
      have hsg : sgF n (detL n A) = -detL n A := if_pos hodd
      obtain ⟨c0, c1, f0, f1, hl⟩ := BD.out
      go_wp2_with fail
      refine (HDn.out _).mono ?_
      rintro e x3 ⟨rfl, hbc⟩
      dsimp only
      have BD3 := Lib.hid (BD.out.below hbc BD.out.2.2.2.2)
      have HV3 := Lib.hid (HV.out.trans (hbc.mono HV.out.size))
      clear hbc c0 c1 f0 f1 hl
      obtain ⟨c0, c1, f0, f1, hl⟩ := BD3.out
      have BD4 := Lib.hid (boxp_set BD3.out (.bool (canon (-detL n A)).neg) (.string (canon (-detL n A)).mag))
      have HV4 : Hid (Below y3.heap.size y3 ((x3.setCell ⟨gD, 0, none⟩ (.bool (canon (-detL n A)).neg)).setCell ⟨gD, 1, none⟩ (.string (canon (-detL n A)).mag))) := Lib.hid ((HV3.out.setCell (by rw [hgD]; exact Nat.le_refl _) _).setCell (by rw [hgD]; exact Nat.le_refl _) _)
      go_wp2_with fail
      go_meet
      exact ⟨rfl, by rw [hsg]; exact BD4, HV4⟩
    · have ep : ((n : Int) % 2 == 1) = false := by rw [beq_eq_false_iff_ne]; omega
      have hsg : sgF n (detL n A) = detL n A := if_neg hodd
      go_wp2_with fail
      go_meet
      exact ⟨rfl, by rw [hsg]; exact BD, HV⟩
  case rest =>
    obtain ⟨rfl, BD, HV⟩ := hcut
    clear HDn
    have hDe : sgF n (detL n A) = chrP n A n 0 := by rw [chrP_zero h1, chr_det n h1 h4]
    rw [hDe] at BD
    clear hDe
    have hbT := (Below.refl wc.heap.size wc).alloc (Nat.le_refl _) (.cells #[.bool false, .string ⟨#[]⟩] 27)
    have BT : Hid (BoxAt _ wc.heap.size (.bool (canon (dotN (fun i => A i i) 0)).neg) (.string (canon (dotN (fun i => A i i) 0)).mag)) := Lib.hid (BoxAt.new wc (.bool false) (.string ⟨#[]⟩) 27)
    have hgT : gD < wc.heap.size := BD.out.2.2.2.2
    have BD := Lib.hid (BD.out.below hbT BD.out.2.2.2.2)
    have HV := Lib.hid (HV.out.trans (hbT.mono HV.out.size))
    clear hbT
    go_wp2_with fail
    generalize wc.alloc (.cells #[.bool false, .string ⟨#[]⟩] 27) = x3 at *
    generalize wc.heap.size = gT at *
    go_loopw [67] (fun v wr => ∃ i : Nat, i ≤ n ∧ v = .int .i64 i ∧ Hid (Below y3.heap.size y3 wr) ∧ Hid (BoxAt wr gD (.bool (canon (chrP n A n 0)).neg) (.string (canon (chrP n A n 0)).mag)) ∧ Hid (BoxAt wr gT (.bool (canon (dotN (fun i => A i i) i)).neg) (.string (canon (dotN (fun i => A i i) i)).mag))) (fun v _ => n - (intOf v).toNat)
    case atStart => exact ⟨0, by omega, by go_num, HV, BD, BT⟩
    case round =>
      clear HV BD BT
      obtain ⟨i, hi, rfl, HV, BD, BT⟩ := hrel
      by_cases hlt : i < n
      · have i0 : (0 : Int) ≤ (i : Int) := by omega
        have i1 : (i : Int) < (n : Int) := by omega
        obtain ⟨pa', ca', hva, hMA⟩ := SA.out.val
        injection hva with hva1 hva2 hva3
        subst hva1 hva3
        obtain ⟨fb, fo, hpe, hfb, H, hH, hRr⟩ := hMA.cells hlt
        subst hpe
        obtain ⟨ab, ao, hqe, hab, hac⟩ := (hRr i hlt).cells hlt
        have a1 := hH i hlt
        rw [hqe] at a1
        obtain ⟨a2, a3⟩ := hac i hlt
        have a1 := cell_below HV.out a1
        have a2 := cell_below HV.out a2
        have a3 := cell_below HV.out a3
        have hab2 : ab < gD := by rw [← hgD]; exact hab
        have hfb2 : fb < gD := by rw [← hgD]; exact hfb
        have hbn := SA.out.bn
        have HA := Lib.hid (fun W => addc_any (dotN (fun i => A i i) i) (A i i) ((Bn.dot (e := 24) (m := 2) i (by omega) fun j hj => hbn j j (by omega) (by omega)).size _ (by decide)) ((hbn i i hlt hlt).size _ (by decide)) W)
        rw [show dotN (fun i => A i i) i + A i i = dotN (fun i => A i i) (i + 1) from rfl] at HA
        obtain ⟨XA, hXA⟩ : ∃ Z, canon (A i i) = Z := ⟨_, rfl⟩
        obtain ⟨XS, hXS⟩ : ∃ Z, canon (dotN (fun i => A i i) i) = Z := ⟨_, rfl⟩
        obtain ⟨XT, hXT⟩ : ∃ Z, canon (dotN (fun i => A i i) (i + 1)) = Z := ⟨_, rfl⟩
        rw [hXA, hXS, hXT] at HA
        rw [hXA] at a2 a3
        rw [hXS] at BT
        have HXT := Lib.hid hXT
        clear hXA hXS hXT hbn hac hH hRr hMA hqe
        obtain ⟨SS, hSe⟩ : ∃ SS : World → Prop, SS = fun W => W.cell? ⟨fb, fo + i, none⟩ = some (.slice (some ⟨ab, ao, none⟩) n (H i).2) ∧ W.cell? ⟨ab, ao + i * 2, none⟩ = some (.bool XA.neg) ∧ W.cell? ⟨ab, ao + i * 2 + 1, none⟩ = some (.string XA.mag) := ⟨_, rfl⟩
        go_wp2_with fail
        have HS : Hid (∀ W, Below wr.heap.size wr W → SS W) := Lib.hid (fun W hW => by rw [hSe]; exact ⟨cell_below hW a1, cell_below hW a2, cell_below hW a3⟩)
        have HS2 : Hid (∀ W v1 v2, SS W → SS ((W.setCell ⟨gT, 0, none⟩ v1).setCell ⟨gT, 1, none⟩ v2)) := Lib.hid (fun W v1 v2 hW => by
          rw [hSe] at hW ⊢
          obtain ⟨s1, s2, s3⟩ := hW
          refine ⟨?_, ?_, ?_⟩ <;> (rw [World.cell?_setCell_other _ _ _ _ (by intro hh; simp only [Addr.mk.injEq] at hh; omega), World.cell?_setCell_other _ _ _ _ (by intro hh; simp only [Addr.mk.injEq] at hh; omega)]; assumption))
        clear a1 a2 a3
        have hd : Below wr.heap.size wr wr.drew := (Below.refl wr.heap.size wr).drew
        refine wp_region_held_drew (S := SS) (by kernel_rfl) (HS.out _ hd) (fun hSS => ?_)
        refine wpAnyH_take (i := 1) (v := ?_) rfl (by kernel_rfl) (by kernel_rfl) (by kernel_rfl) (fun _ _ _ h => h) (Or.inl ⟨by rfl, ?_⟩) hSS ?_
        rotate_left 1
        next => intro w hSw; rw [hSe] at hSw; obtain ⟨s1, s2, s3⟩ := hSw; go_simp; try with_reducible rfl
        try simp only [Act.put, List.getElem_toArray, List.getElem_cons_zero, List.getElem_cons_succ, List.setIfInBounds_toArray, List.set_cons_zero, List.set_cons_succ]
        refine wpAnyH_take (i := 2) (v := ?_) rfl (by kernel_rfl) (by kernel_rfl) (by kernel_rfl) (fun _ _ _ h => h) (Or.inl ⟨by rfl, ?_⟩) hSS ?_
        rotate_left 1
        next => intro w hSw; rw [hSe] at hSw; obtain ⟨s1, s2, s3⟩ := hSw; go_simp; try with_reducible rfl
        try simp only [Act.put, List.getElem_toArray, List.getElem_cons_zero, List.getElem_cons_succ, List.setIfInBounds_toArray, List.set_cons_zero, List.set_cons_succ]
        refine wpAnyH_take (i := 3) (v := ?_) rfl (by kernel_rfl) (by kernel_rfl) (by kernel_rfl) (fun _ _ _ h => h) (Or.inl ⟨by rfl, ?_⟩) hSS ?_
        rotate_left 1
        next => intro w hSw; rw [hSe] at hSw; obtain ⟨s1, s2, s3⟩ := hSw; go_simp; try with_reducible rfl
        try simp only [Act.put, List.getElem_toArray, List.getElem_cons_zero, List.getElem_cons_succ, List.setIfInBounds_toArray, List.set_cons_zero, List.set_cons_succ]
        refine wpAnyH_take (i := 4) (v := ?_) rfl (by kernel_rfl) (by kernel_rfl) (by kernel_rfl) (fun _ _ _ h => h) (Or.inl ⟨by rfl, ?_⟩) hSS ?_
        rotate_left 1
        next => intro w hSw; rw [hSe] at hSw; obtain ⟨s1, s2, s3⟩ := hSw; go_simp; try with_reducible rfl
        try simp only [Act.put, List.getElem_toArray, List.getElem_cons_zero, List.getElem_cons_succ, List.setIfInBounds_toArray, List.set_cons_zero, List.set_cons_succ]
        refine wpAnyH_take (i := 5) (v := ?_) rfl (by kernel_rfl) (by kernel_rfl) (by kernel_rfl) (fun _ _ _ h => h) (Or.inl ⟨by rfl, ?_⟩) hSS ?_
        rotate_left 1
        next => intro w hSw; rw [hSe] at hSw; obtain ⟨s1, s2, s3⟩ := hSw; go_simp; try with_reducible rfl
        try simp only [Act.put, List.getElem_toArray, List.getElem_cons_zero, List.getElem_cons_succ, List.setIfInBounds_toArray, List.set_cons_zero, List.set_cons_succ]
        refine wpAnyH_take (i := 6) (v := ?_) rfl (by kernel_rfl) (by kernel_rfl) (by kernel_rfl) (fun _ _ _ h => h) (Or.inl ⟨by rfl, ?_⟩) hSS ?_
        rotate_left 1
        next => intro w hSw; rw [hSe] at hSw; obtain ⟨s1, s2, s3⟩ := hSw; go_simp; try with_reducible rfl
        try simp only [Act.put, List.getElem_toArray, List.getElem_cons_zero, List.getElem_cons_succ, List.setIfInBounds_toArray, List.set_cons_zero, List.set_cons_succ]
        refine wpAnyH_take (i := 7) (v := ?_) rfl (by kernel_rfl) (by kernel_rfl) (by kernel_rfl) (fun _ _ _ h => h) (Or.inl ⟨by rfl, ?_⟩) hSS ?_
        rotate_left 1
        next => intro w hSw; rw [hSe] at hSw; obtain ⟨s1, s2, s3⟩ := hSw; go_simp; try with_reducible rfl
        try simp only [Act.put, List.getElem_toArray, List.getElem_cons_zero, List.getElem_cons_succ, List.setIfInBounds_toArray, List.set_cons_zero, List.set_cons_succ]
        try simp only [Act.put, List.getElem_toArray, List.getElem_cons_zero, List.getElem_cons_succ, List.setIfInBounds_toArray, List.set_cons_zero, List.set_cons_succ]
        refine wpAnyH_ready (rs := [0]) (by kernel_rfl) (by simp) ?_
        refine AllReadyH.cons rfl (fun K hK => ?_) AllReadyH.nil
        obtain ⟨z0, z1, z2, z3, z4⟩ := BT.out.below hd BT.out.2.2.2.2
        go_simp
        refine hK.out _ _ hSS (fun _ => ?_)
        clear hK K
        try simp only [Act.put, List.getElem_toArray, List.getElem_cons_zero, List.getElem_cons_succ, List.setIfInBounds_toArray, List.set_cons_zero, List.set_cons_succ]
        refine wpAnyH_ready (rs := [8]) (by kernel_rfl) (by simp) ?_
        refine AllReadyH.cons rfl (fun K hK => ?_) AllReadyH.nil
        go_simp
        refine (HA.out _).mono ?_
        rintro e x5 ⟨rfl, hbc⟩
        have hx5 : Below wr.heap.size wr x5 := hd.trans (hbc.mono hd.size)
        dsimp only
        refine hK.out _ _ (HS.out _ hx5) (fun _ => ?_)
        clear hK K z0 z1 z2 z3 z4
        try simp only [Act.put, List.getElem_toArray, List.getElem_cons_zero, List.getElem_cons_succ, List.setIfInBounds_toArray, List.set_cons_zero, List.set_cons_succ]
        refine wpAnyH_ready (rs := [9]) (by kernel_rfl) (by simp) ?_
        refine AllReadyH.cons rfl (fun K hK => ?_) AllReadyH.nil
        have BT5 := Lib.hid (BT.out.below hx5 BT.out.2.2.2.2)
        obtain ⟨z0, z1, z2, z3, z4⟩ := BT5.out
        go_simp
        refine hK.out _ _ (HS2.out _ _ _ (HS.out _ hx5)) (fun _ => ?_)
        clear hK K
        refine wpAnyH_done (by kernel_rfl) ?_ _
        have HV5 : Hid (Below y3.heap.size y3 ((x5.setCell ⟨gT, 0, none⟩ (.bool XT.neg)).setCell ⟨gT, 1, none⟩ (.string XT.mag))) := Lib.hid (((HV.out.trans (hx5.mono HV.out.size)).setCell (by rw [hgD]; exact Nat.le_of_lt hgT) _).setCell (by rw [hgD]; exact Nat.le_of_lt hgT) _)
        have BD5 := Lib.hid (boxp_far (boxp_far (BD.out.below hx5 BD.out.2.2.2.2) (p := ⟨gT, 0, none⟩) (by show gD ≠ gT; omega) (.bool XT.neg)) (p := ⟨gT, 1, none⟩) (by show gD ≠ gT; omega) (.string XT.mag))
        have BT6 : Hid (BoxAt _ gT (.bool (canon (dotN (fun i => A i i) (i + 1))).neg) (.string (canon (dotN (fun i => A i i) (i + 1))).mag)) := Lib.hid (by rw [HXT.out]; exact boxp_set BT5.out (.bool XT.neg) (.string XT.mag))
        clear z0 z1 z2 z3 z4 hx5 hd hSS BT BT5 BD HV HS HS2 hbc
        go_wp2
        go_roundw
        case rel => exact ⟨i + 1, by omega, by go_num, HV5, BD5, BT6⟩
        case measure => simp [intOf]; omega
      · have i1 : ¬ (i : Int) < (n : Int) := by omega
        have hie : i = n := by omega
        rw [hie] at BT
        clear hie hlt hi
        have hbn := SA.out.bn
        have HNg := Lib.hid (fun W => negc_any (dotN (fun i => A i i) n) ((Bn.dot (e := 24) (m := 2) n (by omega) fun j hj => hbn j j hj hj).size _ (by decide)) W)
        have hTe := chrP_trace h1 A
        obtain ⟨q0, q1⟩ := HPR.out.at (k := 0) (by omega) rfl
        obtain ⟨q2, q3⟩ := HPR.out.at (k := n - 1) (by omega) rfl
        rw [hTe] at q2 q3
        have q0 := cell_below HV.out q0
        have q1 := cell_below HV.out q1
        have q2 := cell_below HV.out q2
        have q3 := cell_below HV.out q3
        simp only [Nat.zero_mul, Nat.add_zero] at q0 q1
        obtain ⟨d0, d1, _, _, _⟩ := BD.out
        obtain ⟨t0, t1, _, _, _⟩ := BT.out
        obtain ⟨X0, hX0⟩ : ∃ Z, canon (chrP n A n 0) = Z := ⟨_, rfl⟩
        obtain ⟨XT, hXT⟩ : ∃ Z, canon (dotN (fun i => A i i) n) = Z := ⟨_, rfl⟩
        obtain ⟨XN, hXN⟩ : ∃ Z, canon (-dotN (fun i => A i i) n) = Z := ⟨_, rfl⟩
        rw [hX0] at q0 q1 d0 d1
        rw [hXT] at t0 t1 HNg
        rw [hXN] at q2 q3 HNg
        clear hX0 hXT hXN hTe hbn BD BT
        obtain ⟨SS, hSe⟩ : ∃ SS : World → Prop, SS = fun W => W.cell? ⟨pb, po, none⟩ = some (.bool X0.neg) ∧ W.cell? ⟨pb, po + 1, none⟩ = some (.string X0.mag) ∧ W.cell? ⟨pb, po + (n - 1) * 2, none⟩ = some (.bool XN.neg) ∧ W.cell? ⟨pb, po + (n - 1) * 2 + 1, none⟩ = some (.string XN.mag) ∧ W.cell? ⟨gD, 0, none⟩ = some (.bool X0.neg) ∧ W.cell? ⟨gD, 1, none⟩ = some (.string X0.mag) ∧ W.cell? ⟨gT, 0, none⟩ = some (.bool XT.neg) ∧ W.cell? ⟨gT, 1, none⟩ = some (.string XT.mag) := ⟨_, rfl⟩
        go_wp2_with fail
        have HS : Hid (∀ W, Below wr.heap.size wr W → SS W) := Lib.hid (fun W hW => by rw [hSe]; exact ⟨cell_below hW q0, cell_below hW q1, cell_below hW q2, cell_below hW q3, cell_below hW d0, cell_below hW d1, cell_below hW t0, cell_below hW t1⟩)
        clear q0 q1 q2 q3 d0 d1 t0 t1 i1
        have pn1 : (1 : Int) ≤ (n : Int) := by omega
        have p00 : (0 : Int) < (n : Int) + 1 := by omega
        have pm0 : (0 : Int) ≤ (n : Int) - 1 := by omega
        have pm1 : (n : Int) - 1 < (n : Int) + 1 := by omega
        have pmt : ((n : Int) - 1).toNat = n - 1 := by omega
        have pmw : IntKind.i64.wrap ((n : Int) - 1) = (n : Int) - 1 := IntWalk.i64_in _ (by omega)
        have hd : Below wr.heap.size wr wr.drew := (Below.refl wr.heap.size wr).drew
        refine wp_region_held_drew (S := SS) (by kernel_rfl) (HS.out _ hd) (fun hSS => ?_)
        refine wpAnyH_take (i := 0) (v := ?_) rfl (by kernel_rfl) (by kernel_rfl) (by kernel_rfl) (fun _ _ _ h => h) (Or.inl ⟨by rfl, ?_⟩) hSS ?_
        rotate_left 1
        next => intro w hSw; rw [hSe] at hSw; obtain ⟨s1, s2, s3, s4, s5, s6, s7, s8⟩ := hSw; go_simp; try with_reducible rfl
        try simp only [Act.put, List.getElem_toArray, List.getElem_cons_zero, List.getElem_cons_succ, List.setIfInBounds_toArray, List.set_cons_zero, List.set_cons_succ]
        refine wpAnyH_take (i := 1) (v := ?_) rfl (by kernel_rfl) (by kernel_rfl) (by kernel_rfl) (fun _ _ _ h => h) (Or.inl ⟨by rfl, ?_⟩) hSS ?_
        rotate_left 1
        next => intro w hSw; rw [hSe] at hSw; obtain ⟨s1, s2, s3, s4, s5, s6, s7, s8⟩ := hSw; go_simp; try with_reducible rfl
        try simp only [Act.put, List.getElem_toArray, List.getElem_cons_zero, List.getElem_cons_succ, List.setIfInBounds_toArray, List.set_cons_zero, List.set_cons_succ]
        refine wpAnyH_take (i := 2) (v := ?_) rfl (by kernel_rfl) (by kernel_rfl) (by kernel_rfl) (fun _ _ _ h => h) (Or.inl ⟨by rfl, ?_⟩) hSS ?_
        rotate_left 1
        next => intro w hSw; rw [hSe] at hSw; obtain ⟨s1, s2, s3, s4, s5, s6, s7, s8⟩ := hSw; go_simp; try with_reducible rfl
        try simp only [Act.put, List.getElem_toArray, List.getElem_cons_zero, List.getElem_cons_succ, List.setIfInBounds_toArray, List.set_cons_zero, List.set_cons_succ]
        refine wpAnyH_take (i := 3) (v := ?_) rfl (by kernel_rfl) (by kernel_rfl) (by kernel_rfl) (fun _ _ _ h => h) (Or.inl ⟨by rfl, ?_⟩) hSS ?_
        rotate_left 1
        next => intro w hSw; rw [hSe] at hSw; obtain ⟨s1, s2, s3, s4, s5, s6, s7, s8⟩ := hSw; go_simp; try with_reducible rfl
        try simp only [Act.put, List.getElem_toArray, List.getElem_cons_zero, List.getElem_cons_succ, List.setIfInBounds_toArray, List.set_cons_zero, List.set_cons_succ]
        refine wpAnyH_take (i := 4) (v := ?_) rfl (by kernel_rfl) (by kernel_rfl) (by kernel_rfl) (fun _ _ _ h => h) (Or.inl ⟨by rfl, ?_⟩) hSS ?_
        rotate_left 1
        next => intro w hSw; rw [hSe] at hSw; obtain ⟨s1, s2, s3, s4, s5, s6, s7, s8⟩ := hSw; go_simp; try with_reducible rfl
        try simp only [Act.put, List.getElem_toArray, List.getElem_cons_zero, List.getElem_cons_succ, List.setIfInBounds_toArray, List.set_cons_zero, List.set_cons_succ]
        refine wpAnyH_take (i := 5) (v := ?_) rfl (by kernel_rfl) (by kernel_rfl) (by kernel_rfl) (fun _ _ _ h => h) (Or.inl ⟨by rfl, ?_⟩) hSS ?_
        rotate_left 1
        next => intro w hSw; rw [hSe] at hSw; obtain ⟨s1, s2, s3, s4, s5, s6, s7, s8⟩ := hSw; go_simp; try with_reducible rfl
        try simp only [Act.put, List.getElem_toArray, List.getElem_cons_zero, List.getElem_cons_succ, List.setIfInBounds_toArray, List.set_cons_zero, List.set_cons_succ]
        refine wpAnyH_take (i := 6) (v := ?_) rfl (by kernel_rfl) (by kernel_rfl) (by kernel_rfl) (fun _ _ _ h => h) (Or.inl ⟨by rfl, ?_⟩) hSS ?_
        rotate_left 1
        next => intro w hSw; rw [hSe] at hSw; obtain ⟨s1, s2, s3, s4, s5, s6, s7, s8⟩ := hSw; go_simp; try with_reducible rfl
        try simp only [Act.put, List.getElem_toArray, List.getElem_cons_zero, List.getElem_cons_succ, List.setIfInBounds_toArray, List.set_cons_zero, List.set_cons_succ]
        refine wpAnyH_take (i := 7) (v := ?_) rfl (by kernel_rfl) (by kernel_rfl) (by kernel_rfl) (fun _ _ _ h => h) (Or.inl ⟨by rfl, ?_⟩) hSS ?_
        rotate_left 1
        next => intro w hSw; rw [hSe] at hSw; obtain ⟨s1, s2, s3, s4, s5, s6, s7, s8⟩ := hSw; go_simp; try with_reducible rfl
        try simp only [Act.put, List.getElem_toArray, List.getElem_cons_zero, List.getElem_cons_succ, List.setIfInBounds_toArray, List.set_cons_zero, List.set_cons_succ]
        refine wpAnyH_take (i := 8) (v := ?_) rfl (by kernel_rfl) (by kernel_rfl) (by kernel_rfl) (fun _ _ _ h => h) (Or.inl ⟨by rfl, ?_⟩) hSS ?_
        rotate_left 1
        next => intro w hSw; rw [hSe] at hSw; obtain ⟨s1, s2, s3, s4, s5, s6, s7, s8⟩ := hSw; go_simp; try with_reducible rfl
        try simp only [Act.put, List.getElem_toArray, List.getElem_cons_zero, List.getElem_cons_succ, List.setIfInBounds_toArray, List.set_cons_zero, List.set_cons_succ]
        refine wpAnyH_take (i := 9) (v := ?_) rfl (by kernel_rfl) (by kernel_rfl) (by kernel_rfl) (fun _ _ _ h => h) (Or.inl ⟨by rfl, ?_⟩) hSS ?_
        rotate_left 1
        next => intro w hSw; rw [hSe] at hSw; obtain ⟨s1, s2, s3, s4, s5, s6, s7, s8⟩ := hSw; go_simp; try with_reducible rfl
        try simp only [Act.put, List.getElem_toArray, List.getElem_cons_zero, List.getElem_cons_succ, List.setIfInBounds_toArray, List.set_cons_zero, List.set_cons_succ]
        refine wpAnyH_take (i := 10) (v := ?_) rfl (by kernel_rfl) (by kernel_rfl) (by kernel_rfl) (fun _ _ _ h => h) (Or.inl ⟨by rfl, ?_⟩) hSS ?_
        rotate_left 1
        next => intro w hSw; rw [hSe] at hSw; obtain ⟨s1, s2, s3, s4, s5, s6, s7, s8⟩ := hSw; go_simp; try with_reducible rfl
        try simp only [Act.put, List.getElem_toArray, List.getElem_cons_zero, List.getElem_cons_succ, List.setIfInBounds_toArray, List.set_cons_zero, List.set_cons_succ]
        refine wpAnyH_take (i := 11) (v := ?_) rfl (by kernel_rfl) (by kernel_rfl) (by kernel_rfl) (fun _ _ _ h => h) (Or.inl ⟨by rfl, ?_⟩) hSS ?_
        rotate_left 1
        next => intro w hSw; rw [hSe] at hSw; obtain ⟨s1, s2, s3, s4, s5, s6, s7, s8⟩ := hSw; go_simp; try with_reducible rfl
        try simp only [Act.put, List.getElem_toArray, List.getElem_cons_zero, List.getElem_cons_succ, List.setIfInBounds_toArray, List.set_cons_zero, List.set_cons_succ]
        try simp only [Act.put, List.getElem_toArray, List.getElem_cons_zero, List.getElem_cons_succ, List.setIfInBounds_toArray, List.set_cons_zero, List.set_cons_succ]
        refine wpAnyH_ready (rs := [12]) (by kernel_rfl) (by simp) ?_
        refine AllReadyH.cons rfl (fun K hK => ?_) AllReadyH.nil
        go_simp
        refine (HNg.out _).mono ?_
        rintro e x6 ⟨rfl, hbc⟩
        have hx6 : Below wr.heap.size wr x6 := hd.trans (hbc.mono hd.size)
        dsimp only
        refine hK.out _ _ (HS.out _ hx6) (fun _ => ?_)
        clear hK K
        refine wpAnyH_take (i := 13) (v := ?_) rfl (by kernel_rfl) (by kernel_rfl) (by kernel_rfl) (fun _ _ _ h => h) (Or.inl ⟨by rfl, ?_⟩) (HS.out _ hx6) ?_
        rotate_left 1
        next => intro w hSw; rw [hSe] at hSw; obtain ⟨s1, s2, s3, s4, s5, s6, s7, s8⟩ := hSw; go_simp; try with_reducible rfl
        try simp only [Act.put, List.getElem_toArray, List.getElem_cons_zero, List.getElem_cons_succ, List.setIfInBounds_toArray, List.set_cons_zero, List.set_cons_succ]
        refine wpAnyH_take (i := 14) (v := ?_) rfl (by kernel_rfl) (by kernel_rfl) (by kernel_rfl) (fun _ _ _ h => h) (Or.inl ⟨by rfl, ?_⟩) (HS.out _ hx6) ?_
        rotate_left 1
        next => intro w hSw; rw [hSe] at hSw; obtain ⟨s1, s2, s3, s4, s5, s6, s7, s8⟩ := hSw; go_simp; try with_reducible rfl
        try simp only [Act.put, List.getElem_toArray, List.getElem_cons_zero, List.getElem_cons_succ, List.setIfInBounds_toArray, List.set_cons_zero, List.set_cons_succ]
        refine wpAnyH_done (by kernel_rfl) ?_ _
        have HV := Lib.hid (HV.out.trans (hx6.mono HV.out.size))
        clear hx6 hd HS hSe HNg hSS hbc
        go_wp2_with fail
        refine (sq_one h1 h4 _).mono ?_
        rintro e x7 ⟨v7, rfl, hs7, hbc⟩
        dsimp only
        obtain ⟨⟨q7, c7, rfl, hM7⟩, _⟩ := hs7
        have HV := Lib.hid (HV.out.trans (hbc.mono HV.out.size))
        have HM7 : Hid (MatF x7 q7 n n (horN n A 0)) := Lib.hid hM7
        clear hbc hM7
        have pm0 : (0 : Int) ≤ (n : Int) - 1 := by omega
        go_wp2_with fail
        go_loopw [11, 12] (fun s v wr => ∃ (kk : Int) (j : Nat) (q : Option Addr) (c : Nat), j ≤ n ∧ kk + 1 + (j : Int) = n ∧ v = .int .i64 kk ∧ s = .slice q n c ∧ Hid (MatF wr q n n (horN n A j)) ∧ Hid (Below y3.heap.size y3 wr)) (fun _ v _ => (intOf v + 1).toNat)
        case atStart => exact ⟨(n : Int) - 1, 0, q7, c7, by omega, by omega, rfl, rfl, HM7, HV⟩
        case round =>
          clear HM7 HV
          obtain ⟨kk, j, q, c, hj, hkk, rfl, rfl, HMj, HV⟩ := hrel
          by_cases hjl : j < n
          · obtain ⟨m, rfl⟩ : ∃ m : Nat, kk = m := ⟨kk.toNat, by omega⟩
            have Hm : Hid (m = n - 1 - j) := Lib.hid (by omega)
            have m0 : (m : Int) ≥ 0 := by omega
            have hbj : BnM n n (horN n A j) (j * (24 + 2 + 2 + 1)) := fun i k hi hk => by
              rw [hor_chr n A j (by omega) i k hi hk]
              exact chrM_bn SA.out.bn (two_pow h4) j i k hi hk
            have SJ : Hid (Sq wr (.slice q n c) n (horN n A j) (j * (24 + 2 + 2 + 1))) := Lib.hid ⟨⟨q, c, rfl, HMj.out⟩, hbj⟩
            have hbm := hbj.mul SA.out.bn (two_pow h4)
            have HAd := Lib.hid (fun (i : Nat) (hi : i < n) W => addc_any (mulF n (horN n A j) A i i) (chrP n A n m) ((hbm i i hi hi).size _ (by omega)) ((HPb.out m (by omega)).size _ (by decide)) W)
            clear hbj hbm HMj
            go_wp2_with fail
            refine (sq_mul h1 h4 SJ.out (SA.out.below HV.out) (by omega)).mono ?_
            rintro e y ⟨v8, rfl, hs8, hbc⟩
            dsimp only
            obtain ⟨⟨q8, c8, rfl, hM8⟩, _⟩ := hs8
            have HV := Lib.hid (HV.out.trans (hbc.mono HV.out.size))
            clear hbc SJ
            have hn1 : ((n : Int) != (n : Int)) = false := bne_self_eq_false _
            obtain ⟨fb, fo, hpe, hfb, H, hH, hRr⟩ := hM8.cells h1
            subst hpe
            have HH := Lib.hid hH
            have HR := Lib.hid hRr
            obtain ⟨r0, r1⟩ := HPR.out.at (k := m) (by omega) rfl
            have r0 := cell_below HV.out r0
            have r1 := cell_below HV.out r1
            have Hr0 := Lib.hid r0
            have Hr1 := Lib.hid r1
            clear hH hRr hM8 r0 r1
            go_wp2_with fail
            go_loopw [11, 127] (fun s v wr => ∃ i : Nat, i ≤ n ∧ v = .int .i64 i ∧ Hid (SumH wr y.heap.size s i n (horN n A (j + 1))) ∧ Hid (Below y.heap.size y wr)) (fun _ v _ => n - (intOf v).toNat)
            case atStart => exact ⟨0, by omega, by go_num, Lib.hid (SumH.nil _ _ _ _), Lib.hid (Below.refl _ _)⟩
            case round =>
              obtain ⟨i, hi, rfl, HSm, HY⟩ := hrel
              by_cases hil : i < n
              · have i0 : (0 : Int) ≤ (i : Int) := by omega
                have i1 : (i : Int) < (n : Int) := by omega
                have a1 := cell_below HY.out (HH.out i hil)
                obtain ⟨ab, ao, hqe, hab, hac⟩ := ((HR.out i hil).below (Nat.le_refl _) HY.out).cells h1
                rw [hqe] at a1
                have Hac := Lib.hid hac
                clear hac hqe
                go_wp2_with (at_builtin; refine wpList_append_zs rfl _ _ rfl wr.heap.size _ [] rfl (OwnZ.made wr (Nat.le_refl _)) ab ao (H i).2 n (zsF (mulF n (horN n A j) A i) n) (zsF_len _ _) rfl ?_ ?_ ?_ ?_)
                · intro k hk
                  rw [zsF_len] at hk
                  rw [zsF_get _ _ hk]
                  have h := Hac.out k hk
                  have hb2 : Below wr.heap.size wr (wr.alloc (.cells #[] 27)) := (Below.refl _ _).alloc (Nat.le_refl _) _
                  exact ⟨cell_below hb2 h.1, cell_below hb2 h.2⟩
                · rw [zsF_len]; simp; omega
                · simp
                · intro v9 w9 hown9 hgr9
                  obtain ⟨gl, cl, rfl, hgl, hrow⟩ := hown9.mkRow h1
                  have hb9 : Below wr.heap.size wr w9 := below_append ((Below.refl wr.heap.size wr).alloc (Nat.le_refl _) _) (OwnZ.made wr (Nat.le_refl _)) hgr9 (by simp) (Nat.le_refl _)
                  have hyw : y.heap.size ≤ wr.heap.size := HY.out.size
                  have HY9 := Lib.hid (HY.out.trans (hb9.mono hyw))
                  have Hrow := Lib.hid hrow
                  have Hb9 := Lib.hid hb9
                  have s0 := cell_below HY9.out Hr0.out
                  have s1 := cell_below HY9.out Hr1.out
                  have hnext : ∀ k, (if k = i then mulF n (horN n A j) A i i + chrP n A n m else mulF n (horN n A j) A i k) = horN n A (j + 1) i k := fun k => by
                    show _ = mulF n (horN n A j) A i k + if i = k then chrP n A n (n - 1 - j) else 0
                    rw [Hm.out]
                    by_cases e : k = i
                    · subst e; rw [if_pos rfl, if_pos rfl]
                    · rw [if_neg e, if_neg (fun h => e h.symm), Int.add_zero]
                  have Hnext := Lib.hid hnext
                  have HA := Lib.hid (HAd.out i hil)
                  obtain ⟨XL, hXL⟩ : ∃ Z, canon (mulF n (horN n A j) A i i) = Z := ⟨_, rfl⟩
                  obtain ⟨XC, hXC⟩ : ∃ Z, canon (chrP n A n m) = Z := ⟨_, rfl⟩
                  obtain ⟨XN, hXN⟩ : ∃ Z, canon (mulF n (horN n A j) A i i + chrP n A n m) = Z := ⟨_, rfl⟩
                  rw [hXL, hXC, hXN] at HA
                  rw [hXC] at s0 s1
                  have HXL := Lib.hid hXL
                  have HXN := Lib.hid hXN
                  clear hXL hXC hXN hrow hown9 hgr9 hb9 hnext a1
                  obtain ⟨SS, hSe⟩ : ∃ SS : World → Prop, SS = fun W => W.cell? ⟨pb, po + m * 2, none⟩ = some (.bool XC.neg) ∧ W.cell? ⟨pb, po + m * 2 + 1, none⟩ = some (.string XC.mag) := ⟨_, rfl⟩
                  have HS : Hid (∀ W, Below w9.heap.size w9 W → SS W) := Lib.hid (fun W hW => by rw [hSe]; exact ⟨cell_below hW s0, cell_below hW s1⟩)
                  have hpl : pb < y.heap.size := World.block_lt_of_cell? y _ Hr0.out
                  have HS2 : Hid (∀ W v1 v2, SS W → SS ((W.setCell ⟨gl, i * 2, none⟩ v1).setCell ⟨gl, i * 2 + 1, none⟩ v2)) := Lib.hid (fun W v1 v2 hW => by
                    rw [hSe] at hW ⊢
                    obtain ⟨s1, s2⟩ := hW
                    refine ⟨?_, ?_⟩ <;> (rw [World.cell?_setCell_other _ _ _ _ (by intro hh; simp only [Addr.mk.injEq] at hh; omega), World.cell?_setCell_other _ _ _ _ (by intro hh; simp only [Addr.mk.injEq] at hh; omega)]; assumption))
                  have HZ : Hid (∀ W, Below w9.heap.size w9 W → (W.cell? ⟨gl, i * 2, none⟩ = some (.bool XL.neg) ∧ W.cell? ⟨gl, i * 2 + 1, none⟩ = some (.string XL.mag)) ∧ W.frozen? ⟨gl, i * 2, none⟩ = false ∧ W.frozen? ⟨gl, i * 2 + 1, none⟩ = false) := Lib.hid (fun W hW => by
                    have h := (Hrow.out.kept (hW.block _ Hrow.out.z.1)).z.2 i hil
                    rw [HXL.out] at h
                    exact h)
                  have mp1 : (m : Int) < (n : Int) + 1 := by omega
                  have mp0 : (0 : Int) ≤ (m : Int) := by omega
                  clear s0 s1
                  go_wp2_with fail
                  have hd : Below w9.heap.size w9 w9.drew := (Below.refl w9.heap.size w9).drew
                  refine wp_region_held_drew (S := SS) (by kernel_rfl) (HS.out _ hd) (fun hSS => ?_)
                  refine wpAnyH_take (i := 0) (v := ?_) rfl (by kernel_rfl) (by kernel_rfl) (by kernel_rfl) (fun _ _ _ h => h) (Or.inl ⟨by rfl, ?_⟩) hSS ?_
                  rotate_left 1
                  next => intro w hSw; rw [hSe] at hSw; obtain ⟨s1, s2⟩ := hSw; go_simp; try with_reducible rfl
                  try simp only [Act.put, List.getElem_toArray, List.getElem_cons_zero, List.getElem_cons_succ, List.setIfInBounds_toArray, List.set_cons_zero, List.set_cons_succ]
                  refine wpAnyH_take (i := 1) (v := ?_) rfl (by kernel_rfl) (by kernel_rfl) (by kernel_rfl) (fun _ _ _ h => h) (Or.inl ⟨by rfl, ?_⟩) hSS ?_
                  rotate_left 1
                  next => intro w hSw; rw [hSe] at hSw; obtain ⟨s1, s2⟩ := hSw; go_simp; try with_reducible rfl
                  try simp only [Act.put, List.getElem_toArray, List.getElem_cons_zero, List.getElem_cons_succ, List.setIfInBounds_toArray, List.set_cons_zero, List.set_cons_succ]
                  refine wpAnyH_take (i := 2) (v := ?_) rfl (by kernel_rfl) (by kernel_rfl) (by kernel_rfl) (fun _ _ _ h => h) (Or.inl ⟨by rfl, ?_⟩) hSS ?_
                  rotate_left 1
                  next => intro w hSw; rw [hSe] at hSw; obtain ⟨s1, s2⟩ := hSw; go_simp; try with_reducible rfl
                  try simp only [Act.put, List.getElem_toArray, List.getElem_cons_zero, List.getElem_cons_succ, List.setIfInBounds_toArray, List.set_cons_zero, List.set_cons_succ]
                  refine wpAnyH_take (i := 3) (v := ?_) rfl (by kernel_rfl) (by kernel_rfl) (by kernel_rfl) (fun _ _ _ h => h) (Or.inl ⟨by rfl, ?_⟩) hSS ?_
                  rotate_left 1
                  next => intro w hSw; rw [hSe] at hSw; obtain ⟨s1, s2⟩ := hSw; go_simp; try with_reducible rfl
                  try simp only [Act.put, List.getElem_toArray, List.getElem_cons_zero, List.getElem_cons_succ, List.setIfInBounds_toArray, List.set_cons_zero, List.set_cons_succ]
                  refine wpAnyH_take (i := 4) (v := ?_) rfl (by kernel_rfl) (by kernel_rfl) (by kernel_rfl) (fun _ _ _ h => h) (Or.inl ⟨by rfl, ?_⟩) hSS ?_
                  rotate_left 1
                  next => intro w hSw; rw [hSe] at hSw; obtain ⟨s1, s2⟩ := hSw; go_simp; try with_reducible rfl
                  try simp only [Act.put, List.getElem_toArray, List.getElem_cons_zero, List.getElem_cons_succ, List.setIfInBounds_toArray, List.set_cons_zero, List.set_cons_succ]
                  refine wpAnyH_take (i := 6) (v := ?_) rfl (by kernel_rfl) (by kernel_rfl) (by kernel_rfl) (fun _ _ _ h => h) (Or.inl ⟨by rfl, ?_⟩) hSS ?_
                  rotate_left 1
                  next => intro w hSw; rw [hSe] at hSw; obtain ⟨s1, s2⟩ := hSw; go_simp; try with_reducible rfl
                  try simp only [Act.put, List.getElem_toArray, List.getElem_cons_zero, List.getElem_cons_succ, List.setIfInBounds_toArray, List.set_cons_zero, List.set_cons_succ]
                  refine wpAnyH_take (i := 7) (v := ?_) rfl (by kernel_rfl) (by kernel_rfl) (by kernel_rfl) (fun _ _ _ h => h) (Or.inl ⟨by rfl, ?_⟩) hSS ?_
                  rotate_left 1
                  next => intro w hSw; rw [hSe] at hSw; obtain ⟨s1, s2⟩ := hSw; go_simp; try with_reducible rfl
                  try simp only [Act.put, List.getElem_toArray, List.getElem_cons_zero, List.getElem_cons_succ, List.setIfInBounds_toArray, List.set_cons_zero, List.set_cons_succ]
                  refine wpAnyH_take (i := 8) (v := ?_) rfl (by kernel_rfl) (by kernel_rfl) (by kernel_rfl) (fun _ _ _ h => h) (Or.inl ⟨by rfl, ?_⟩) hSS ?_
                  rotate_left 1
                  next => intro w hSw; rw [hSe] at hSw; obtain ⟨s1, s2⟩ := hSw; go_simp; try with_reducible rfl
                  try simp only [Act.put, List.getElem_toArray, List.getElem_cons_zero, List.getElem_cons_succ, List.setIfInBounds_toArray, List.set_cons_zero, List.set_cons_succ]
                  refine wpAnyH_take (i := 9) (v := ?_) rfl (by kernel_rfl) (by kernel_rfl) (by kernel_rfl) (fun _ _ _ h => h) (Or.inl ⟨by rfl, ?_⟩) hSS ?_
                  rotate_left 1
                  next => intro w hSw; rw [hSe] at hSw; obtain ⟨s1, s2⟩ := hSw; go_simp; try with_reducible rfl
                  try simp only [Act.put, List.getElem_toArray, List.getElem_cons_zero, List.getElem_cons_succ, List.setIfInBounds_toArray, List.set_cons_zero, List.set_cons_succ]
                  try simp only [Act.put, List.getElem_toArray, List.getElem_cons_zero, List.getElem_cons_succ, List.setIfInBounds_toArray, List.set_cons_zero, List.set_cons_succ]
                  refine wpAnyH_ready (rs := [5]) (by kernel_rfl) (by simp) ?_
                  refine AllReadyH.cons rfl (fun K hK => ?_) AllReadyH.nil
                  obtain ⟨⟨z0, z1⟩, z2, z3⟩ := HZ.out _ hd
                  go_simp
                  refine hK.out _ _ hSS (fun _ => ?_)
                  clear hK K z0 z1 z2 z3
                  try simp only [Act.put, List.getElem_toArray, List.getElem_cons_zero, List.getElem_cons_succ, List.setIfInBounds_toArray, List.set_cons_zero, List.set_cons_succ]
                  refine wpAnyH_ready (rs := [10]) (by kernel_rfl) (by simp) ?_
                  refine AllReadyH.cons rfl (fun K hK => ?_) AllReadyH.nil
                  go_simp
                  refine (HA.out _).mono ?_
                  rintro e w10 ⟨rfl, hbc⟩
                  have hw10 : Below w9.heap.size w9 w10 := hd.trans (hbc.mono hd.size)
                  dsimp only
                  refine hK.out _ _ (HS.out _ hw10) (fun _ => ?_)
                  clear hK K
                  refine wpAnyH_take (i := 11) (v := ?_) rfl (by kernel_rfl) (by kernel_rfl) (by kernel_rfl) (fun _ _ _ h => h) (Or.inl ⟨by rfl, ?_⟩) (HS.out _ hw10) ?_
                  rotate_left 1
                  next => intro w hSw; rw [hSe] at hSw; obtain ⟨s1, s2⟩ := hSw; go_simp; try with_reducible rfl
                  try simp only [Act.put, List.getElem_toArray, List.getElem_cons_zero, List.getElem_cons_succ, List.setIfInBounds_toArray, List.set_cons_zero, List.set_cons_succ]
                  try simp only [Act.put, List.getElem_toArray, List.getElem_cons_zero, List.getElem_cons_succ, List.setIfInBounds_toArray, List.set_cons_zero, List.set_cons_succ]
                  refine wpAnyH_ready (rs := [12]) (by kernel_rfl) (by simp) ?_
                  refine AllReadyH.cons rfl (fun K hK => ?_) AllReadyH.nil
                  obtain ⟨⟨z0, z1⟩, z2, z3⟩ := HZ.out _ hw10
                  go_simp
                  refine hK.out _ _ (HS2.out _ _ _ (HS.out _ hw10)) (fun _ => ?_)
                  clear hK K z0 z1 z2 z3
                  refine wpAnyH_done (by kernel_rfl) ?_ _
                  have hb11 : Below wr.heap.size wr ((w10.setCell ⟨gl, i * 2, none⟩ (.bool XN.neg)).setCell ⟨gl, i * 2 + 1, none⟩ (.string XN.mag)) := ((Hb9.out.trans (hw10.mono Hb9.out.size)).setCell hgl _).setCell hgl _
                  have hrow11 : RowT ((w10.setCell ⟨gl, i * 2, none⟩ (.bool XN.neg)).setCell ⟨gl, i * 2 + 1, none⟩ (.string XN.mag)) gl n (horN n A (j + 1) i) := by
                    have h := (Hrow.out.kept (hw10.block _ Hrow.out.z.1)).set i (mulF n (horN n A j) A i i + chrP n A n m)
                    rw [HXN.out] at h
                    exact h.congr fun k _ => Hnext.out k
                  have Hs11 := Lib.hid (HSm.out.below hb11)
                  have HY11 := Lib.hid (HY.out.trans (hb11.mono hyw))
                  have Hrow11 := Lib.hid hrow11
                  clear hrow11 hw10 hd HS hSe HS2 HZ HA hSS hbc Hrow HSm hb11
                  go_upto_region 34 with (fail)
                  generalize ((w10.setCell ⟨gl, i * 2, none⟩ (.bool XN.neg)).setCell ⟨gl, i * 2 + 1, none⟩ (.string XN.mag)) = w11 at *
                  have hyl : y.heap.size ≤ w11.heap.size := HY11.out.size
                  have hb12 : Below w11.heap.size w11 (w11.alloc (.cells #[.slice (some ⟨gl, 0, none⟩) n cl] 24)) := (Below.refl _ _).alloc (Nat.le_refl _) _
                  have Hs12 := Lib.hid (Hs11.out.below hb12)
                  have Hrow12 := Lib.hid (Hrow11.out.kept (hb12.block _ Hrow11.out.z.1))
                  have HY12 := Lib.hid (HY11.out.trans (hb12.mono hyl))
                  clear hb12
                  go_wp2_with (at_builtin; refine wpList_append_row rfl _ _ rfl y.heap.size _ i n (horN n A (j + 1)) rfl Hs12.out w11.heap.size 1 gl cl rfl ?_ Hrow12.out (Nat.le_trans hyw hgl) ?_ ?_ ?_)
                  · simp
                  · omega
                  · exact HY12.out.size
                  · intro v13 w13 hs13 hb13
                    have Hs13 := Lib.hid hs13
                    have HY13 := Lib.hid (HY12.out.trans hb13)
                    clear hs13 hb13
                    go_wp2
                    go_roundw
                    case rel => exact ⟨i + 1, by omega, by go_num, Hs13, HY13⟩
                    case measure => simp [intOf]; omega
              · have i1 : ¬ (i : Int) < (n : Int) := by omega
                have hie : i = n := by omega
                rw [hie] at HSm
                obtain ⟨q14, c14, rfl, hM14⟩ := HSm.out.mat
                have HM14 := Lib.hid hM14
                have HV14 := Lib.hid (HV.out.trans (HY.out.mono HV.out.size))
                clear hM14 hie HSm
                go_wp2
                go_roundw
                case rel => exact ⟨(m : Int) - 1, j + 1, q14, c14, by omega, by omega, by go_num, rfl, HM14, HV14⟩
                case measure => simp [intOf]
          · have hkm : kk = -1 := by omega
            have hjn : j = n := by omega
            rw [hjn] at HMj
            have hM15 : MatF wr q n n (fun _ _ => 0) := HMj.out.congr fun i k hi hk => hor_last n h1 h4 A i k hi hk
            subst hkm
            clear HMj hjn hj hkk
            have HY0 := Lib.hid (Hbb.out.trans (HV.out.mono Hbb.out.size))
            obtain ⟨fb, fo, hpe, hfb, H, hH, hRr⟩ := hM15.cells h1
            subst hpe
            have HH := Lib.hid hH
            have HR := Lib.hid hRr
            have c0 : canon 0 = ⟨false, ⟨#[]⟩⟩ := by rfl
            clear hH hRr hM15
            obtain ⟨y, hy⟩ : ∃ y, wr = y := ⟨_, rfl⟩
            rw [hy] at HH HR HY0 hfb ⊢
            clear hy HV
            go_wp2_with fail
            go_loopw [158] (fun v wr => ∃ i : Nat, i ≤ n ∧ v = .int .i64 i ∧ Hid (Below y.heap.size y wr)) (fun v _ => n - (intOf v).toNat)
            case atStart => exact ⟨0, by omega, by go_num, Lib.hid (Below.refl _ _)⟩
            case round =>
              obtain ⟨i, hi, rfl, HY⟩ := hrel
              by_cases hil : i < n
              · have i0 : (0 : Int) ≤ (i : Int) := by omega
                have i1 : (i : Int) < (n : Int) := by omega
                have a1 := cell_below HY.out (HH.out i hil)
                obtain ⟨ab, ao, hqe, hab, hac⟩ := (HR.out i hil).cells h1
                rw [hqe] at a1
                have Hac := Lib.hid hac
                clear hac hqe
                go_wp2_with fail
                go_loopw [164] (fun v wr => ∃ k : Nat, k ≤ n ∧ v = .int .i64 k ∧ Hid (Below y.heap.size y wr)) (fun v _ => n - (intOf v).toNat)
                case atStart => exact ⟨0, by omega, by go_num, HY⟩
                case round =>
                  clear HY a1
                  obtain ⟨k, hk, rfl, HY⟩ := hrel
                  by_cases hkl : k < n
                  · have k0 : (0 : Int) ≤ (k : Int) := by omega
                    have k1 : (k : Int) < (n : Int) := by omega
                    obtain ⟨z0, z1⟩ := Hac.out k hkl
                    rw [c0] at z0 z1
                    have z0 := cell_below HY.out z0
                    have z1 := cell_below HY.out z1
                    have hyw := HY.out.size
                    go_wp2
                    go_roundw
                    case rel => exact ⟨k + 1, by omega, by go_num, Lib.hid (HY.out.trans (((Below.refl _ _).alloc (Nat.le_refl _) _).mono hyw))⟩
                    case measure => simp [intOf]; omega
                  · have k1 : ¬ (k : Int) < (n : Int) := by omega
                    go_wp2
                    go_roundw
                    case rel => exact ⟨i + 1, by omega, by go_num, HY⟩
                    case measure => simp [intOf]; omega
              · have i1 : ¬ (i : Int) < (n : Int) := by omega
                go_wp2_with fail
                refine (awake_any _).mono ?_
                rintro e w20 ⟨rfl, hbc⟩
                dsimp only
                have Hfin := Lib.hid (HY0.out.trans ((HY.out.trans (hbc.mono HY.out.size)).mono HY0.out.size))
                clear hbc
                go_wp2
                go_ret
                exact ⟨rfl, Hfin.out⟩
end Go.Proofs.Ytlkoiekdafaapaa
