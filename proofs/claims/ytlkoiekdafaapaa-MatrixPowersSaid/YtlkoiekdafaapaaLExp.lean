/- MatrixExponents: the walk. -/
import Derived.Test.YtlkoiekdafaapaaSqA
import Derived.Test.YtlkoiekdafaapaaLRing
namespace Go.Proofs.Ytlkoiekdafaapaa
open Go.RowKit Go.Shelf

/-- A list as the only row of a matrix. -/
def vecM (n : Nat) (Z : Nat → ZI) : GM := ⟨1, fun _ => n, fun _ => Z⟩
theorem vecM_at {w W : World} {q : Option Addr} {n cv g : Nat} {Z : Nat → ZI} (hq : GRow w q n Z) (hW : Below w.heap.size w W) (hg : W.cell? ⟨g, 0, none⟩ = some (.slice q n cv)) : (vecM n Z).At W (some ⟨g, 0, none⟩) :=
  ⟨fun _ => (q, cv), .inr ⟨g, 0, rfl, World.block_lt_of_cell? W _ hg, fun i hi j hj => by
    have e1 : i = 0 := by have : i < 1 := hi; omega
    have e2 : j = 0 := by omega
    subst e1; subst e2
    show W.cell? ⟨g, 0 + 0 * 1 + 0, none⟩ = some (.slice q n cv)
    simpa using hg⟩, fun _ _ => hq.mono (Nat.le_refl _) hW⟩
theorem grB_false {n : Nat} {Z : Nat → ZI} (h : grB n Z = false) : (n ≤ 4 ∨ 32 < n) ∧ n ≤ 34 ∧ ∀ k, k < n → (Z k).mag.size ≤ 3 := by
  unfold grB at h
  split at h
  · cases h
  · rename_i h1
    rw [anyN_false] at h
    exact ⟨by omega, by omega, fun k hk => by have := h k hk; rw [decide_eq_false_iff_not] at this; omega⟩
theorem vecM_fit {n : Nat} {Z : Nat → ZI} (h : grB n Z = false) : (vecM n Z).Fit := by
  obtain ⟨_, h2, h3⟩ := grB_false h
  exact ⟨by show 1 ≤ 1000000; decide, fun i _ => ⟨by show n ≤ 1000000; omega, fun k hk => Nat.le_trans (h3 k hk) (by decide)⟩⟩
theorem vecM_rw {w : World} {q : Option Addr} {n : Nat} (cv : Nat) {Z : Nat → ZI} (hq : GRow w q n Z) (hg : grB n Z = false) (hc : (vecM n Z).chk = 0) : Rw w (.slice q n cv) n (fun k => valZ (Z k)) 24 := by
  obtain ⟨_, _, h3⟩ := grB_false hg
  obtain ⟨_, _, _, _, _, h6⟩ := GM.chk_zero hc
  refine ⟨⟨q, cv, rfl, hq.congr fun k hk j _ => ?_⟩, fun k hk => absZ_bn (h3 k hk)⟩
  have h7 : Z k = canon (valZ (Z k)) := h6 0 (by show 0 < 1; decide) k hk
  show zg (Z k) j = zc (valZ (Z k)) j
  unfold zg zc
  rw [← h7]
set_option maxRecDepth 100000 in
set_option maxHeartbeats 8000000 in
theorem lawExp (a : GM) (pa : Option Addr) (ca : Nat) (b : GM) (pb : Option Addr) (cb : Nat) (q : Option Addr) (nv cv : Nat) (Z : Nat → ZI) (s t : Nat) (w : World) (ha : a.In w pa) (hb : b.In w pb) (hq : GRow w q nv Z) (hnv : nv ≤ 9223372036854775807) (hZ : ∀ k, k < nv → (Z k).mag.size ≤ 9223372036854775807) (hs : s ≤ 255) (ht : t ≤ 255) :
    Calls Try.prog 5 #[.slice pa a.r ca, .slice pb b.r cb, .slice q nv cv, .int .u8 (s : Int), .int .u8 (t : Int)] w (RetB true w) := by
  have HFa := Lib.hid (fun (W : World) (hW : Below w.heap.size w W) => fine_any a pa ca a.r W (ha.below (Nat.le_refl _) hW))
  have HFb := Lib.hid (fun (W : World) (hW : Below w.heap.size w W) => fine_any b pb cb a.r W (hb.below (Nat.le_refl _) hW))
  have HGr := Lib.hid (fun (W : World) (hW : Below w.heap.size w W) => greatRow_any nv q cv Z hZ hnv W (hq.mono (Nat.le_refl _) hW))
  have HCk := Lib.hid (fun (hgr : grB nv Z = false) (W : World) (g : Nat) (hW : Below w.heap.size w W) (hg : W.cell? ⟨g, 0, none⟩ = some (.slice q nv cv)) => refCheck_m (vecM nv Z) (some ⟨g, 0, none⟩) 1 (vecM_fit hgr) W (vecM_at hq hW hg))
  have hm4 := @max4m Try.prog
  have Hq := Lib.hid hq
  clear hZ hnv hq
  by_cases fa : fineB a a.r = true
  rotate_left 1
  · rw [Bool.not_eq_true] at fa
    rw [fa] at HFa
    clear ha hb Hq HCk HGr fa
    generalize a.r = n at *
    generalize b.r = nb at *
    have Hbb : Hid (Below w.heap.size w w) := Lib.hid (Below.refl _ _)
    go_enter Try.func5, Try.ntmps5
    go_wp2_with fail
    refine (HFa.out _ Hbb.out).mono ?_
    rintro e y1 ⟨rfl, hbc⟩
    dsimp only
    have Hbb := Lib.hid (Hbb.out.trans (hbc.mono Hbb.out.size))
    clear hbc
    go_wp2_with fail
    refine (awake_any _).mono ?_
    rintro e y2 ⟨rfl, hbc⟩
    dsimp only
    have Hbb := Lib.hid (Hbb.out.trans (hbc.mono Hbb.out.size))
    clear hbc
    go_wp2
    go_ret
    exact ⟨rfl, Hbb.out⟩
  rw [fa] at HFa
  by_cases fb : fineB b a.r = true
  rotate_left 1
  · rw [Bool.not_eq_true] at fb
    rw [fb] at HFb
    clear ha hb Hq HCk HGr fb fa
    generalize a.r = n at *
    generalize b.r = nb at *
    have Hbb : Hid (Below w.heap.size w w) := Lib.hid (Below.refl _ _)
    go_enter Try.func5, Try.ntmps5
    go_wp2_with fail
    refine (HFa.out _ Hbb.out).mono ?_
    rintro e y1 ⟨rfl, hbc⟩
    dsimp only
    have Hbb := Lib.hid (Hbb.out.trans (hbc.mono Hbb.out.size))
    clear hbc
    go_wp2_with fail
    refine (HFb.out _ Hbb.out).mono ?_
    rintro e y2 ⟨rfl, hbc⟩
    dsimp only
    have Hbb := Lib.hid (Hbb.out.trans (hbc.mono Hbb.out.size))
    clear hbc
    go_wp2_with fail
    refine (awake_any _).mono ?_
    rintro e y3 ⟨rfl, hbc⟩
    dsimp only
    have Hbb := Lib.hid (Hbb.out.trans (hbc.mono Hbb.out.size))
    clear hbc
    go_wp2
    go_ret
    exact ⟨rfl, Hbb.out⟩
  rw [fb] at HFb
  by_cases fl : nv = a.r
  rotate_left 1
  · have e1 : ((nv : Int) != (a.r : Int)) = true := by rw [bne_iff_ne]; omega
    clear ha hb Hq HCk HGr fa fb fl
    generalize a.r = n at *
    generalize b.r = nb at *
    have Hbb : Hid (Below w.heap.size w w) := Lib.hid (Below.refl _ _)
    go_enter Try.func5, Try.ntmps5
    go_wp2_with fail
    refine (HFa.out _ Hbb.out).mono ?_
    rintro e y1 ⟨rfl, hbc⟩
    dsimp only
    have Hbb := Lib.hid (Hbb.out.trans (hbc.mono Hbb.out.size))
    clear hbc
    go_wp2_with fail
    refine (HFb.out _ Hbb.out).mono ?_
    rintro e y2 ⟨rfl, hbc⟩
    dsimp only
    have Hbb := Lib.hid (Hbb.out.trans (hbc.mono Hbb.out.size))
    clear hbc
    go_wp2_with fail
    refine (awake_any _).mono ?_
    rintro e y3 ⟨rfl, hbc⟩
    dsimp only
    have Hbb := Lib.hid (Hbb.out.trans (hbc.mono Hbb.out.size))
    clear hbc
    go_wp2
    go_ret
    exact ⟨rfl, Hbb.out⟩
  have e1 : ((nv : Int) != (a.r : Int)) = false := by rw [fl, bne_self_eq_false]
  by_cases fg : grB nv Z = false
  rotate_left 1
  · rw [Bool.not_eq_false] at fg
    rw [fg] at HGr
    clear ha hb Hq HCk fa fb fl fg
    generalize a.r = n at *
    generalize b.r = nb at *
    have Hbb : Hid (Below w.heap.size w w) := Lib.hid (Below.refl _ _)
    go_enter Try.func5, Try.ntmps5
    go_wp2_with fail
    refine (HFa.out _ Hbb.out).mono ?_
    rintro e y1 ⟨rfl, hbc⟩
    dsimp only
    have Hbb := Lib.hid (Hbb.out.trans (hbc.mono Hbb.out.size))
    clear hbc
    go_wp2_with fail
    refine (HFb.out _ Hbb.out).mono ?_
    rintro e y2 ⟨rfl, hbc⟩
    dsimp only
    have Hbb := Lib.hid (Hbb.out.trans (hbc.mono Hbb.out.size))
    clear hbc
    go_wp2_with fail
    refine (HGr.out _ Hbb.out).mono ?_
    rintro e y3 ⟨rfl, hbc⟩
    dsimp only
    have Hbb := Lib.hid (Hbb.out.trans (hbc.mono Hbb.out.size))
    clear hbc
    go_wp2_with fail
    refine (awake_any _).mono ?_
    rintro e y4 ⟨rfl, hbc⟩
    dsimp only
    have Hbb := Lib.hid (Hbb.out.trans (hbc.mono Hbb.out.size))
    clear hbc
    go_wp2
    go_ret
    exact ⟨rfl, Hbb.out⟩
  rw [fg] at HGr
  have HCk := Lib.hid (HCk.out fg)
  by_cases fc : (vecM nv Z).chk = 0
  rotate_left 1
  · have e2 : ((vecM nv Z).chk != 0) = true := by rw [bne_iff_ne]; exact fc
    clear ha hb Hq fa fb fl fg fc
    generalize (vecM nv Z).chk = vc at *
    generalize a.r = n at *
    generalize b.r = nb at *
    have Hbb : Hid (Below w.heap.size w w) := Lib.hid (Below.refl _ _)
    go_enter Try.func5, Try.ntmps5
    go_wp2_with fail
    refine (HFa.out _ Hbb.out).mono ?_
    rintro e y1 ⟨rfl, hbc⟩
    dsimp only
    have Hbb := Lib.hid (Hbb.out.trans (hbc.mono Hbb.out.size))
    clear hbc
    go_wp2_with fail
    refine (HFb.out _ Hbb.out).mono ?_
    rintro e y2 ⟨rfl, hbc⟩
    dsimp only
    have Hbb := Lib.hid (Hbb.out.trans (hbc.mono Hbb.out.size))
    clear hbc
    go_wp2_with fail
    refine (HGr.out _ Hbb.out).mono ?_
    rintro e y3 ⟨rfl, hbc⟩
    dsimp only
    have Hbb := Lib.hid (Hbb.out.trans (hbc.mono Hbb.out.size))
    clear hbc
    go_wp2_with fail
    refine (HCk.out _ _ (Hbb.out.trans (((Below.refl _ _).alloc (Nat.le_refl _) _).mono Hbb.out.size)) (by simp)).mono ?_
    rintro e y4 ⟨rfl, hbc⟩
    dsimp only
    have hbc := ((Below.refl _ _).alloc (Nat.le_refl _) _).trans (hbc.mono (by simp))
    have Hbb := Lib.hid (Hbb.out.trans (hbc.mono Hbb.out.size))
    clear hbc
    go_wp2_with fail
    refine (awake_any _).mono ?_
    rintro e y5 ⟨rfl, hbc⟩
    dsimp only
    have Hbb := Lib.hid (Hbb.out.trans (hbc.mono Hbb.out.size))
    clear hbc
    go_wp2
    go_ret
    exact ⟨rfl, Hbb.out⟩
  rw [fc] at HCk
  have SA := Lib.hid (fine_sq ca fa ha.at')
  have SB := Lib.hid (fine_sq cb fb hb.at')
  have SV := Lib.hid (vecM_rw cv Hq.out fg fc)
  obtain ⟨_, h1, h4, _⟩ := fine_says fa
  clear ha hb fa fb fg fc Hq
  generalize (fun k => valZ (Z k)) = V at *
  generalize a.F = A at *
  generalize b.F = B at *
  subst fl
  have hps : (s : Int) % 8 = ((s % 8 : Nat) : Int) := by omega
  have hpt : (t : Int) % 8 = ((t % 8 : Nat) : Int) := by omega
  obtain ⟨x, hx⟩ : ∃ x, s % 8 = x := ⟨_, rfl⟩
  obtain ⟨y, hy⟩ : ∃ y, t % 8 = y := ⟨_, rfl⟩
  have hx8 : x < 8 := by omega
  have hy8 : y < 8 := by omega
  rw [hx] at hps
  rw [hy] at hpt
  clear hx hy
  generalize hn : a.r = n at *
  clear hn
  generalize b.r = nb at *
  have Hbb : Hid (Below w.heap.size w w) := Lib.hid (Below.refl _ _)
  go_enter Try.func5, Try.ntmps5
  go_wp2_with fail
  refine (HFa.out _ Hbb.out).mono ?_
  rintro e y1 ⟨rfl, hbc⟩
  dsimp only
  have SA := Lib.hid (SA.out.below hbc)
  have SB := Lib.hid (SB.out.below hbc)
  have SV := Lib.hid (SV.out.below hbc)
  have Hbb := Lib.hid (Hbb.out.trans (hbc.mono Hbb.out.size))
  clear hbc
  go_wp2_with fail
  refine (HFb.out _ Hbb.out).mono ?_
  rintro e y2 ⟨rfl, hbc⟩
  dsimp only
  have SA := Lib.hid (SA.out.below hbc)
  have SB := Lib.hid (SB.out.below hbc)
  have SV := Lib.hid (SV.out.below hbc)
  have Hbb := Lib.hid (Hbb.out.trans (hbc.mono Hbb.out.size))
  clear hbc
  go_wp2_with fail
  refine (HGr.out _ Hbb.out).mono ?_
  rintro e y3 ⟨rfl, hbc⟩
  dsimp only
  have SA := Lib.hid (SA.out.below hbc)
  have SB := Lib.hid (SB.out.below hbc)
  have SV := Lib.hid (SV.out.below hbc)
  have Hbb := Lib.hid (Hbb.out.trans (hbc.mono Hbb.out.size))
  clear hbc
  go_wp2_with fail
  refine (HCk.out _ _ (Hbb.out.trans (((Below.refl _ _).alloc (Nat.le_refl _) _).mono Hbb.out.size)) (by simp)).mono ?_
  rintro e y4 ⟨rfl, hbc⟩
  dsimp only
  have hbc := ((Below.refl _ _).alloc (Nat.le_refl _) _).trans (hbc.mono (by simp))
  have SA := Lib.hid (SA.out.below hbc)
  have SB := Lib.hid (SB.out.below hbc)
  have SV := Lib.hid (SV.out.below hbc)
  have Hbb := Lib.hid (Hbb.out.trans (hbc.mono Hbb.out.size))
  clear hbc
  clear HFa HFb HGr HCk
  go_wp2_with fail
  refine (sq_pow h1 h4 x SA.out (by decide) (by omega)).mono ?_
  rintro e y5 ⟨v1, rfl, hsc, hbc⟩
  dsimp only
  have SA := Lib.hid (SA.out.below hbc)
  have SB := Lib.hid (SB.out.below hbc)
  have SV := Lib.hid (SV.out.below hbc)
  have Hbb := Lib.hid (Hbb.out.trans (hbc.mono Hbb.out.size))
  have SX := Lib.hid hsc
  clear hbc hsc
  go_wp2_with fail
  refine (sq_pow h1 h4 y SA.out (by decide) (by omega)).mono ?_
  rintro e y6 ⟨v2, rfl, hsc, hbc⟩
  dsimp only
  have SA := Lib.hid (SA.out.below hbc)
  have SB := Lib.hid (SB.out.below hbc)
  have SV := Lib.hid (SV.out.below hbc)
  have SX := Lib.hid (SX.out.below hbc)
  have Hbb := Lib.hid (Hbb.out.trans (hbc.mono Hbb.out.size))
  have SY := Lib.hid hsc
  clear hbc hsc
  go_wp2_with fail
  rw [show (x : Int) + (y : Int) = ((x + y : Nat) : Int) from by push_cast; rfl]
  refine (sq_pow h1 h4 (x + y) SA.out (by decide) (by omega)).mono ?_
  rintro e y7 ⟨v3, rfl, hsc, hbc⟩
  dsimp only
  have SA := Lib.hid (SA.out.below hbc)
  have SB := Lib.hid (SB.out.below hbc)
  have SV := Lib.hid (SV.out.below hbc)
  have SX := Lib.hid (SX.out.below hbc)
  have SY := Lib.hid (SY.out.below hbc)
  have Hbb := Lib.hid (Hbb.out.trans (hbc.mono Hbb.out.size))
  have SZ := Lib.hid hsc
  clear hbc hsc
  go_wp2_with fail
  refine (sq_mul h1 h4 SX.out SY.out (by omega)).mono ?_
  rintro e y8 ⟨v4, rfl, hsc, hbc⟩
  dsimp only
  have SA := Lib.hid (SA.out.below hbc)
  have SB := Lib.hid (SB.out.below hbc)
  have SV := Lib.hid (SV.out.below hbc)
  have SX := Lib.hid (SX.out.below hbc)
  have SY := Lib.hid (SY.out.below hbc)
  have SZ := Lib.hid (SZ.out.below hbc)
  have Hbb := Lib.hid (Hbb.out.trans (hbc.mono Hbb.out.size))
  have SXY := Lib.hid hsc
  clear hbc hsc SX SY
  go_wp2_with fail
  refine (sq_same h4 SXY.out SZ.out (fun i k _ hk => powF_add n A x y i k hk)).mono ?_
  rintro e y9 ⟨rfl, hbc⟩
  dsimp only
  have SA := Lib.hid (SA.out.below hbc)
  have SB := Lib.hid (SB.out.below hbc)
  have SV := Lib.hid (SV.out.below hbc)
  have SZ := Lib.hid (SZ.out.below hbc)
  have SXY := Lib.hid (SXY.out.below hbc)
  have Hbb := Lib.hid (Hbb.out.trans (hbc.mono Hbb.out.size))
  clear hbc SXY SZ
  go_wp2_with fail
  refine (sq_mul h1 h4 SA.out SB.out (by decide)).mono ?_
  rintro e y10 ⟨v5, rfl, hsc, hbc⟩
  dsimp only
  have SA := Lib.hid (SA.out.below hbc)
  have SB := Lib.hid (SB.out.below hbc)
  have SV := Lib.hid (SV.out.below hbc)
  have Hbb := Lib.hid (Hbb.out.trans (hbc.mono Hbb.out.size))
  have SAB := Lib.hid hsc
  clear hbc hsc
  go_wp2_with fail
  refine (sq_app h1 h4 SAB.out SV.out (by decide)).mono ?_
  rintro e y11 ⟨v6, rfl, hsc, hbc⟩
  dsimp only
  have SA := Lib.hid (SA.out.below hbc)
  have SB := Lib.hid (SB.out.below hbc)
  have SV := Lib.hid (SV.out.below hbc)
  have SAB := Lib.hid (SAB.out.below hbc)
  have Hbb := Lib.hid (Hbb.out.trans (hbc.mono Hbb.out.size))
  have SU := Lib.hid hsc
  clear hbc hsc SAB
  go_wp2_with fail
  refine (sq_app h1 h4 SB.out SV.out (by decide)).mono ?_
  rintro e y12 ⟨v7, rfl, hsc, hbc⟩
  dsimp only
  have SA := Lib.hid (SA.out.below hbc)
  have SB := Lib.hid (SB.out.below hbc)
  have SV := Lib.hid (SV.out.below hbc)
  have SU := Lib.hid (SU.out.below hbc)
  have Hbb := Lib.hid (Hbb.out.trans (hbc.mono Hbb.out.size))
  have SBV := Lib.hid hsc
  clear hbc hsc SB SV
  go_wp2_with fail
  refine (sq_app h1 h4 SA.out SBV.out (by decide)).mono ?_
  rintro e y13 ⟨v8, rfl, hsc, hbc⟩
  dsimp only
  have SA := Lib.hid (SA.out.below hbc)
  have SU := Lib.hid (SU.out.below hbc)
  have SBV := Lib.hid (SBV.out.below hbc)
  have Hbb := Lib.hid (Hbb.out.trans (hbc.mono Hbb.out.size))
  have SW := Lib.hid hsc
  clear hbc hsc SA SBV
  go_wp2_with fail
  refine (rw_same (by omega) SU.out SW.out (fun i _ => mulF_assoc n n A B (fun j _ => V j) i 0)).mono ?_
  rintro e y14 ⟨rfl, hbc⟩
  dsimp only
  have SU := Lib.hid (SU.out.below hbc)
  have SW := Lib.hid (SW.out.below hbc)
  have Hbb := Lib.hid (Hbb.out.trans (hbc.mono Hbb.out.size))
  clear hbc SU SW
  go_wp2_with fail
  refine (awake_any _).mono ?_
  rintro e y15 ⟨rfl, hbc⟩
  dsimp only
  have Hbb := Lib.hid (Hbb.out.trans (hbc.mono Hbb.out.size))
  clear hbc
  go_wp2
  go_ret
  exact ⟨rfl, Hbb.out⟩
end Go.Proofs.Ytlkoiekdafaapaa
