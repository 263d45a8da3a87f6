/- MatrixRing: the walk. -/
import Derived.Test.YtlkoiekdafaapaaSqA
import Derived.Test.YtlkoiekdafaapaaAlg
namespace Go.Proofs.Ytlkoiekdafaapaa
open Go.RowKit Go.Shelf

theorem max6 {P : Program} (ts : Array TypeId) (t : TypeId) (w : World) : (Builtin.max_ ts t #[.int .i64 0, .int .i64 0, .int .i64 0, .int .i64 0, .int .i64 0, .int .i64 0]).run P w = .ok (.int .i64 0) w := by rfl
theorem max4m {P : Program} (ts : Array TypeId) (t : TypeId) (w : World) : (Builtin.max_ ts t #[.int .i64 0, .int .i64 0, .int .i64 0, .int .i64 0]).run P w = .ok (.int .i64 0) w := by rfl
set_option maxRecDepth 100000 in
set_option maxHeartbeats 8000000 in
theorem lawRing (a : GM) (pa : Option Addr) (ca : Nat) (b : GM) (pb : Option Addr) (cb : Nat) (c : GM) (pc : Option Addr) (cc : Nat) (w : World) (ha : a.In w pa) (hb : b.In w pb) (hc : c.In w pc) :
    Calls Try.prog 11 #[.slice pa a.r ca, .slice pb b.r cb, .slice pc c.r cc] w (RetB true w) := by
  have HFa := Lib.hid (fun (W : World) (hW : Below w.heap.size w W) => fine_any a pa ca a.r W (ha.below (Nat.le_refl _) hW))
  have HFb := Lib.hid (fun (W : World) (hW : Below w.heap.size w W) => fine_any b pb cb a.r W (hb.below (Nat.le_refl _) hW))
  have HFc := Lib.hid (fun (W : World) (hW : Below w.heap.size w W) => fine_any c pc cc a.r W (hc.below (Nat.le_refl _) hW))
  have hm6 := @max6 Try.prog
  have hm5 := @max5 Try.prog
  have hm4 := @max4m Try.prog
  by_cases fa : fineB a a.r = true
  rotate_left 1
  · rw [Bool.not_eq_true] at fa
    rw [fa] at HFa
    clear ha hb hc fa
    generalize a.r = n at *
    generalize b.r = nb at *
    generalize c.r = nc at *
    have Hbb : Hid (Below w.heap.size w w) := Lib.hid (Below.refl _ _)
    go_enter Try.func11, Try.ntmps11
    go_wp2_with fail
    refine (HFa.out _ Hbb.out).mono ?_
    rintro e y1 ⟨rfl, hbc⟩
    dsimp only
    have Hbb := Lib.hid (Hbb.out.trans (hbc.mono Hbb.out.size))
    clear hbc
    go_wp2_with fail
    refine (awake_any _).mono ?_
    rintro e y2 ⟨rfl, hbc⟩
    dsimp only
    have Hbb := Lib.hid (Hbb.out.trans (hbc.mono Hbb.out.size))
    clear hbc
    go_wp2
    go_ret
    exact ⟨rfl, Hbb.out⟩
  rw [fa] at HFa
  by_cases fb : fineB b a.r = true
  rotate_left 1
  · rw [Bool.not_eq_true] at fb
    rw [fb] at HFb
    clear ha hb hc fb fa
    generalize a.r = n at *
    generalize b.r = nb at *
    generalize c.r = nc at *
    have Hbb : Hid (Below w.heap.size w w) := Lib.hid (Below.refl _ _)
    go_enter Try.func11, Try.ntmps11
    go_wp2_with fail
    refine (HFa.out _ Hbb.out).mono ?_
    rintro e y1 ⟨rfl, hbc⟩
    dsimp only
    have Hbb := Lib.hid (Hbb.out.trans (hbc.mono Hbb.out.size))
    clear hbc
    go_wp2_with fail
    refine (HFb.out _ Hbb.out).mono ?_
    rintro e y2 ⟨rfl, hbc⟩
    dsimp only
    have Hbb := Lib.hid (Hbb.out.trans (hbc.mono Hbb.out.size))
    clear hbc
    go_wp2_with fail
    refine (awake_any _).mono ?_
    rintro e y3 ⟨rfl, hbc⟩
    dsimp only
    have Hbb := Lib.hid (Hbb.out.trans (hbc.mono Hbb.out.size))
    clear hbc
    go_wp2
    go_ret
    exact ⟨rfl, Hbb.out⟩
  rw [fb] at HFb
  by_cases fc : fineB c a.r = true
  rotate_left 1
  · rw [Bool.not_eq_true] at fc
    rw [fc] at HFc
    clear ha hb hc fc fa fb
    generalize a.r = n at *
    generalize b.r = nb at *
    generalize c.r = nc at *
    have Hbb : Hid (Below w.heap.size w w) := Lib.hid (Below.refl _ _)
    go_enter Try.func11, Try.ntmps11
    go_wp2_with fail
    refine (HFa.out _ Hbb.out).mono ?_
    rintro e y1 ⟨rfl, hbc⟩
    dsimp only
    have Hbb := Lib.hid (Hbb.out.trans (hbc.mono Hbb.out.size))
    clear hbc
    go_wp2_with fail
    refine (HFb.out _ Hbb.out).mono ?_
    rintro e y2 ⟨rfl, hbc⟩
    dsimp only
    have Hbb := Lib.hid (Hbb.out.trans (hbc.mono Hbb.out.size))
    clear hbc
    go_wp2_with fail
    refine (HFc.out _ Hbb.out).mono ?_
    rintro e y3 ⟨rfl, hbc⟩
    dsimp only
    have Hbb := Lib.hid (Hbb.out.trans (hbc.mono Hbb.out.size))
    clear hbc
    go_wp2_with fail
    refine (awake_any _).mono ?_
    rintro e y4 ⟨rfl, hbc⟩
    dsimp only
    have Hbb := Lib.hid (Hbb.out.trans (hbc.mono Hbb.out.size))
    clear hbc
    go_wp2
    go_ret
    exact ⟨rfl, Hbb.out⟩
  rw [fc] at HFc
  have SA := Lib.hid (fine_sq ca fa ha.at')
  have SB := Lib.hid (fine_sq cb fb hb.at')
  have SC := Lib.hid (fine_sq cc fc hc.at')
  obtain ⟨_, h1, h4, _⟩ := fine_says fa
  clear ha hb hc fa fb fc
  generalize a.F = A at *
  generalize b.F = B at *
  generalize c.F = C at *
  generalize a.r = n at *
  generalize b.r = nb at *
  generalize c.r = nc at *
  have Hbb : Hid (Below w.heap.size w w) := Lib.hid (Below.refl _ _)
  go_enter Try.func11, Try.ntmps11
  go_wp2_with fail
  refine (HFa.out _ Hbb.out).mono ?_
  rintro e y1 ⟨rfl, hbc⟩
  dsimp only
  have SA := Lib.hid (SA.out.below hbc)
  have SB := Lib.hid (SB.out.below hbc)
  have SC := Lib.hid (SC.out.below hbc)
  have Hbb := Lib.hid (Hbb.out.trans (hbc.mono Hbb.out.size))
  clear hbc
  go_wp2_with fail
  refine (HFb.out _ Hbb.out).mono ?_
  rintro e y2 ⟨rfl, hbc⟩
  dsimp only
  have SA := Lib.hid (SA.out.below hbc)
  have SB := Lib.hid (SB.out.below hbc)
  have SC := Lib.hid (SC.out.below hbc)
  have Hbb := Lib.hid (Hbb.out.trans (hbc.mono Hbb.out.size))
  clear hbc
  go_wp2_with fail
  refine (HFc.out _ Hbb.out).mono ?_
  rintro e y3 ⟨rfl, hbc⟩
  dsimp only
  have SA := Lib.hid (SA.out.below hbc)
  have SB := Lib.hid (SB.out.below hbc)
  have SC := Lib.hid (SC.out.below hbc)
  have Hbb := Lib.hid (Hbb.out.trans (hbc.mono Hbb.out.size))
  clear hbc
  clear HFa HFb HFc
  go_wp2_with fail
  refine (sq_mul h1 h4 SA.out SB.out (by decide)).mono ?_
  rintro e y4 ⟨v1, rfl, hsc, hbc⟩
  dsimp only
  have SA := Lib.hid (SA.out.below hbc)
  have SB := Lib.hid (SB.out.below hbc)
  have SC := Lib.hid (SC.out.below hbc)
  have Hbb := Lib.hid (Hbb.out.trans (hbc.mono Hbb.out.size))
  have SAB := Lib.hid hsc
  clear hbc hsc
  go_wp2_with fail
  refine (sq_mul h1 h4 SB.out SC.out (by decide)).mono ?_
  rintro e y5 ⟨v2, rfl, hsc, hbc⟩
  dsimp only
  have SA := Lib.hid (SA.out.below hbc)
  have SB := Lib.hid (SB.out.below hbc)
  have SC := Lib.hid (SC.out.below hbc)
  have SAB := Lib.hid (SAB.out.below hbc)
  have Hbb := Lib.hid (Hbb.out.trans (hbc.mono Hbb.out.size))
  have SBC := Lib.hid hsc
  clear hbc hsc
  go_wp2_with fail
  refine (sq_mul h1 h4 SA.out SC.out (by decide)).mono ?_
  rintro e y6 ⟨v3, rfl, hsc, hbc⟩
  dsimp only
  have SA := Lib.hid (SA.out.below hbc)
  have SB := Lib.hid (SB.out.below hbc)
  have SC := Lib.hid (SC.out.below hbc)
  have SAB := Lib.hid (SAB.out.below hbc)
  have SBC := Lib.hid (SBC.out.below hbc)
  have Hbb := Lib.hid (Hbb.out.trans (hbc.mono Hbb.out.size))
  have SAC := Lib.hid hsc
  clear hbc hsc
  go_wp2_with fail
  refine (sq_add h1 h4 SA.out SB.out (by decide)).mono ?_
  rintro e y7 ⟨v4, rfl, hsc, hbc⟩
  dsimp only
  have SA := Lib.hid (SA.out.below hbc)
  have SB := Lib.hid (SB.out.below hbc)
  have SC := Lib.hid (SC.out.below hbc)
  have SAB := Lib.hid (SAB.out.below hbc)
  have SBC := Lib.hid (SBC.out.below hbc)
  have SAC := Lib.hid (SAC.out.below hbc)
  have Hbb := Lib.hid (Hbb.out.trans (hbc.mono Hbb.out.size))
  have SUM := Lib.hid hsc
  clear hbc hsc
  go_wp2_with fail
  refine (sq_mul h1 h4 SAB.out SC.out (by decide)).mono ?_
  rintro e y8 ⟨v5, rfl, hsc, hbc⟩
  dsimp only
  have SA := Lib.hid (SA.out.below hbc)
  have SB := Lib.hid (SB.out.below hbc)
  have SC := Lib.hid (SC.out.below hbc)
  have SAB := Lib.hid (SAB.out.below hbc)
  have SBC := Lib.hid (SBC.out.below hbc)
  have SAC := Lib.hid (SAC.out.below hbc)
  have SUM := Lib.hid (SUM.out.below hbc)
  have Hbb := Lib.hid (Hbb.out.trans (hbc.mono Hbb.out.size))
  have SX := Lib.hid hsc
  clear hbc hsc
  go_wp2_with fail
  refine (sq_mul h1 h4 SA.out SBC.out (by decide)).mono ?_
  rintro e y9 ⟨v6, rfl, hsc, hbc⟩
  dsimp only
  have SA := Lib.hid (SA.out.below hbc)
  have SB := Lib.hid (SB.out.below hbc)
  have SC := Lib.hid (SC.out.below hbc)
  have SAB := Lib.hid (SAB.out.below hbc)
  have SBC := Lib.hid (SBC.out.below hbc)
  have SAC := Lib.hid (SAC.out.below hbc)
  have SUM := Lib.hid (SUM.out.below hbc)
  have SX := Lib.hid (SX.out.below hbc)
  have Hbb := Lib.hid (Hbb.out.trans (hbc.mono Hbb.out.size))
  have SY := Lib.hid hsc
  clear hbc hsc
  go_wp2_with fail
  refine (sq_same h4 SX.out SY.out (fun i k _ _ => mulF_assoc n n A B C i k)).mono ?_
  rintro e y10 ⟨rfl, hbc⟩
  dsimp only
  have SA := Lib.hid (SA.out.below hbc)
  have SB := Lib.hid (SB.out.below hbc)
  have SC := Lib.hid (SC.out.below hbc)
  have SAB := Lib.hid (SAB.out.below hbc)
  have SBC := Lib.hid (SBC.out.below hbc)
  have SAC := Lib.hid (SAC.out.below hbc)
  have SUM := Lib.hid (SUM.out.below hbc)
  have SX := Lib.hid (SX.out.below hbc)
  have SY := Lib.hid (SY.out.below hbc)
  have Hbb := Lib.hid (Hbb.out.trans (hbc.mono Hbb.out.size))
  clear hbc SX SY
  go_wp2_with fail
  refine (sq_mul h1 h4 SUM.out SC.out (by decide)).mono ?_
  rintro e y11 ⟨v7, rfl, hsc, hbc⟩
  dsimp only
  have SA := Lib.hid (SA.out.below hbc)
  have SB := Lib.hid (SB.out.below hbc)
  have SC := Lib.hid (SC.out.below hbc)
  have SAB := Lib.hid (SAB.out.below hbc)
  have SBC := Lib.hid (SBC.out.below hbc)
  have SAC := Lib.hid (SAC.out.below hbc)
  have SUM := Lib.hid (SUM.out.below hbc)
  have Hbb := Lib.hid (Hbb.out.trans (hbc.mono Hbb.out.size))
  have SX := Lib.hid hsc
  clear hbc hsc SUM SC
  go_wp2_with fail
  refine (sq_add h1 h4 SAC.out SBC.out (by decide)).mono ?_
  rintro e y12 ⟨v8, rfl, hsc, hbc⟩
  dsimp only
  have SA := Lib.hid (SA.out.below hbc)
  have SB := Lib.hid (SB.out.below hbc)
  have SAB := Lib.hid (SAB.out.below hbc)
  have SBC := Lib.hid (SBC.out.below hbc)
  have SAC := Lib.hid (SAC.out.below hbc)
  have SX := Lib.hid (SX.out.below hbc)
  have Hbb := Lib.hid (Hbb.out.trans (hbc.mono Hbb.out.size))
  have SY := Lib.hid hsc
  clear hbc hsc SAC SBC
  go_wp2_with fail
  refine (sq_one h1 h4 _).mono ?_
  rintro e y13 ⟨v9, rfl, hsc, hbc⟩
  dsimp only
  have SA := Lib.hid (SA.out.below hbc)
  have SB := Lib.hid (SB.out.below hbc)
  have SAB := Lib.hid (SAB.out.below hbc)
  have SX := Lib.hid (SX.out.below hbc)
  have SY := Lib.hid (SY.out.below hbc)
  have Hbb := Lib.hid (Hbb.out.trans (hbc.mono Hbb.out.size))
  have ONE := Lib.hid hsc
  clear hbc hsc
  go_wp2_with fail
  refine (sq_mul h1 h4 SA.out ONE.out (by decide)).mono ?_
  rintro e y14 ⟨v10, rfl, hsc, hbc⟩
  dsimp only
  have SA := Lib.hid (SA.out.below hbc)
  have SB := Lib.hid (SB.out.below hbc)
  have SAB := Lib.hid (SAB.out.below hbc)
  have SX := Lib.hid (SX.out.below hbc)
  have SY := Lib.hid (SY.out.below hbc)
  have ONE := Lib.hid (ONE.out.below hbc)
  have Hbb := Lib.hid (Hbb.out.trans (hbc.mono Hbb.out.size))
  have SU := Lib.hid hsc
  clear hbc hsc
  go_wp2_with fail
  refine (sq_mul h1 h4 ONE.out SA.out (by decide)).mono ?_
  rintro e y15 ⟨v11, rfl, hsc, hbc⟩
  dsimp only
  have SA := Lib.hid (SA.out.below hbc)
  have SB := Lib.hid (SB.out.below hbc)
  have SAB := Lib.hid (SAB.out.below hbc)
  have SX := Lib.hid (SX.out.below hbc)
  have SY := Lib.hid (SY.out.below hbc)
  have ONE := Lib.hid (ONE.out.below hbc)
  have SU := Lib.hid (SU.out.below hbc)
  have Hbb := Lib.hid (Hbb.out.trans (hbc.mono Hbb.out.size))
  have SV := Lib.hid hsc
  clear hbc hsc ONE
  go_wp2_with fail
  refine (sq_same h4 SX.out SY.out (fun i k _ _ => mulF_add_left n A B C i k)).mono ?_
  rintro e y16 ⟨rfl, hbc⟩
  dsimp only
  have SA := Lib.hid (SA.out.below hbc)
  have SB := Lib.hid (SB.out.below hbc)
  have SAB := Lib.hid (SAB.out.below hbc)
  have SX := Lib.hid (SX.out.below hbc)
  have SY := Lib.hid (SY.out.below hbc)
  have SU := Lib.hid (SU.out.below hbc)
  have SV := Lib.hid (SV.out.below hbc)
  have Hbb := Lib.hid (Hbb.out.trans (hbc.mono Hbb.out.size))
  clear hbc SX SY
  go_wp2_with fail
  refine (sq_same h4 SU.out SA.out (fun i k _ hk => mulF_one_right n A i k hk)).mono ?_
  rintro e y17 ⟨rfl, hbc⟩
  dsimp only
  have SA := Lib.hid (SA.out.below hbc)
  have SB := Lib.hid (SB.out.below hbc)
  have SAB := Lib.hid (SAB.out.below hbc)
  have SU := Lib.hid (SU.out.below hbc)
  have SV := Lib.hid (SV.out.below hbc)
  have Hbb := Lib.hid (Hbb.out.trans (hbc.mono Hbb.out.size))
  clear hbc SU
  go_wp2_with fail
  refine (sq_same h4 SV.out SA.out (fun i k hi _ => mulF_one_left n A i k hi)).mono ?_
  rintro e y18 ⟨rfl, hbc⟩
  dsimp only
  have SA := Lib.hid (SA.out.below hbc)
  have SB := Lib.hid (SB.out.below hbc)
  have SAB := Lib.hid (SAB.out.below hbc)
  have SV := Lib.hid (SV.out.below hbc)
  have Hbb := Lib.hid (Hbb.out.trans (hbc.mono Hbb.out.size))
  clear hbc SV
  go_wp2_with fail
  refine (sq_tr h1 h4 SA.out (by decide)).mono ?_
  rintro e y19 ⟨v12, rfl, hsc, hbc⟩
  dsimp only
  have SA := Lib.hid (SA.out.below hbc)
  have SB := Lib.hid (SB.out.below hbc)
  have SAB := Lib.hid (SAB.out.below hbc)
  have Hbb := Lib.hid (Hbb.out.trans (hbc.mono Hbb.out.size))
  have SS := Lib.hid hsc
  clear hbc hsc SA
  go_wp2_with fail
  refine (sq_tr h1 h4 SB.out (by decide)).mono ?_
  rintro e y20 ⟨v13, rfl, hsc, hbc⟩
  dsimp only
  have SB := Lib.hid (SB.out.below hbc)
  have SAB := Lib.hid (SAB.out.below hbc)
  have SS := Lib.hid (SS.out.below hbc)
  have Hbb := Lib.hid (Hbb.out.trans (hbc.mono Hbb.out.size))
  have ST := Lib.hid hsc
  clear hbc hsc SB
  go_wp2_with fail
  refine (sq_mul h1 h4 ST.out SS.out (by decide)).mono ?_
  rintro e y21 ⟨v14, rfl, hsc, hbc⟩
  dsimp only
  have SAB := Lib.hid (SAB.out.below hbc)
  have SS := Lib.hid (SS.out.below hbc)
  have ST := Lib.hid (ST.out.below hbc)
  have Hbb := Lib.hid (Hbb.out.trans (hbc.mono Hbb.out.size))
  have TS := Lib.hid hsc
  clear hbc hsc ST SS
  go_wp2_with fail
  refine (sq_tr h1 h4 SAB.out (by decide)).mono ?_
  rintro e y22 ⟨v15, rfl, hsc, hbc⟩
  dsimp only
  have SAB := Lib.hid (SAB.out.below hbc)
  have TS := Lib.hid (TS.out.below hbc)
  have Hbb := Lib.hid (Hbb.out.trans (hbc.mono Hbb.out.size))
  have TU := Lib.hid hsc
  clear hbc hsc SAB
  go_wp2_with fail
  refine (sq_same h4 TS.out TU.out (fun i k _ _ => mulF_tr n A B i k)).mono ?_
  rintro e y23 ⟨rfl, hbc⟩
  dsimp only
  have TS := Lib.hid (TS.out.below hbc)
  have TU := Lib.hid (TU.out.below hbc)
  have Hbb := Lib.hid (Hbb.out.trans (hbc.mono Hbb.out.size))
  clear hbc TS TU
  go_wp2_with fail
  refine (awake_any _).mono ?_
  rintro e y24 ⟨rfl, hbc⟩
  dsimp only
  have Hbb := Lib.hid (Hbb.out.trans (hbc.mono Hbb.out.size))
  clear hbc
  go_wp2
  go_ret
  exact ⟨rfl, Hbb.out⟩
end Go.Proofs.Ytlkoiekdafaapaa
