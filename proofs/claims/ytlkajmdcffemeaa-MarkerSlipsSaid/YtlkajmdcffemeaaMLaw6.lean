/- The walk of MarkerSlips. -/
import Derived.Test.YtlkajmdcffemeaaRec
import Derived.Test.YtlkajmdcffemeaaSlpL
import Derived.Test.YtlkajmdcffemeaaAwk
import Derived.Test.YtlkajmdcffemeaaFine
import Derived.Deep.RegionHeld3
import Derived.Deep.RegionHeld
namespace Go.Proofs.Ytlkajmdcffemeaa
open Go.RowKit

theorem max2 {P : Program} (ts : Array TypeId) (t : TypeId) (w : World) : (Builtin.max_ ts t #[.int .i64 0, .int .i64 0]).run P w = .ok (.int .i64 0) w := by rfl
theorem wds_bits {b : Nat} {xs : List Nat} (h : xs.length ≤ 8) : Wds b (blkWs b xs) := ⟨by unfold blkWs; rw [List.length_map]; exact h, blkWs_size b xs, blkWs_ok b xs⟩
theorem fine_facts {x : Nat} : 1 ≤ fineN x ∧ fineN x ≤ 6 := by unfold fineN; omega
theorem below_then {w0 w w' : World} {B : Nat} (h : Below B w0 w) (hB : B ≤ w.heap.size) (hb : Below w.heap.size w w') : Below B w0 w' := h.trans (hb.mono hB)
theorem wordsErr_fine {b m : Nat} {ws : List ByteArray} (hb : b ≤ 6) (hm : m ≤ 8) (hw : Wds b ws) : wordsErr b m ws = 0 := by
  unfold wordsErr
  rw [firstFrom_all]
  · rw [if_neg]
    have := Nat.mul_le_mul hw.len (show b + m ≤ 14 by omega)
    omega
  · intro i _ hi
    have hmem := getD_mem ws i ByteArray.empty (by omega)
    have h1 := hw.size _ hmem
    have h2 : wordCheck 2 (ws.getD i ByteArray.empty).data.toList = 0 := (wordCheck_two (by rw [size_list]; omega)).2 (hw.ok _ hmem)
    show (if wordCheck 2 (ws.getD i ByteArray.empty).data.toList ≠ 0 then _ else if (ws.getD i ByteArray.empty).size ≠ b then _ else _) = _
    rw [if_neg (fun h => h h2), if_neg (fun h => h h1)]
theorem validErr_fine {b : Nat} {m : ByteArray} {ws : List ByteArray} (hb : 1 ≤ b ∧ b ≤ 6) (hm : fineB m = true) (hw : Wds b ws) : validErr (b : Int) m ws = 0 := by
  have h0 : mkErr0 (b : Int) m.data.toList = 0 := by rw [← mkErr_nil]; exact mkErr_fine hb hm (by simp) (by intro c hc; cases hc)
  unfold validErr
  rw [if_neg (fun h => h h0), Int.toNat_natCast]
  exact wordsErr_fine hb.2 (fine_marker hm).2.1 hw

set_option maxRecDepth 100000 in
set_option maxHeartbeats 16000000 in
theorem slipsLaw (x : Nat) (m : ByteArray) (p : Option Addr) (c : Nat) (xs : List Nat) (bk at_ kd : Nat) (w : World) (hx : x ≤ 255) (hm : m.size ≤ maxLen) (hX : ByteAt w p xs) (hx256 : ∀ x ∈ xs, x < 256) (_hxl : xs.length ≤ maxLen) (hbk : bk ≤ 255) (hat : at_ ≤ 255) (hkd : kd ≤ 255) :
    Calls Try.prog 8 #[.int .u8 (x : Int), .string m, .slice p xs.length c, .int .u8 (bk : Int), .int .u8 (at_ : Int), .int .u8 (kd : Int)] w fun e w' => e = .returned (.bool true) ∧ Below w.heap.size w w' := by
  have Hf := Lib.hid (fine_any x m hx hm)
  have hfn := fine_facts (x := x)
  obtain ⟨b, hbe⟩ : ∃ b, fineN x = b := ⟨_, rfl⟩
  rw [hbe] at Hf hfn
  obtain ⟨hb1, hb2⟩ := hfn
  have HX := Lib.hid hX
  clear hX
  by_cases hearly : fineB m = false ∨ 4 < xs.length ∨ xs.length = 0
  · clear hbe
    cases hF : fineB m
    · rw [hF] at Hf
      clear hF hearly
      go_enter Try.func8, Try.ntmps8
      go_wp2_with first
        | (go_at_call 11; go_fit (Hf.out _); rintro e w1 ⟨rfl, hd⟩; have Hd := Lib.hid hd; clear hd)
        | (go_at_call 12; go_fit (awake_any _); rintro e w2 ⟨rfl, hb2⟩; have Hb2 := Lib.hid hb2; clear hb2)
      go_ret
      exact ⟨rfl, (Drawn.below Hd.out _).trans (Hb2.out.mono (by rw [Drawn.heap Hd.out]; exact Nat.le_refl _))⟩
    · rw [hF] at Hf
      by_cases h4 : 4 < xs.length
      · have h4I : decide ((4 : Int) < (xs.length : Int)) = true := by rw [decide_eq_true_eq]; omega
        clear hF hearly
        go_enter Try.func8, Try.ntmps8
        go_wp2_with first
          | (go_at_call 11; go_fit (Hf.out _); rintro e w1 ⟨rfl, hd⟩; have Hd := Lib.hid hd; clear hd)
          | (go_at_call 12; go_fit (awake_any _); rintro e w2 ⟨rfl, hb2⟩; have Hb2 := Lib.hid hb2; clear hb2)
        go_ret
        exact ⟨rfl, (Drawn.below Hd.out _).trans (Hb2.out.mono (by rw [Drawn.heap Hd.out]; exact Nat.le_refl _))⟩
      · have h0 : xs.length = 0 := by rcases hearly with h | h | h <;> first | (rw [hF] at h; cases h) | exact absurd h h4 | exact h
        rw [h0]
        clear hF hearly h4
        go_enter Try.func8, Try.ntmps8
        go_wp2_with first
          | (go_at_call 11; go_fit (Hf.out _); rintro e w1 ⟨rfl, hd⟩; have Hd := Lib.hid hd; clear hd)
          | (go_at_call 12; go_fit (awake_any _); rintro e w2 ⟨rfl, hb2⟩; have Hb2 := Lib.hid hb2; clear hb2)
        go_ret
        exact ⟨rfl, (Drawn.below Hd.out _).trans (Hb2.out.mono (by rw [Drawn.heap Hd.out]; exact Nat.le_refl _))⟩
  · have hF : fineB m = true := by cases h : fineB m with | true => rfl | false => exact absurd (.inl h) hearly
    have h4 : xs.length ≤ 4 := by omega
    have h0 : 0 < xs.length := by omega
    rw [hF] at Hf
    have hw := wds_bits (b := b) (xs := xs) (by omega)
    obtain ⟨hm1, hm2, _⟩ := fine_marker hF
    have hwl : (blkWs b xs).length = xs.length := by unfold blkWs; rw [List.length_map]
    have hBl := fun W hW => blocksL_any b (by omega) xs hx256 p c W hW (by omega)
    generalize hws : blkWs b xs = ws at *
    have hve := validErr_fine ⟨hb1, hb2⟩ hF hw
    have HVal := Lib.hid (fun p c W hW => Valid_any (b : Int) m ws p c hm (by omega) (fun x hx => by rw [hw.size x hx]; unfold maxLen; omega) W hW)
    rw [hve, Int.toNat_natCast] at HVal
    have Hlaw := Lib.hid (fun hv k sh u hx => slip_law (k := k) (sh := sh) (u := u) ⟨hb1, hb2⟩ hF hw hv hx)
    have Hloc := Lib.hid (fun TT ht W => Locate_any (b : Int) m TT hm ht W)
    have Hrec := Lib.hid (fun TT ht W => Recover_any (b : Int) m TT hm ht W)
    have HBl := Lib.hid hBl
    have hmax := @max2 Try.prog
    have h4I : decide ((4 : Int) < (xs.length : Int)) = false := by rw [decide_eq_false_iff_not]; omega
    have h0I : ((xs.length : Int) == 0) = false := by rw [beq_eq_false_iff_ne]; omega
    have Hwl := Lib.hid hwl
    have Hw := Lib.hid hw
    clear hF hbe hws hw hBl hwl hve hearly
    go_enter Try.func8, Try.ntmps8
    go_wp2_with (go_at_call 11; go_fit (Hf.out _); rintro e w1 ⟨rfl, hd⟩; have Hd := Lib.hid hd; clear hd)
    refine (HBl.out _ (HX.out.below (Nat.le_refl _) (Drawn.below Hd.out _))).mono ?_
    rintro e w2 ⟨v, rfl, ho, hb⟩
    obtain ⟨p2, c2, rfl, _, hS, _⟩ := ho.form
    have HS := Lib.hid hS
    have Hw2 := Lib.hid (show Below w.heap.size w w2 from (Drawn.below Hd.out _).trans (hb.mono (by rw [Drawn.heap Hd.out]; exact Nat.le_refl _)))
    clear ho hb hS
    go_wp2_with fail
    refine (HVal.out p2 c2 _ HS.out).mono ?_
    rintro e w3 ⟨v, rfl, hv, hb⟩
    have HS := Lib.hid (HS.out.below (Nat.le_refl _) hb)
    have Hw3 := Lib.hid (below_then Hw2.out Hw2.out.size hb)
    have Hv := Lib.hid hv
    clear hb hv
    cases v
    · go_wp2_with (go_at_call 12; go_fit (awake_any _); rintro e w8 ⟨rfl, hb8⟩; have Hb8 := Lib.hid hb8; clear hb8)
      go_ret
      exact ⟨rfl, below_then Hw3.out Hw3.out.size Hb8.out⟩
    · have HV : Hid (ValidP b m ws) := Lib.hid ((Hv.out.1 rfl).2)
      clear Hv
      go_wp2
      go_quiet (fail)
      obtain ⟨k, hk, hkl⟩ : ∃ k : Nat, (bk : Int) % (xs.length : Int) = (k : Int) ∧ k < ws.length := ⟨bk % xs.length, by omega, by have := Hwl.out; have := Nat.mod_lt bk h0; omega⟩
      obtain ⟨i, hi, hil⟩ : ∃ i : Nat, (at_ : Int) % (b : Int) = (i : Int) ∧ i < b := ⟨at_ % b, by omega, Nat.mod_lt _ (by omega)⟩
      rw [hk, hi]
      have HS4 := Lib.hid (HS.out.below (Nat.le_refl _) (Drawn.below (Drawn.drewN (Drawn.refl _) nq) _))
      have Hw4 := Lib.hid (Hw3.out.trans (Drawn.below (Drawn.drewN (Drawn.refl _) nq) _))
      obtain ⟨w4, hw4⟩ : ∃ w4, w3.drewN nq = w4 := ⟨_, rfl⟩
      rw [hw4] at HS4 Hw4 ⊢
      clear hk hi hw4
      obtain ⟨sb, so, rfl, hsb, hsc⟩ := StrsAt.cells HS4.out hkl
      have hx4 := hsc k hkl
      have hxz := Hw.out.size _ (getD_mem ws k ByteArray.empty hkl)
      obtain ⟨y, hye⟩ : ∃ y, ws.getD k ByteArray.empty = y := ⟨_, rfl⟩
      rw [hye] at hx4 hxz
      have Hye := Lib.hid hye
      have hk0 : (0 : Int) ≤ (k : Int) := by omega
      have hk1 : (k : Int) < (ws.length : Int) := by omega
      have hi0 : (0 : Int) ≤ (i : Int) := by omega
      have hi1 : (i : Int) ≤ (y.size : Int) := by omega
      obtain ⟨q, hq⟩ : ∃ q, i + 1 = q := ⟨_, rfl⟩
      have ew : IntKind.i64.wrap ((i : Int) + 1) = (q : Int) := by rw [IntWalk.i64_in _ (by omega)]; omega
      have q0 : (0 : Int) ≤ (q : Int) := by omega
      have q1 : (q : Int) ≤ (y.size : Int) := by omega
      have hsum : ¬ 9223372036854775807 < i + (y.size - q) := by omega
      have hiy : i ≤ y.size := by omega
      have hqy : q ≤ y.size := by omega
      clear hsc hye
      go_wp2
      go_quiet (fail)
      have HS5 := Lib.hid (HS4.out.below (Nat.le_refl _) (Drawn.below (Drawn.drewN (Drawn.refl _) nq) _))
      have Hw5 := Lib.hid (Hw4.out.trans (Drawn.below (Drawn.drewN (Drawn.refl _) nq) _))
      obtain ⟨w5, hw5⟩ : ∃ w5, w4.drewN nq = w5 := ⟨_, rfl⟩
      have hx5 : w5.cell? ⟨sb, so + k, none⟩ = some (.string y) := by rw [← hw5]; exact hx4
      have hsb5 : sb < w5.heap.size := by rw [← hw5]; exact hsb
      rw [hw5] at HS5 Hw5 ⊢
      clear hw5 hx4 hsb HS4 Hw4
      go_upto_if 90 with (fail)
      go_cut [20, 21] (fun v s wx => ∃ (sh : Int) (u : ByteArray), v = .string u ∧ s = .int .i64 sh ∧ Hid (SlipOf ws (k, sh, u)) ∧ Hid (StrsAt wx (some ⟨sb, so, none⟩) ws) ∧ Hid (Below w.heap.size w wx))
      case first =>
        have hr : (kd : Int) % 3 = ((kd % 3 : Nat) : Int) := by omega
        obtain ⟨r, hrr⟩ : ∃ r, kd % 3 = r := ⟨_, rfl⟩
        have hr3 : r < 3 := by rw [← hrr]; exact Nat.mod_lt _ (by omega)
        rw [hrr] at hr
        by_cases hr0 : r = 0
        · have hkd1 : decide ((0 : Int) < (kd : Int) % 3) = false := by rw [hr, decide_eq_false_iff_not]; omega
          have hkd2 : ¬ ((0 : Int) < (kd : Int) % 3) := by rw [hr]; omega
          have Hsl : Hid (SlipOf ws (k, -1, dropAt y i)) := Lib.hid ⟨hkl, .inl ⟨i, by show i < (ws.getD k ByteArray.empty).size; rw [Hye.out]; omega, by show (_, _) = (_, _); rw [Hye.out]⟩⟩
          clear hr hrr
          go_wp2
          go_meet
          case rel => exact ⟨-1, dropAt y i, by unfold dropAt; rw [hq, hxz], rfl, Hsl, HS5, Hw5⟩
        · have hkd1 : decide ((0 : Int) < (kd : Int) % 3) = true := by rw [hr, decide_eq_true_eq]; omega
          have hkd2 : (0 : Int) < (kd : Int) % 3 := by rw [hr]; omega
          obtain ⟨j, hjr⟩ : ∃ j, r = j + 1 := ⟨r - 1, by omega⟩
          have hj : j < 2 := by omega
          have hj0 : (0 : Int) ≤ (j : Int) := by omega
          have hj1 : (j : Int) < 2 := by omega
          have hsub : IntKind.u8.wrap ((kd : Int).tmod 3 - 1) = (j : Int) := by rw [Int.tmod_eq_emod_of_nonneg (by omega), show (kd : Int) % 3 - 1 = (j : Int) from by omega]; unfold IntKind.wrap; simp [IntKind.bits, IntKind.signed]; omega
          have Hsl : Hid (SlipOf ws (k, 1, insAt y i (bitC j))) := Lib.hid ⟨hkl, .inr ⟨i, j, by show i < (ws.getD k ByteArray.empty).size + 1; rw [Hye.out]; omega, hj, by show (_, _) = (_, _); rw [Hye.out]⟩⟩
          have HBt : BitsAt (w5.alloc (.cells #[.string ⟨#[48]⟩, .string ⟨#[49]⟩] 9)) w5.heap.size := fun j hj => by
            match j, hj with
            | 0, _ => exact cell_new2 w5 _ _ _ 0 (by decide)
            | 1, _ => exact cell_new2 w5 _ _ _ 1 (by decide)
          have hbc := HBt j hj
          obtain ⟨cc, hcc⟩ : ∃ cc, bitC j = cc := ⟨_, rfl⟩
          have hcs : cc.size = 1 := by rw [← hcc]; unfold bitC; split <;> rfl
          rw [hcc] at hbc Hsl
          have hib : i ≤ b := by omega
          have hibI : (i : Int) ≤ (b : Int) := by omega
          have hs1 : ¬ 9223372036854775807 < q := by omega
          have hs2 : ¬ 9223372036854775807 < q + (b - i) := by omega
          have hx6 : (w5.alloc (.cells #[.string ⟨#[48]⟩, .string ⟨#[49]⟩] 9)).cell? ⟨sb, so + k, none⟩ = some (.string y) := (World.cell?_alloc_lt _ _ _ hsb5).trans hx5
          have HS6 := Lib.hid ((HS5.out.below (Nat.le_refl _) ((Below.refl _ _).drew)).below (Nat.le_refl _) ((Below.refl _ w5.drew).alloc (Nat.le_refl _) (.cells #[.string ⟨#[48]⟩, .string ⟨#[49]⟩] 9)))
          have Hw6 := Lib.hid (Hw5.out.drew.alloc (by have := Hw5.out.size; exact this) (.cells #[.string ⟨#[48]⟩, .string ⟨#[49]⟩] 9))
          clear HBt hjr hrr hr0
          go_wp2
          refine wp_region_held_drew (S := fun W => W.cell? ⟨sb, so + k, none⟩ = some (.string y)) (by kernel_rfl) hx5 (fun hSS => ?_)
          refine wpAnyH_take (i := 0) (v := ?_) rfl (by kernel_rfl) (by kernel_rfl) (by kernel_rfl) (fun _ _ _ h => h) (Or.inl ⟨by rfl, ?_⟩) hSS ?_
          rotate_left 1
          next => intro w hSw; go_simp; try with_reducible rfl
          refine wpAnyH_take (i := 1) (v := ?_) rfl (by kernel_rfl) (by kernel_rfl) (by kernel_rfl) (fun _ _ _ h => h) (Or.inl ⟨by rfl, ?_⟩) hSS ?_
          rotate_left 1
          next => intro w hSw; go_simp; try with_reducible rfl
          refine wpAnyH_take (i := 2) (v := ?_) rfl (by kernel_rfl) (by kernel_rfl) (by kernel_rfl) (fun _ _ _ h => h) (Or.inl ⟨by rfl, ?_⟩) hSS ?_
          rotate_left 1
          next => intro w hSw; go_simp; try with_reducible rfl
          refine wpAnyH_take (i := 3) (v := ?_) rfl (by kernel_rfl) (by kernel_rfl) (by kernel_rfl) (fun _ _ _ h => h) (Or.inl ⟨by rfl, ?_⟩) hSS ?_
          rotate_left 1
          next => intro w hSw; go_simp; try with_reducible rfl
          refine wpAnyH_take (i := 4) (v := ?_) rfl (by kernel_rfl) (by kernel_rfl) (by kernel_rfl) (fun _ _ _ h => h) (Or.inl ⟨by rfl, ?_⟩) hSS ?_
          rotate_left 1
          next => intro w hSw; go_simp; try with_reducible rfl
          refine wpAnyH_take (i := 5) (v := ?_) rfl (by kernel_rfl) (by kernel_rfl) (by kernel_rfl) (fun _ _ _ h => h) (Or.inl ⟨by rfl, ?_⟩) hSS ?_
          rotate_left 1
          next => intro w hSw; go_simp; try with_reducible rfl
          refine wpAnyH_take (i := 7) (v := ?_) rfl (by kernel_rfl) (by kernel_rfl) (by kernel_rfl) (fun _ _ _ h => h) (Or.inl ⟨by rfl, ?_⟩) hSS ?_
          rotate_left 1
          next => intro w hSw; go_simp; try with_reducible rfl
          refine wpAnyH_take (i := 8) (v := ?_) rfl (by kernel_rfl) (by kernel_rfl) (by kernel_rfl) (fun _ _ _ h => h) (Or.inl ⟨by rfl, ?_⟩) hSS ?_
          rotate_left 1
          next => intro w hSw; go_simp; try with_reducible rfl
          refine wpAnyH_take (i := 9) (v := ?_) rfl (by kernel_rfl) (by kernel_rfl) (by kernel_rfl) (fun _ _ _ h => h) (Or.inl ⟨by rfl, ?_⟩) hSS ?_
          rotate_left 1
          next => intro w hSw; go_simp; try with_reducible rfl
          refine wpAnyH_take (i := 13) (v := ?_) rfl (by kernel_rfl) (by kernel_rfl) (by kernel_rfl) (fun _ _ _ h => h) (Or.inl ⟨by rfl, ?_⟩) hSS ?_
          rotate_left 1
          next => intro w hSw; go_simp; try with_reducible rfl
          refine wpAnyH_take (i := 14) (v := ?_) rfl (by kernel_rfl) (by kernel_rfl) (by kernel_rfl) (fun _ _ _ h => h) (Or.inl ⟨by rfl, ?_⟩) hSS ?_
          rotate_left 1
          next => intro w hSw; go_simp; try with_reducible rfl
          refine wpAnyH_take (i := 15) (v := ?_) rfl (by kernel_rfl) (by kernel_rfl) (by kernel_rfl) (fun _ _ _ h => h) (Or.inl ⟨by rfl, ?_⟩) hSS ?_
          rotate_left 1
          next => intro w hSw; go_simp; try with_reducible rfl
          refine wpAnyH_take (i := 16) (v := ?_) rfl (by kernel_rfl) (by kernel_rfl) (by kernel_rfl) (fun _ _ _ h => h) (Or.inl ⟨by rfl, ?_⟩) hSS ?_
          rotate_left 1
          next => intro w hSw; go_simp; try with_reducible rfl
          refine wpAnyH_take (i := 17) (v := ?_) rfl (by kernel_rfl) (by kernel_rfl) (by kernel_rfl) (fun _ _ _ h => h) (Or.inl ⟨by rfl, ?_⟩) hSS ?_
          rotate_left 1
          next => intro w hSw; go_simp; try with_reducible rfl
          refine wpAnyH_take (i := 18) (v := ?_) rfl (by kernel_rfl) (by kernel_rfl) (by kernel_rfl) (fun _ _ _ h => h) (Or.inl ⟨by rfl, ?_⟩) hSS ?_
          rotate_left 1
          next => intro w hSw; go_simp; try with_reducible rfl
          refine wpAnyH_ready (rs := [6]) (by kernel_rfl) (by simp) ?_
          refine AllReadyH.cons rfl (fun K hK => ?_) AllReadyH.nil
          go_simp
          refine hK.out _ _ hx6 (fun hSS => ?_)
          clear hK K
          refine wpAnyH_take (i := 10) (v := ?_) rfl (by kernel_rfl) (by kernel_rfl) (by kernel_rfl) (fun _ _ _ h => h) (Or.inl ⟨by rfl, ?_⟩) hx6 ?_
          rotate_left 1
          next => intro w hSw; go_simp; try with_reducible rfl
          refine wpAnyH_ready (rs := [11]) (by kernel_rfl) (by simp) ?_
          refine AllReadyH.cons rfl (fun K hK => ?_) AllReadyH.nil
          go_simp
          refine hK.out _ _ hx6 (fun hSS => ?_)
          clear hK K
          refine wpAnyH_take (i := 12) (v := ?_) rfl (by kernel_rfl) (by kernel_rfl) (by kernel_rfl) (fun _ _ _ h => h) (Or.inl ⟨by rfl, ?_⟩) hx6 ?_
          rotate_left 1
          next => intro w hSw; go_simp; try with_reducible rfl
          refine wpAnyH_take (i := 19) (v := ?_) rfl (by kernel_rfl) (by kernel_rfl) (by kernel_rfl) (fun _ _ _ h => h) (Or.inl ⟨by rfl, ?_⟩) hx6 ?_
          rotate_left 1
          next => intro w hSw; go_simp; try with_reducible rfl
          refine wpAnyH_take (i := 20) (v := ?_) rfl (by kernel_rfl) (by kernel_rfl) (by kernel_rfl) (fun _ _ _ h => h) (Or.inl ⟨by rfl, ?_⟩) hx6 ?_
          rotate_left 1
          next => intro w hSw; go_simp; try with_reducible rfl
          refine wpAnyH_take (i := 21) (v := ?_) rfl (by kernel_rfl) (by kernel_rfl) (by kernel_rfl) (fun _ _ _ h => h) (Or.inl ⟨by rfl, ?_⟩) hx6 ?_
          rotate_left 1
          next => intro w hSw; go_simp; try with_reducible rfl
          refine wpAnyH_done (by kernel_rfl) ?_ _
          go_wp2
          go_meet
          case rel => exact ⟨1, insAt y i cc, by unfold insAt; rw [hxz], rfl, Hsl, HS6, Hw6⟩
      case rest =>
        obtain ⟨sh, u, rfl, rfl, Hsl, HS6, Hw6⟩ := hcut
        obtain ⟨l1, l2, l3, l4⟩ := Hlaw.out HV.out k sh u Hsl.out
        have hwl6 : ws.length ≤ 4 := by have := Hwl.out; omega
        have hys : ∀ n, n < ws.length → (ws.set k u).getD n ByteArray.empty = if n = k then u else ws.getD n ByteArray.empty := fun n hn => by
          rw [List.getD_eq_getElem?_getD, List.getD_eq_getElem?_getD, List.getElem?_set]
          by_cases e : n = k
          · rw [if_pos e, if_pos e.symm, if_pos hkl]; rfl
          · rw [if_neg e, if_neg (fun h => e h.symm)]
        have hlt : (trackL m (ws.set k u)).length ≤ 1000000 := slip_size (b := b) (sh := sh) hb1 Hw.out.size (by have := Nat.mul_le_mul Hw.out.len (show b + m.size ≤ 14 by omega); omega) Hsl.out
        have hts : (trackOf m (ws.set k u)).size ≤ 1000000 := by rw [← trackL_of]; exact hlt
        have hul : u.size ≤ 7 := by have := slip_le Hw.out.size Hsl.out; have : u.size ≤ b + 1 := this; omega
        have HL := Lib.hid (Hloc.out (trackOf m (ws.set k u)) (by unfold maxLen; omega))
        have HR := Lib.hid (Hrec.out (trackOf m (ws.set k u)) (by unfold maxLen; omega))
        rw [l1, l2] at HL
        rw [l1, l3, l4] at HR
        have HSH : Hid (∀ n, n < ws.length → ((List.replicate ws.length (0 : Int)).set k sh).getD n 0 = if n = k then sh else 0) := Lib.hid (fun n hn => by
          rw [List.getD_eq_getElem?_getD, List.getElem?_set]
          by_cases e : n = k
          · rw [if_pos e, if_pos e.symm, if_pos (by rw [List.length_replicate]; exact hkl)]; rfl
          · rw [if_neg e, if_neg (fun h => e h.symm), List.getElem?_replicate, if_pos hn]; rfl)
        have HGD : Hid (∀ n, n < ws.length → ((List.replicate ws.length true).set k false).getD n false = if n = k then false else true) := Lib.hid (fun n hn => by
          rw [List.getD_eq_getElem?_getD, List.getElem?_set]
          by_cases e : n = k
          · rw [if_pos e, if_pos e.symm, if_pos (by rw [List.length_replicate]; exact hkl)]; rfl
          · rw [if_neg e, if_neg (fun h => e h.symm), List.getElem?_replicate, if_pos hn]; rfl)
        have HBK : Hid (∀ n, n < ws.length → ((List.map (fun x => x) ws).set k ⟨#[]⟩).getD n ByteArray.empty = if n = k then ⟨#[]⟩ else ws.getD n ByteArray.empty) := Lib.hid (fun n hn => by
          rw [List.map_id', List.getD_eq_getElem?_getD, List.getD_eq_getElem?_getD, List.getElem?_set]
          by_cases e : n = k
          · rw [if_pos e, if_pos e.symm, if_pos hkl]; rfl
          · rw [if_neg e, if_neg (fun h => e h.symm)])
        have hl1 : ((List.replicate ws.length (0 : Int)).set k sh).length = ws.length := by rw [List.length_set, List.length_replicate]
        have hl2 : ((List.replicate ws.length true).set k false).length = ws.length := by rw [List.length_set, List.length_replicate]
        have hl3 : ((List.map (fun x => x) ws).set k ⟨#[]⟩).length = ws.length := by rw [List.length_set, List.length_map]
        generalize (List.replicate ws.length (0 : Int)).set k sh = SH at *
        generalize (List.replicate ws.length true).set k false = GD at *
        generalize (List.map (fun x => x) ws).set k ⟨#[]⟩ = BK at *
        have htk : ∀ n, n < ws.length → trackL m ((ws.set k u).take (n + 1)) = trackL m ((ws.set k u).take n) ++ ((if n = k then u else ws.getD n ByteArray.empty) ++ m).data.toList := fun n hn => by
          rw [trackL_succ (by rw [List.length_set]; exact hn), hys n hn]
        have htl : ∀ n, (trackL m ((ws.set k u).take n)).length ≤ 1000000 := fun n => Nat.le_trans (trackL_take_le _ _ _) hlt
        have hfin : trackL m ((ws.set k u).take ws.length) = (trackOf m (ws.set k u)).data.toList := by
          rw [List.take_of_length_le (by rw [List.length_set]; exact Nat.le_refl _), ← trackL_of]
        have Htk := Lib.hid htk
        have Htl := Lib.hid htl
        have Hfin := Lib.hid hfin
        have h0t : trackL m ((ws.set k u).take 0) = [] := rfl
        generalize trackOf m (ws.set k u) = TT at *
        clear l1 l2 l3 l4 hys hlt htk htl hfin Hlaw Hloc Hrec HVal hts
        have Hl1 := Lib.hid hl1
        have Hl2 := Lib.hid hl2
        have Hl3 := Lib.hid hl3
        clear hl1 hl2 hl3
        go_wp2
        go_loop [22, 113] (fun t v => ∃ (n : Nat) (tt : ByteArray), n ≤ ws.length ∧ t = .string tt ∧ v = .int .i64 n ∧ Hid (tt.data.toList = trackL m ((ws.set k u).take n))) (fun _ v => ws.length - (intOf v).toNat)
        case atStart => exact ⟨0, ⟨#[]⟩, by omega, rfl, by go_num, Lib.hid rfl⟩
        case round =>
          obtain ⟨n, tt, hn, rfl, rfl, Htt⟩ := hrel
          by_cases hnl : n < ws.length
          · obtain ⟨sb', so', he, hsb', hsc⟩ := StrsAt.cells HS6.out hnl
            cases he
            have hxn := hsc n hnl
            obtain ⟨z, hze⟩ : ∃ z, ws.getD n ByteArray.empty = z := ⟨_, rfl⟩
            rw [hze] at hxn
            have hzs : z.size ≤ 6 := by rw [← hze]; have := Hw.out.size _ (getD_mem ws n ByteArray.empty hnl); omega
            have hn0 : (0 : Int) ≤ (n : Int) := by omega
            have hn1 : (n : Int) < (ws.length : Int) := by omega
            have hts : tt.size ≤ 1000000 := by
              have h1 := Htl.out n
              rw [← Htt.out, size_list] at h1; exact h1
            have HT := Lib.hid (show trackL m ((ws.set k u).take (n + 1)) = tt.data.toList ++ ((if n = k then u else z) ++ m).data.toList by rw [Htk.out n hnl, hze, Htt.out])
            clear hsc hze
            by_cases hnk : n = k
            · have hnkI : ((n : Int) == (k : Int)) = true := by rw [hnk]; exact beq_self_eq_true _
              have hs1 : ¬ 9223372036854775807 < u.size + m.size := by omega
              have hs2 : ¬ 9223372036854775807 < tt.size + (u.size + m.size) := by omega
              have HT2 := Lib.hid (show (tt ++ (u ++ m)).data.toList = trackL m ((ws.set k u).take (n + 1)) by rw [HT.out, if_pos hnk, append_list])
              clear hnk
              go_wp2
              go_round
              case rel => exact ⟨n + 1, _, by omega, rfl, by go_num, HT2⟩
              case measure => simp [intOf]; omega
            · have hnkI : ((n : Int) == (k : Int)) = false := by rw [beq_eq_false_iff_ne]; omega
              have hs1 : ¬ 9223372036854775807 < z.size + m.size := by omega
              have hs2 : ¬ 9223372036854775807 < tt.size + (z.size + m.size) := by omega
              have HT2 := Lib.hid (show (tt ++ (z ++ m)).data.toList = trackL m ((ws.set k u).take (n + 1)) by rw [HT.out, if_neg hnk, append_list])
              clear hnk
              go_wp2
              go_round
              case rel => exact ⟨n + 1, _, by omega, rfl, by go_num, HT2⟩
              case measure => simp [intOf]; omega
          · have hn1 : ¬ (n : Int) < (ws.length : Int) := by omega
            have hne : n = ws.length := by omega
            have Htt2 : Hid (tt = TT) := Lib.hid (bytes_eq (by rw [Htt.out, hne]; exact Hfin.out))
            clear hne
            go_wp2_with fail
            rw [Htt2.out]
            clear Htt Htt2 Htk Htl Hfin
            refine (HL.out _).mono ?_
            rintro e w7 ⟨v7, rfl, _, ho, hb⟩
            obtain ⟨p7, c7, rfl, _, hI, _⟩ := ho.form
            have HI := Lib.hid hI
            have HS7 := Lib.hid (HS6.out.below (Nat.le_refl _) hb)
            have Hw7 := Lib.hid (below_then Hw6.out Hw6.out.size hb)
            clear hb hI ho
            go_wp2_with fail
            refine (HR.out _).mono ?_
            rintro e w8 ⟨v8, g8, rfl, ho, hg, hb⟩
            obtain ⟨p8, c8, rfl, _, hS8, _⟩ := ho.form
            obtain ⟨q8, d8, rfl, _, hB8, _⟩ := hg.form
            have HS8 := Lib.hid hS8
            have HB8 := Lib.hid hB8
            have HI8 := Lib.hid (HI.out.below (Nat.le_refl _) hb)
            have HS9 := Lib.hid (HS7.out.below (Nat.le_refl _) hb)
            have Hw8 := Lib.hid (below_then Hw7.out Hw7.out.size hb)
            clear hb hS8 hB8 ho hg
            have c1b : ((SH.length : Int) != (xs.length : Int)) = false := by rw [bne_eq_false_iff_eq]; have := Hl1.out; have := Hwl.out; omega
            have c2b : ((BK.length : Int) != (xs.length : Int)) = false := by rw [bne_eq_false_iff_eq]; have := Hl3.out; have := Hwl.out; omega
            have c3b : ((GD.length : Int) != (xs.length : Int)) = false := by rw [bne_eq_false_iff_eq]; have := Hl2.out; have := Hwl.out; omega
            go_wp2
            go_loopw [170] (fun v wr => ∃ n : Nat, n ≤ xs.length ∧ v = .int .i64 n ∧ Drawn w8 wr) (fun v _ => xs.length - (intOf v).toNat)
            case atStart => exact ⟨0, by omega, by go_num, Drawn.refl _⟩
            case round =>
              obtain ⟨n, hn2, rfl, hd⟩ := hrel
              have Hdn := Lib.hid hd
              by_cases hnl : n < xs.length
              · have hnw : n < ws.length := by have := Hwl.out; omega
                obtain ⟨ab, ao, rfl, _, hca⟩ := IntsAt.cells HI8.out (k := n) (by rw [Hl1.out]; exact hnw)
                obtain ⟨bb, bo, rfl, _, hcb⟩ := BoolsAt.cells HB8.out (k := n) (by rw [Hl2.out]; exact hnw)
                obtain ⟨cb, co, rfl, _, hcc⟩ := StrsAt.cells HS8.out (k := n) (by rw [Hl3.out]; exact hnw)
                obtain ⟨db, dof, hde, _, hcd⟩ := StrsAt.cells HS9.out (k := n) hnw
                cases hde
                have ca := (hd.cell ⟨ab, ao + n, none⟩).trans (hca n (by rw [Hl1.out]; exact hnw))
                have cb2 := (hd.cell ⟨bb, bo + n, none⟩).trans (hcb n (by rw [Hl2.out]; exact hnw))
                have cc2 := (hd.cell ⟨cb, co + n, none⟩).trans (hcc n (by rw [Hl3.out]; exact hnw))
                have cd2 := (hd.cell ⟨sb, so + n, none⟩).trans (hcd n hnw)
                rw [HSH.out n hnw] at ca
                rw [HGD.out n hnw] at cb2
                rw [HBK.out n hnw] at cc2
                obtain ⟨z, hze⟩ : ∃ z, ws.getD n ByteArray.empty = z := ⟨_, rfl⟩
                rw [hze] at cc2 cd2
                have n0 : (0 : Int) ≤ (n : Int) := by omega
                have n1 : (n : Int) < (xs.length : Int) := by omega
                have n2 : (n : Int) < (ws.length : Int) := by omega
                have n3 : (n : Int) < (SH.length : Int) := by rw [Hl1.out]; exact n2
                have n4 : (n : Int) < (GD.length : Int) := by rw [Hl2.out]; exact n2
                have n5 : (n : Int) < (BK.length : Int) := by rw [Hl3.out]; exact n2
                clear hca hcb hcc hcd hd hze
                by_cases hnk : n = k
                · rw [if_pos hnk] at ca cb2 cc2
                  have hnkI : ((n : Int) == (k : Int)) = true := by rw [hnk]; exact beq_self_eq_true _
                  have hnkJ : ((n : Int) != (k : Int)) = false := by rw [hnk]; exact bne_self_eq_false _
                  have he : ((⟨#[]⟩ : ByteArray).toList.isEmpty) = true := (str_empty _).2 rfl
                  have hsh : (sh != sh) = false := bne_self_eq_false _
                  clear hnk
                  go_wp2_with fail
                  go_quiet (fail)
                  go_wp2
                  go_roundw
                  case rel => exact ⟨n + 1, by omega, by go_num, Hdn.out.drewN _⟩
                  case measure => simp [intOf]; omega
                · rw [if_neg hnk] at ca cb2 cc2
                  have hnkI : ((n : Int) == (k : Int)) = false := by rw [beq_eq_false_iff_ne]; omega
                  have hnkJ : ((n : Int) != (k : Int)) = true := by rw [bne_iff_ne]; omega
                  have hzz : (z.toList == z.toList) = true := beq_self_eq_true _
                  have hzn : (z.toList != z.toList) = false := bne_self_eq_false _
                  clear hnk
                  go_wp2_with fail
                  go_quiet (fail)
                  go_wp2
                  go_roundw
                  case rel => exact ⟨n + 1, by omega, by go_num, Hdn.out.drewN _⟩
                  case measure => simp [intOf]; omega
              · have n1 : ¬ (n : Int) < (xs.length : Int) := by omega
                go_wp2_with (go_at_call 12; go_fit (awake_any _); rintro e wz ⟨rfl, hbz⟩; have Hbz := Lib.hid hbz; clear hbz)
                go_ret
                have hb8 := Hw8.out.trans ((Drawn.below Hdn.out w8.heap.size).mono Hw8.out.size)
                exact ⟨rfl, hb8.trans (Hbz.out.mono hb8.size)⟩
end Go.Proofs.Ytlkajmdcffemeaa
