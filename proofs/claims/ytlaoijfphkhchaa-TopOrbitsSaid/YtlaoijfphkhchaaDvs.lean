/- counting.divisors: its iterator. -/
import Derived.Test.YtlaoijfphkhchaaOrb
import Derived.Test.YtlaoijfphkhchaaCol
import Derived.Test.YtlaoijfphkhchaaPrd
namespace Go.Proofs.Ytlaoijfphkhchaa
open Go.RowKit Go.Shelf
attribute [local go_sem] Oper.semAt_some
def encD (x : Nat × Int) : Array Value := #[.int .i64 (x.1 : Int), .int .i64 x.2]
/-- What has been yielded when j numbers are looked at. -/
def divL (n : Nat) : Nat → List (Nat × Int)
  | 0 => []
  | j + 1 => divL n j ++ if n % (j + 1) = 0 then [(j + 1, muN (n / (j + 1)))] else []
def GDiv (n : Nat) (pre : List (Nat × Int)) (x : Nat × Int) (_ : World) : Prop := ∃ j, j < n ∧ n % (j + 1) = 0 ∧ pre = divL n j ∧ x = (j + 1, muN (n / (j + 1)))
/-- What a round keeps: what lies below B, and the iterator's box. -/
def KpDiv (B Bn : Nat) (W W' : World) : Prop := Below B W W' ∧ W'.heap[Bn]? = W.heap[Bn]?
theorem KpDiv.trans {B Bn : Nat} {X Y Z : World} (h : KpDiv B Bn X Y) (k : KpDiv B Bn Y Z) : KpDiv B Bn X Z := ⟨h.1.trans k.1, k.2.trans h.2⟩
/-- The inner loop: the sign of what is left. -/
def muL : Nat → Nat → Nat → Int → Option Int
  | 0, _, _, _ => none
  | f + 1, p, r, s => if r ≤ 1 then some s else if r % p ≠ 0 then muL f (p + 1) r s else if r / p % p = 0 then some 0 else muL f (p + 1) (r / p) (-s)
theorem nat_rem (n d : Nat) : ((n : Int) % (d : Int)) = ((n % d : Nat) : Int) := rfl
theorem nat_quo (n d : Nat) : ((n : Int) / (d : Int)) = ((n / d : Nat) : Int) := rfl
theorem rem_ne {n d : Nat} (h : n % d ≠ 0) : (((n : Int) % (d : Int)) != 0) = true := by rw [nat_rem, bne_iff_ne]; omega
theorem rem_eq {n d : Nat} (h : n % d = 0) : (((n : Int) % (d : Int)) != 0) = false := by rw [nat_rem, h]; rfl
theorem rem_eqT {n d : Nat} (h : n % d = 0) : (((n : Int) % (d : Int)) == 0) = true := by rw [nat_rem, h]; rfl
theorem rem_eqF {n d : Nat} (h : n % d ≠ 0) : (((n : Int) % (d : Int)) == 0) = false := by rw [nat_rem, beq_eq_false_iff_ne]; omega
theorem quo_wrap {n d : Nat} (h : n ≤ 100000) : IntKind.i64.wrap ((n : Int) / (d : Int)) = ((n / d : Nat) : Int) ∧ wrap64 ((n : Int) / (d : Int)) = ((n / d : Nat) : Int) := by
  have h2 : n / d ≤ n := Nat.div_le_self n d
  have h3 : ((n : Int) / (d : Int)) = ((n / d : Nat) : Int) := rfl
  rw [h3]
  obtain ⟨q, hq⟩ : ∃ q, n / d = q := ⟨_, rfl⟩
  rw [hq] at h2 ⊢
  exact ⟨IntWalk.i64_in _ (by omega), IntWalk.wrap64_in _ (by omega)⟩
theorem muL_start : ∀ m, m < 13 → 0 < m → muL 20 2 m 1 = some (muN m) := by decide +kernel
theorem divisors_any (n : Int) (w : World) :
    Calls Try.prog 45 #[.int .i64 n] w fun e w' => e = .returned (.func (.func 84) #[] #[.pointer (some ⟨w.heap.size, 0, none⟩)]) ∧ w' = w.alloc (.cells #[.int .i64 n] 3) := by
  go_enter Try.func45, Try.ntmps45
  go_wp2
  go_ret
  exact ⟨rfl, rfl⟩
set_option maxRecDepth 100000 in
set_option maxHeartbeats 8000000 in
theorem div1_in (l B Bn n : Nat) (J Jx : List (Nat × Int) → World → Prop) (hJ : AbT (fun _ _ => False) J)
    (hY : ∀ pre x W1, J pre W1 → GDiv n pre x W1 → YieldAt Fence.wide 2 Try.prog l (encD x) W1 fun e W' => (e = .returned (.bool true) ∧ J (pre ++ [x]) W' ∧ KpDiv B Bn W1 W') ∨ (e = .returned (.bool false) ∧ Jx (pre ++ [x]) W'))
    (w0 W : World) (hW : Below B w0 W) (hm : Boxed W Bn 3 (.int .i64 (n : Int))) (hn : n ≤ 12) (h0 : J [] W) :
    CallsIn Fence.wide 3 Try.prog 84 #[.func (.yield l) #[] #[], .pointer (some ⟨Bn, 0, none⟩)] W fun e W' => (∃ v, e = .returned v) ∧ ((∃ xs, xs = divL n n ∧ J xs W') ∨ ∃ pre, Jx pre W') := by
  refine callsIn_of_wp Try.func84 rfl trivial ?_ rfl
  simp only [Try.ntmps84, List.size_toArray, List.length_cons, List.length_nil, Nat.reduceAdd, Nat.reduceSub, Array.replicate_succ, Array.replicate_zero, List.push_toArray, List.append_toArray, List.nil_append, List.cons_append]
  have hmc := hm.cell
  have HY := Lib.hid hY
  have HJA := Lib.hid hJ
  clear hY hJ
  refine wpIn_wide.2 ?_
  go_wp2
  go_loopw [3] (fun v wr => ∃ d : Nat, 1 ≤ d ∧ d ≤ n + 1 ∧ v = .int .i64 (d : Nat) ∧ Hid (Below B w0 wr) ∧ Hid (J (divL n (d - 1)) wr) ∧ Hid (Boxed wr Bn 3 (.int .i64 (n : Int)))) (fun v _ => n + 1 - (intOf v).toNat)
  case atStart => exact ⟨1, by omega, by omega, by go_num, Lib.hid hW, Lib.hid h0, Lib.hid hm⟩
  case round =>
    clear hmc hm h0 hW
    obtain ⟨d, hd1, hdn, rfl, Hb, HJ1, Hm⟩ := hrel
    have hmc := Hm.out.cell
    by_cases hlt : d ≤ n
    · have d1 : (d : Int) ≤ (n : Int) := by omega
      have d0 : ((d : Int) == 0) = false := by rw [beq_eq_false_iff_ne]; omega
      have d2 : ¬ (d : Int) = 0 := by omega
      have n0 : (0 : Int) ≤ (n : Int) := by omega
      have dp : (0 : Int) < (d : Int) := by omega
      by_cases hrem : n % d = 0
      rotate_left 1
      · have r1 := rem_ne hrem
        have HJ2 : Hid (J (divL n d) wr) := Lib.hid (by
          have h := HJ1.out
          obtain ⟨j, rfl⟩ : ∃ j, d = j + 1 := ⟨d - 1, by omega⟩
          rw [divL, if_neg hrem, List.append_nil]
          exact h)
        clear hrem
        go_wp2
        go_roundw
        case rel => exact ⟨d + 1, by omega, by omega, by go_num, Hb, HJ2, Hm⟩
        case measure => simp [intOf]; omega
      have r1 := rem_eq hrem
      obtain ⟨m, hm⟩ : ∃ m, n / d = m := ⟨_, rfl⟩
      have hm0 : 0 < m := by rw [← hm]; exact Nat.div_pos hlt (by omega)
      have hm13 : m < 13 := by
        have : n / d ≤ n := Nat.div_le_self n d
        omega
      obtain ⟨M, hM⟩ : ∃ M, muN m = M := ⟨_, rfl⟩
      have HMs : Hid (muL 20 2 m 1 = some M) := Lib.hid (by rw [← hM]; exact muL_start m hm13 hm0)
      have HGd : Hid (GDiv n (divL n (d - 1)) (d, M) wr) := Lib.hid ⟨d - 1, by omega, by rw [Nat.sub_add_cancel hd1]; exact hrem, rfl, by rw [Nat.sub_add_cancel hd1, hm, hM]⟩
      have HJn : Hid (divL n (d - 1) ++ [(d, M)] = divL n d) := Lib.hid (by
        obtain ⟨j, rfl⟩ : ∃ j, d = j + 1 := ⟨d - 1, by omega⟩
        rw [divL, if_pos hrem, Nat.add_sub_cancel, hm, hM])
      have hqq : IntKind.i64.wrap ((n : Int) / (d : Int)) = (m : Int) ∧ wrap64 ((n : Int) / (d : Int)) = (m : Int) := by rw [← hm]; exact quo_wrap (by omega)
      have Hqq := Lib.hid hqq
      clear hqq hm hM hrem
      go_upto_region 4 with (fail)
      obtain ⟨q1, q2⟩ := Hqq.out
      go_region
      go_wp2
      clear q1 q2 r1
      have HJd : Hid (J (divL n (d - 1)) wr.drew) := Lib.hid (HJA.out _ _ _ none HJ1.out (below_grown0 ((Below.refl _ _).drew)) (fun r e => by cases e))
      have Hbd : Hid (Below B w0 wr.drew) := Lib.hid Hb.out.drew
      have Hmd : Hid (Boxed wr.drew Bn 3 (.int .i64 (n : Int))) := Lib.hid Hm.out
      clear HJ1 Hb Hm hmc Hqq
      generalize wr.drew = V at *
      have HGd2 : Hid (∀ W, GDiv n (divL n (d - 1)) (d, M) W) := Lib.hid (fun _ => HGd.out)
      clear HGd
      go_loopg [4, 5, 6] 20 (fun g sv rv pv wr => ∃ (f r q : Nat) (s : Int), sv = .int .i64 s ∧ rv = .int .i64 (r : Nat) ∧ pv = .int .i64 (q : Nat) ∧ f ≤ g ∧ 2 ≤ q ∧ q + f ≤ 22 ∧ r ≤ 12 ∧ (s = 1 ∨ s = -1) ∧ Hid (muL f q r s = some M) ∧ Hid (J (divL n (d - 1)) wr) ∧ Hid (Below B w0 wr) ∧ Hid (Boxed wr Bn 3 (.int .i64 (n : Int))))
      case atStart => exact ⟨20, m, 2, 1, by go_num, by go_num, by go_num, by omega, by omega, by omega, by omega, .inl rfl, HMs, HJd, Hbd, Hmd⟩
      case round =>
        clear HMs HJd Hbd Hmd
        obtain ⟨f, r, q, s, rfl, rfl, rfl, hf, hq2, hqf, hr, hs, HMu, HJ1, Hb, Hm⟩ := hrel
        by_cases hr1 : r ≤ 1
        · have r1 : ¬ (r : Int) > 1 := by omega
          have hsM : s = M := by
            have h := HMu.out
            cases f with
            | zero => cases h
            | succ f => rw [muL, if_pos hr1] at h; exact Option.some.inj h
          subst hsM
          clear HMu hs
          go_upto_region 13 with (fail)
          obtain ⟨fn, tmps, assign, body, hyl, hR⟩ := HY.out (divL n (d - 1)) (d, s) _ HJ1.out (HGd2.out _)
          dsimp only [encD] at hyl
          have HR := Lib.hid hR
          clear hR
          refine (wpIn_wide (n := 3)).1 ?_
          gi_wp2
          refine HR.out.mono ?_
          rintro e W3 (⟨rfl, hJ3, hk3⟩ | ⟨rfl, hJx3⟩)
          · have HJ3 : Hid (J (divL n d) W3) := Lib.hid (by rw [← HJn.out]; exact hJ3)
            have Hb3 := Lib.hid (Hb.out.trans hk3.1)
            have Hm3 : Hid (Boxed W3 Bn 3 (.int .i64 (n : Int))) := Lib.hid (hk3.2.trans Hm.out)
            clear hJ3 hk3 hyl
            gi_wp2
            go_wp2
            go_roundw
            case rel => exact ⟨d + 1, by omega, by omega, by go_num, Hb3, HJ3, Hm3⟩
            case measure => simp [intOf]; omega
          · have HJx := Lib.hid hJx3
            clear hJx3
            gi_wp2
            go_wp2
            refine bodyPost_ret (results_none rfl _ _ _) rfl ?_
            exact ⟨⟨_, rfl⟩, .inr ⟨_, HJx.out⟩⟩
        · have r1 : (r : Int) > 1 := by omega
          have q0 : ((q : Int) == 0) = false := by rw [beq_eq_false_iff_ne]; omega
          have q3 : ¬ (q : Int) = 0 := by omega
          have rp : (0 : Int) ≤ (r : Int) := by omega
          have qp : (0 : Int) < (q : Int) := by omega
          have wq : IntKind.i64.wrap ((q : Int) + 1) = (q : Int) + 1 := IntWalk.i64_in _ (by omega)
          obtain ⟨f', rfl⟩ : ∃ f', f = f' + 1 := by
            cases f with
            | zero => exact absurd HMu.out (by simp [muL])
            | succ f => exact ⟨f, rfl⟩
          by_cases hrq : r % q = 0
          rotate_left 1
          · have t1 := rem_ne hrq
            have HMu2 : Hid (muL f' (q + 1) r s = some M) := Lib.hid (by
              have h := HMu.out
              rw [muL, if_neg hr1, if_pos hrq] at h
              exact h)
            clear hrq HMu
            go_wp2
            go_roundg f'
            case rel => exact ⟨f', r, q + 1, s, rfl, rfl, by go_num, by omega, by omega, by omega, by omega, hs, HMu2, HJ1, Hb, Hm⟩
            case measure => omega
          have t1 := rem_eq hrq
          obtain ⟨r2, hr2⟩ : ∃ r2, r / q = r2 := ⟨_, rfl⟩
          have hr2l : r2 ≤ 12 := by
            have : r / q ≤ r := Nat.div_le_self r q
            omega
          have Hqq : Hid (IntKind.i64.wrap ((r : Int) / (q : Int)) = (r2 : Int) ∧ wrap64 ((r : Int) / (q : Int)) = (r2 : Int)) := Lib.hid (by rw [← hr2]; exact quo_wrap (by omega))
          have r2p : (0 : Int) ≤ (r2 : Int) := by omega
          by_cases hrr : r2 % q = 0
          · have t2 := rem_eqT hrr
            have hM0 : M = 0 := by
              have h := HMu.out
              rw [muL, if_neg hr1, if_neg (by omega), hr2, if_pos hrr] at h
              exact (Option.some.inj h).symm
            subst hM0
            clear HMu hrq hrr hr2
            obtain ⟨q8, q9⟩ := Hqq.out
            rcases hs with rfl | rfl
            · go_upto_region 11 with (fail)
              clear q8 q9
              go_upto_region 13 with (fail)
              obtain ⟨fn, tmps, assign, body, hyl, hR⟩ := HY.out (divL n (d - 1)) (d, 0) _ HJ1.out (HGd2.out _)
              dsimp only [encD] at hyl
              have HR := Lib.hid hR
              clear hR
              refine (wpIn_wide (n := 3)).1 ?_
              gi_wp2
              refine HR.out.mono ?_
              rintro e W3 (⟨rfl, hJ3, hk3⟩ | ⟨rfl, hJx3⟩)
              · have HJ3 : Hid (J (divL n d) W3) := Lib.hid (by rw [← HJn.out]; exact hJ3)
                have Hb3 := Lib.hid (Hb.out.trans hk3.1)
                have Hm3 : Hid (Boxed W3 Bn 3 (.int .i64 (n : Int))) := Lib.hid (hk3.2.trans Hm.out)
                clear hJ3 hk3 hyl
                gi_wp2
                go_wp2
                go_roundw
                case rel => exact ⟨d + 1, by omega, by omega, by go_num, Hb3, HJ3, Hm3⟩
                case measure => simp [intOf]; omega
              · have HJx := Lib.hid hJx3
                clear hJx3
                gi_wp2
                go_wp2
                refine bodyPost_ret (results_none rfl _ _ _) rfl ?_
                exact ⟨⟨_, rfl⟩, .inr ⟨_, HJx.out⟩⟩
            · go_upto_region 11 with (fail)
              clear q8 q9
              go_upto_region 13 with (fail)
              obtain ⟨fn, tmps, assign, body, hyl, hR⟩ := HY.out (divL n (d - 1)) (d, 0) _ HJ1.out (HGd2.out _)
              dsimp only [encD] at hyl
              have HR := Lib.hid hR
              clear hR
              refine (wpIn_wide (n := 3)).1 ?_
              gi_wp2
              refine HR.out.mono ?_
              rintro e W3 (⟨rfl, hJ3, hk3⟩ | ⟨rfl, hJx3⟩)
              · have HJ3 : Hid (J (divL n d) W3) := Lib.hid (by rw [← HJn.out]; exact hJ3)
                have Hb3 := Lib.hid (Hb.out.trans hk3.1)
                have Hm3 : Hid (Boxed W3 Bn 3 (.int .i64 (n : Int))) := Lib.hid (hk3.2.trans Hm.out)
                clear hJ3 hk3 hyl
                gi_wp2
                go_wp2
                go_roundw
                case rel => exact ⟨d + 1, by omega, by omega, by go_num, Hb3, HJ3, Hm3⟩
                case measure => simp [intOf]; omega
              · have HJx := Lib.hid hJx3
                clear hJx3
                gi_wp2
                go_wp2
                refine bodyPost_ret (results_none rfl _ _ _) rfl ?_
                exact ⟨⟨_, rfl⟩, .inr ⟨_, HJx.out⟩⟩
          · have t2 := rem_eqF hrr
            have HMu2 : Hid (muL f' (q + 1) r2 (-s) = some M) := Lib.hid (by
              have h := HMu.out
              rw [muL, if_neg hr1, if_neg (by omega), hr2, if_neg hrr] at h
              exact h)
            clear HMu hrq hrr hr2
            rcases hs with rfl | rfl
            · obtain ⟨q8, q9⟩ := Hqq.out
              go_upto_region 11 with (fail)
              clear q8 q9
              go_wp2
              go_roundg f'
              case rel => exact ⟨f', r2, q + 1, -1, by go_num, by go_num, by go_num, by omega, by omega, by omega, by omega, .inr rfl, HMu2, HJ1, Hb, Hm⟩
              case measure => omega
            · obtain ⟨q8, q9⟩ := Hqq.out
              go_upto_region 11 with (fail)
              clear q8 q9
              go_wp2
              go_roundg f'
              case rel => exact ⟨f', r2, q + 1, 1, by go_num, by go_num, by go_num, by omega, by omega, by omega, by omega, .inl rfl, HMu2, HJ1, Hb, Hm⟩
              case measure => omega
    · have d1 : ¬ (d : Int) ≤ (n : Int) := by omega
      have hde : d - 1 = n := by omega
      rw [hde] at HJ1
      clear hde
      go_wp2
      go_end0
      exact ⟨⟨_, rfl⟩, .inl HJ1.out⟩
end Go.Proofs.Ytlaoijfphkhchaa
