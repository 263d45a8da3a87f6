/- polynomial.term: the text of a term, and the walk. -/
import Derived.Test.YtmbamcpndbimaaaGreatDoorJ18
import Derived.Test.YtmbamcpndbimaaaGreatDoorJ5
import Derived.Laws.StructEq
import Derived.Test.YtmbamcpndbimaaaGreatDoorJ7
import Derived.Shelf.RegionOpen
import Derived.WalkKit
import Derived.WalkSpells
import Derived.WalkLawsBesides
import Derived.TacticsInMore
import Derived.LoopNIn
import Derived.LoopIn
import Derived.Deep.CutBlock
import Derived.Deep.DeepFit
import Derived.KernelRfl
import Derived.Lib.Hide
import Derived.Outline
namespace Go.Proofs.YtmbamcpndbimaaaGreatDoor
open Go.RowKit
theorem decL_len_le : ∀ (v k : Nat), v < 10 ^ k → (decL v).length ≤ k := by
 intro v
 induction v using Nat.strongRecOn with
 | ind v ih =>
  intro k hk
  by_cases h : v < 1000000000
  ·rw [decL_lt h, pad_len]; exact ndg_le k v hk
  ·rw [decL_ge h, List.length_append, pad_len]
   have h9 : 9 ≤ k := by
    apply Nat.le_of_not_lt
    intro h8
    have h1 : 10 ^ k ≤ 10 ^ 8 := Nat.pow_le_pow_right (by decide) (by omega)
    omega
   obtain ⟨j, rfl⟩ : ∃ j, k = j + 9 := ⟨k - 9, by omega⟩
   have h2 := ih (v / 1000000000) (by omega) j (by rw [Nat.pow_add] at hk; omega)
   omega
def prI (x : Int) : List UInt8 := if x = 0 then [48] else (if x < 0 then [45] else []) ++ decL x.natAbs
theorem prI_canon (x : Int) : prL (canon x) = prI x := by
 unfold prL prI
 rw [absZ_canon]
 by_cases h : x = 0
 ·rw [if_pos (by omega), if_pos h]
 ·rw [if_neg (by omega), if_neg h]
  by_cases h2 : x < 0 <;> simp [canon, h2]
theorem canon_abs (x : Int) : (⟨false, (canon x).mag⟩ : ZI) = canon (x.natAbs : Int) := by
 unfold canon
 rw [show decide ((x.natAbs : Int) < 0) = false from decide_eq_false (by omega), Int.natAbs_natCast]
theorem pr_abs (x : Int) : prL ⟨false, (canon x).mag⟩ = prI (x.natAbs : Int) := by rw [← prI_canon, canon_abs]
theorem prI_nat_len {v k : Nat} (h : v < 256 ^ k) : (prI v).length ≤ 3 * k + 1 := by
 unfold prI
 split
 ·simp
 ·rw [if_neg (by omega), List.nil_append]
  have h1 : v < 10 ^ (3 * k) := by
   rw [Nat.pow_mul]
   exact Nat.lt_of_lt_of_le h (Nat.pow_le_pow_left (by decide) k)
  have := decL_len_le _ _ h1
  rw [Int.natAbs_natCast]
  omega
def powL (n : Nat) : List UInt8 := if n = 1 then [120] else [120, 94] ++ Lib.decDigits n
def termL (n v : Nat) : List UInt8 := if n = 0 then prI v else if v = 1 then powL n else prI v ++ [42] ++ powL n
theorem dec1_len (n : Nat) (h : n < 10) : (Lib.decDigits n).length = 1 := by
 rw [Lib.decDigits, dif_pos h]; rfl
theorem dec2_len (n : Nat) (h : n < 100) : (Lib.decDigits n).length ≤ 2 := by
 by_cases h1 : n < 10
 ·rw [dec1_len n h1]; decide
 ·rw [Lib.decDigits, dif_neg h1, List.length_append, dec1_len _ (by omega)]; simp
theorem powL_len {n : Nat} (h : n < 100) : (powL n).length ≤ 4 := by
 unfold powL
 split
 ·simp
 ·have := dec2_len n h
  rw [List.length_append]; simp; omega
theorem termL_len {n v k : Nat} (hn : n < 100) (h : v < 256 ^ k) : (termL n v).length ≤ 3 * k + 6 := by
 have h1 := prI_nat_len h
 have h2 := powL_len hn
 unfold termL
 split
 ·omega
 ·split
  ·omega
  ·simp only [List.length_append, List.length_cons, List.length_nil]; omega
theorem mag_one (x : Int) : ((canon x).mag.data.toList == [1]) = decide (x.natAbs = 1) := by
 rw [Bool.eq_iff_iff, beq_iff_eq, decide_eq_true_eq]
 constructor
 ·intro h
  have h1 := absZ_canon x
  unfold absZ at h1
  rw [h] at h1
  rw [← h1]; rfl
 ·intro h
  show (beb x.natAbs) = [1]
  rw [h]; rfl
set_option maxRecDepth 100000 in
set_option maxHeartbeats 8000000 in
theorem term_any (n : Nat) (x : Int) (hn : n < 100) (hz : (canon x).mag.size ≤ 1000000) (w : World) :
  Calls Tryz.prog 41 #[.int .i64 (n : Int), .agg #[.bool (canon x).neg, .string (canon x).mag]] w fun e w' => e = .returned (.string ⟨(termL n x.natAbs).toArray⟩) ∧ Below w.heap.size w w' := by
 have hpr := fun W => print_any ⟨false, (canon x).mag⟩ hz W
 rw [pr_abs x] at hpr
 have hv : x.natAbs < 256 ^ (canon x).mag.size := by
  have := absZ_lt (canon x)
  rwa [absZ_canon] at this
 have hpl := prI_nat_len hv
 have hpw := powL_len hn
 have hof : ∀ W, Calls Tryz.prog 38 #[.int .i64 1] W fun e w' => e = .returned (.agg #[.bool false, .string ⟨#[1]⟩]) ∧ Below W.heap.size W w' := fun W => of_any 1 (by decide) (by decide) W
 have h1 := mag_one x
 have z1 : ({data := #[42]} : ByteArray).size = 1 := rfl
 have z2 : ({data := #[120, 94]} : ByteArray).size = 2 := rfl
 have z3 : ({data := #[120]} : ByteArray).size = 1 := rfl
 have hIt := fun W => Tryz.strconv_Itoa_small n hn W
 obtain ⟨P, hP⟩ : ∃ P : ByteArray, (⟨(prI (x.natAbs : Int)).toArray⟩ : ByteArray) = P := ⟨_, rfl⟩
 obtain ⟨D, hD⟩ : ∃ P : ByteArray, (⟨(Lib.decDigits n).toArray⟩ : ByteArray) = P := ⟨_, rfl⟩
 obtain ⟨M, hM⟩ : ∃ M, (canon x).mag = M := ⟨_, rfl⟩
 obtain ⟨g, hg⟩ : ∃ g, (canon x).neg = g := ⟨_, rfl⟩
 obtain ⟨b1, hb1⟩ : ∃ b, decide (x.natAbs = 1) = b := ⟨_, rfl⟩
 have hPs : P.size ≤ 4000000 := by rw [← hP]; simp [ByteArray.size]; omega
 have hDs : D.size ≤ 2 := by have := dec2_len n hn; rw [← hD]; simp [ByteArray.size]; omega
 have hT : (⟨(termL n x.natAbs).toArray⟩ : ByteArray) = if n = 0 then P else if n = 1 then (if b1 = true then ⟨#[120]⟩ else P ++ ⟨#[42]⟩ ++ ⟨#[120]⟩) else if b1 = true then (⟨#[120, 94]⟩ ++ D) else P ++ ⟨#[42]⟩ ++ (⟨#[120, 94]⟩ ++ D) := by
  unfold termL powL
  rw [← hP, ← hD, ← hb1]
  simp only [decide_eq_true_eq]
  by_cases h0 : n = 0
  ·rw [if_pos h0, if_pos h0]
  ·rw [if_neg h0, if_neg h0]
   by_cases h2 : x.natAbs = 1 <;> by_cases h3 : n = 1 <;> simp only [h2, h3, if_true, if_false] <;> (apply ByteArray.ext; simp)
 rw [hP] at hpr
 dsimp only at hpr
 rw [hD] at hIt
 rw [hM] at hpr h1 hz ⊢
 rw [hb1] at h1
 rw [hg]
 have HT := lhd hT
 have HPr := lhd hpr
 have HOf := lhd hof
 have HIt := lhd hIt
 have hal := (Below.refl w.heap.size w).alloc (Nat.le_refl _) (.cells #[.bool false, .string M] 24)
 have hbx := BoxAt.new w (.bool false) (.string M) 24
 have hby := BoxAt.new w (.bool g) (.string M) 24
 obtain ⟨y0, y1, y2, y3, y4⟩ := hby
 have Hb0 := lhd hal
 have Hbx := lhd hbx
 clear hpr hof hIt hP hD hM hg hb1 hv hT hal hpl hpw hbx
 generalize hRg : (⟨(termL n x.natAbs).toArray⟩ : ByteArray) = RES at *
 clear hRg
 go_enter Tryz.func41, Tryz.ntmps41
 go_upto_region 2 with (fail)
 have hbx := Hbx.out
 clear Hbx
 generalize w.alloc (.cells #[.bool false, .string M] 24) = X at *
 have Hbx := lhd hbx
 obtain ⟨x0, x1, _, _, hxl⟩ := hbx
 clear y0 y1 y2 y3 y4
 by_cases n0 : n = 0
 ·subst n0
  go_wp2_with fail
  refine (HPr.out _).mono ?_
  rintro e2 w2 ⟨rfl, hb2⟩
  dsimp only
  have Hb2 := lhd (Hb0.out.trans (hb2.mono Hb0.out.size))
  clear hb2
  go_wp2_with fail
  go_ret
  exact ⟨by rw [HT.out]; simp, Hb2.out⟩
 have n0I : ¬ (n : Int) = 0 := by omega
 have h2 : (M.toList == [1]) = b1 := by rw [ByteArray.toList_eq]; exact h1
 have h3 : (M.toList == ({data := #[1]} : ByteArray).toList) = b1 := by rw [ByteArray.toList_eq, ByteArray.toList_eq]; exact h1
 by_cases n1 : n = 1
 ·subst n1
  go_upto_region 9 with (fail)
  obtain ⟨PW, hPW⟩ : ∃ s : ByteArray, ({data := #[120]} : ByteArray) = s := ⟨_, rfl⟩
  have hPWs : PW.size ≤ 4 := by rw [← hPW]; (try rw [ByteArray.size_append]); omega
  try rw [hPW]
  have HPW := lhd hPW
  clear hPW
  cases b1 with
  | true =>
   go_region_held3 (fun w' => w'.cell? ⟨w.heap.size, 0, none⟩ = some (.bool false) ∧ w'.cell? ⟨w.heap.size, 1, none⟩ = some (.string M)) (go_keep)
    (first
     | (go_at_call 38; go_fit (HOf.out _); rintro e wa ⟨rfl, hb⟩; have Hwa := lhd (show Below X.heap.size X wa from Below.trans (by repeat (first | exact Below.refl _ _ | refine Below.drew ?_ | refine below_dr ?_)) (hb.mono (Nat.le_refl _))); have HA2 := lhd (Hbx.out.below Hwa.out hxl); obtain ⟨d0, d1, _, _, _⟩ := HA2.out; clear hb))
   all_goals
    go_wp2_with fail
    go_ret
    exact ⟨by rw [HT.out, ← HPW.out]; simp [n0], Hb0.out.trans (Hwa.out.mono Hb0.out.size)⟩
  | false =>
   have s1 : ¬ 9223372036854775807 < P.size + ({data := #[42]} : ByteArray).size := by omega
   have s2 : ¬ 9223372036854775807 < (P ++ ({data := #[42]} : ByteArray)).size + PW.size := by rw [ByteArray.size_append]; omega
   go_region_held3 (fun w' => w'.cell? ⟨w.heap.size, 0, none⟩ = some (.bool false) ∧ w'.cell? ⟨w.heap.size, 1, none⟩ = some (.string M)) (go_keep)
    (first
     | (go_at_call 38; go_fit (HOf.out _); rintro e wa ⟨rfl, hb⟩; have Hwa := lhd (show Below X.heap.size X wa from Below.trans (by repeat (first | exact Below.refl _ _ | refine Below.drew ?_ | refine below_dr ?_)) (hb.mono (Nat.le_refl _))); have HA2 := lhd (Hbx.out.below Hwa.out hxl); obtain ⟨d0, d1, _, _, _⟩ := HA2.out; clear hb))
   all_goals
    go_wp2_with fail
    refine (HPr.out _).mono ?_
    rintro e3 w3 ⟨rfl, hb3⟩
    dsimp only
    have Hb3 := lhd (Hwa.out.trans (hb3.mono Hwa.out.size))
    clear hb3
    go_wp2_with fail
    go_ret
    exact ⟨by rw [HT.out, ← HPW.out]; simp [n0], Hb0.out.trans (Hb3.out.mono Hb0.out.size)⟩
 ·have n1I : ¬ (n : Int) = 1 := by omega
  have s0 : ¬ 9223372036854775807 < ({data := #[120, 94]} : ByteArray).size + D.size := by omega
  go_upto_region 9 with (fail)
  refine (HIt.out _).mono ?_
  rintro e1 w1 ⟨rfl, hw1⟩
  obtain rfl : X = w1 := hw1.symm
  dsimp only
  go_upto_region 9 with (fail)
  obtain ⟨PW, hPW⟩ : ∃ s : ByteArray, (({data := #[120, 94]} : ByteArray) ++ D) = s := ⟨_, rfl⟩
  have hPWs : PW.size ≤ 4 := by rw [← hPW]; (try rw [ByteArray.size_append]); omega
  try rw [hPW]
  have HPW := lhd hPW
  clear hPW
  cases b1 with
  | true =>
   go_region_held3 (fun w' => w'.cell? ⟨w.heap.size, 0, none⟩ = some (.bool false) ∧ w'.cell? ⟨w.heap.size, 1, none⟩ = some (.string M)) (go_keep)
    (first
     | (go_at_call 38; go_fit (HOf.out _); rintro e wa ⟨rfl, hb⟩; have Hwa := lhd (show Below X.heap.size X wa from Below.trans (by repeat (first | exact Below.refl _ _ | refine Below.drew ?_ | refine below_dr ?_)) (hb.mono (Nat.le_refl _))); have HA2 := lhd (Hbx.out.below Hwa.out hxl); obtain ⟨d0, d1, _, _, _⟩ := HA2.out; clear hb))
   all_goals
    go_wp2_with fail
    go_ret
    exact ⟨by rw [HT.out, ← HPW.out]; simp [n0, n1], Hb0.out.trans (Hwa.out.mono Hb0.out.size)⟩
  | false =>
   have s1 : ¬ 9223372036854775807 < P.size + ({data := #[42]} : ByteArray).size := by omega
   have s2 : ¬ 9223372036854775807 < (P ++ ({data := #[42]} : ByteArray)).size + PW.size := by rw [ByteArray.size_append]; omega
   go_region_held3 (fun w' => w'.cell? ⟨w.heap.size, 0, none⟩ = some (.bool false) ∧ w'.cell? ⟨w.heap.size, 1, none⟩ = some (.string M)) (go_keep)
    (first
     | (go_at_call 38; go_fit (HOf.out _); rintro e wa ⟨rfl, hb⟩; have Hwa := lhd (show Below X.heap.size X wa from Below.trans (by repeat (first | exact Below.refl _ _ | refine Below.drew ?_ | refine below_dr ?_)) (hb.mono (Nat.le_refl _))); have HA2 := lhd (Hbx.out.below Hwa.out hxl); obtain ⟨d0, d1, _, _, _⟩ := HA2.out; clear hb))
   all_goals
    go_wp2_with fail
    refine (HPr.out _).mono ?_
    rintro e3 w3 ⟨rfl, hb3⟩
    dsimp only
    have Hb3 := lhd (Hwa.out.trans (hb3.mono Hwa.out.size))
    clear hb3
    go_wp2_with fail
    go_ret
    exact ⟨by rw [HT.out, ← HPW.out]; simp [n0, n1], Hb0.out.trans (Hb3.out.mono Hb0.out.size)⟩
open Go.RowKit Go.Shelf
attribute [local go_sem] Oper.semAt_some
theorem descending_any (q : Option Addr) (n cq : Nat) (w : World) :
  Calls Tryz.prog 21 #[.slice q n cq] w fun e w' => e = .returned (.func (.func 45) #[] #[.pointer (some ⟨w.heap.size, 0, none⟩)]) ∧ w' = w.alloc (.cells #[.slice q n cq] 22) := by
 go_enter Tryz.func21, Tryz.ntmps21
 go_wp2
 go_ret
 exact ⟨rfl, rfl⟩
def encD (x : Nat × Int) : Array Value := #[.int .i64 (x.1 : Int), .agg #[.bool (canon x.2).neg, .string (canon x.2).mag]]
def desL (F : Nat → Int) (n k : Nat) : List (Nat × Int) := (List.range (n - k)).map fun t => (n - 1 - t, F (n - 1 - t))
theorem desL_succ (F : Nat → Int) {n k : Nat} (h : k < n) : desL F n k = desL F n (k + 1) ++ [(k, F k)] := by
 unfold desL
 rw [show n - k = (n - (k + 1)) + 1 from by omega, List.range_succ, List.map_append, show n - (k + 1) = n - 1 - k from by omega]
 simp [show n - 1 - (n - 1 - k) = k from by omega]
theorem desL_top (F : Nat → Int) (n : Nat) : desL F n n = [] := by simp [desL]
theorem desL_inj {F : Nat → Int} {n a b : Nat} (ha : a ≤ n) (hb : b ≤ n) (h : desL F n a = desL F n b) : a = b := by
 have := congrArg List.length h
 simp [desL] at this
 omega
def GDes (F : Nat → Int) (n : Nat) (pre : List (Nat × Int)) (x : Nat × Int) (_ : World) : Prop := ∃ k, k < n ∧ pre = desL F n (k + 1) ∧ x = (k, F k)
set_option maxRecDepth 100000 in
set_option maxHeartbeats 4000000 in
theorem des1_in (l Bm n : Nat) (q : Option Addr) (cq : Nat) (F : Nat → Int) (J Jx : List (Nat × Int) → World → Prop) (Kp : World → World → Prop) (K : World → Prop) (hK1 : ∀ W, K W → RowF W q n F ∧ Boxed W Bm 22 (.slice q n cq)) (hK2 : ∀ A B, K A → Kp A B → K B)
  (hY : ∀ pre x W1, J pre W1 → GDes F n pre x W1 → YieldAt Fence.wide 2 Tryz.prog l (encD x) W1 fun e W' => (e = .returned (.bool true) ∧ J (pre ++ [x]) W' ∧ Kp W1 W') ∨ (e = .returned (.bool false) ∧ Jx (pre ++ [x]) W'))
  (W : World) (hW : K W) (hn : n ≤ 1000000) (h0 : J [] W) :
  CallsIn Fence.wide 3 Tryz.prog 45 #[.func (.yield l) #[] #[], .pointer (some ⟨Bm, 0, none⟩)] W fun e W' => (∃ v, e = .returned v) ∧ ((∃ xs, xs = desL F n 0 ∧ J xs W') ∨ ∃ pre, Jx pre W') := by
 refine callsIn_of_wp Tryz.func45 rfl trivial ?_ rfl
 simp only [Tryz.ntmps45, List.size_toArray, List.length_cons, List.length_nil, Nat.reduceAdd, Nat.reduceSub, Array.replicate_succ, Array.replicate_zero, List.push_toArray, List.append_toArray, List.nil_append, List.cons_append]
 have hmc := (hK1 W hW).2.cell
 have HY := lhd hY
 have HK1 := lhd hK1
 have HK2 := lhd hK2
 clear hY hK1 hK2
 refine wpIn_wide.2 ?_
 go_wp2
 go_loopw [3] (fun v wr => ∃ j : Nat, j ≤ n ∧ v = .int .i64 ((j : Int) - 1) ∧ Hid (K wr) ∧ Hid (J (desL F n j) wr)) (fun v _ => (intOf v + 1).toNat)
 case atStart => exact ⟨n, Nat.le_refl _, by go_num, lhd hW, lhd (by rw [desL_top]; exact h0)⟩
 case round =>
  clear hmc h0 hW
  obtain ⟨j, hj, rfl, Hb, HJ1⟩ := hrel
  by_cases hj0 : 0 < j
  ·obtain ⟨k, rfl⟩ : ∃ k, j = k + 1 := ⟨j - 1, by omega⟩
   rw [show ((k + 1 : Nat) : Int) - 1 = (k : Int) from by omega]
   have hlt : k < n := by omega
   obtain ⟨hG1, hm1⟩ := HK1.out wr Hb.out
   obtain ⟨bb, bo, rfl, _, hbc⟩ := hG1.cells hlt
   obtain ⟨b3, b4⟩ := hbc k hlt
   have hmc := hm1.cell
   have k0 : (0 : Int) ≤ (k : Int) := by omega
   have k1 : (k : Int) < (n : Int) := by omega
   obtain ⟨fn, tmps, assign, body, hyl, hR⟩ := HY.out (desL F n (k + 1)) (k, F k) wr HJ1.out ⟨k, hlt, rfl, rfl⟩
   dsimp only [encD] at hyl
   have hsuc := desL_succ F hlt
   have HR := lhd hR
   have Hsuc := lhd hsuc
   obtain ⟨Y, hY⟩ : ∃ Y, canon (F k) = Y := ⟨_, rfl⟩
   rw [hY] at b3 b4 hyl
   clear hG1 hm1 hbc hR hsuc hY
   go_upto_region 3 with (fail)
   refine (wpIn_wide (n := 3)).1 ?_
   gi_wp2
   refine HR.out.mono ?_
   rintro e W3 (⟨rfl, hJ3, hk3⟩ | ⟨rfl, hJx3⟩)
   ·have HJ3 : Hid (J (desL F n k) W3) := lhd (by rw [Hsuc.out]; exact hJ3)
    have Hb3 := lhd (HK2.out _ _ Hb.out hk3)
    clear hJ3 hk3 b3 b4 hyl hmc
    gi_wp2
    go_wp2
    go_roundw
    case rel => exact ⟨k, by omega, by go_num, Hb3, HJ3⟩
    case measure => simp [intOf]
   ·have HJx := lhd hJx3
    clear hJx3
    gi_wp2
    go_wp2
    refine bodyPost_ret (results_none rfl _ _ _) rfl ?_
    exact ⟨⟨_, rfl⟩, .inr ⟨_, HJx.out⟩⟩
  ·obtain rfl : j = 0 := by omega
   go_wp2
   go_end0
   exact ⟨⟨_, rfl⟩, .inl ⟨_, rfl, HJ1.out⟩⟩
end Go.Proofs.YtmbamcpndbimaaaGreatDoor
