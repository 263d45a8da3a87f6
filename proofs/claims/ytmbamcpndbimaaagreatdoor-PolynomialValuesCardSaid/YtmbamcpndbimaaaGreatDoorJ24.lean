/- grooveref01: mag and Of of numbers of one digit. -/
import Derived.Test.YtmbamcpndbimaaaGreatDoorJ2
import Derived.Laws.IdiomStrings
import Derived.Test.YtmbamcpndbimaaaGreatDoorJ23
import Derived.Test.YtmbamcpndbimaaaGreatDoorJ3
import Derived.Laws.Strings
namespace Go.Proofs.YtmbamcpndbimaaaGreatDoor
open Go.RowKit
theorem beb_one {n : Nat} (h0 : n ≠ 0) (h : n < 256) : beb n = [UInt8.ofNat n] := by
 rw [beb_pos h0, Nat.div_eq_of_lt h, beb_zero, Nat.mod_eq_of_lt h]; rfl
theorem canon_zero : (canon ((0 : Nat) : Int)).mag = ⟨#[]⟩ := rfl
theorem canon_one {n : Nat} (h0 : n ≠ 0) (h : n < 256) : (canon (n : Int)).mag = ⟨#[UInt8.ofNat n]⟩ := by
 show (⟨(beb (n : Int).natAbs).toArray⟩ : ByteArray) = _
 rw [Int.natAbs_natCast, beb_one h0 h]
theorem canon_nonneg (n : Nat) : (canon (n : Int)).neg = false := by simp [canon]
set_option maxRecDepth 100000 in
set_option maxHeartbeats 4000000 in
theorem refMag_any (n : Nat) (hn : n < 256) (w : World) :
  Calls Tryz.prog 90 #[.int .i64 (n : Int)] w fun e w' => e = .returned (.string (canon (n : Int)).mag) ∧ Below w.heap.size w w' := by
 by_cases h0 : n = 0
 ·subst h0
  rw [canon_zero]
  go_enter Tryz.func90, Tryz.ntmps90
  go_wp2
  go_ret
  exact ⟨rfl, Below.refl _ _⟩
 ·rw [canon_one h0 hn]
  obtain ⟨y, hy⟩ : ∃ y : UInt8, UInt8.ofNat n = y := ⟨_, rfl⟩
  rw [hy]
  have hyn : y.toNat = n := by rw [← hy]; simp; omega
  subst hyn
  have h2 : (y.toNat : Int) < 256 := by omega
  have h3 : ((y.toNat : Int) == 0) = false := by rw [beq_eq_false_iff_ne]; omega
  have hcv := run_convert_bytes_back (P := Tryz.prog) (w.alloc (.cells #[.int .u8 (y.toNat : Int)] 5)) 61 9 5 ⟨w.heap.size, 0, none⟩ 1 [y] Tryz.underlying61 Tryz.underlying5 Tryz.underlying9 (fun j hj => by
   match j, (show j < 1 from hj) with
   | 0, _ => simp [Addr.add])
  have hcv2 : (convert 61 9 (.slice (some ⟨w.heap.size, 0, none⟩) 1 1)).run Tryz.prog (w.alloc (.cells #[.int .u8 (y.toNat : Int)] 5)) = .ok (.string ⟨#[y]⟩) (w.alloc (.cells #[.int .u8 (y.toNat : Int)] 5)) := hcv
  clear hcv hy
  go_enter Tryz.func90, Tryz.ntmps90
  go_wp2
  go_ret
  exact ⟨rfl, (Below.refl _ _).alloc (Nat.le_refl _) _⟩
set_option maxRecDepth 100000 in
set_option maxHeartbeats 4000000 in
theorem refOf_any (n : Nat) (hn : n < 256) (w : World) :
  Calls Tryz.prog 63 #[.int .i64 (n : Int)] w (RetZ (canon (n : Int)) w) := by
 have Hm := lhd (refMag_any n hn)
 have hne := canon_nonneg n
 generalize canon (n : Int) = Z at *
 obtain ⟨N, M⟩ := Z
 dsimp only at *
 subst hne
 have i0 : (0 : Int) ≤ (n : Int) := by omega
 go_enter Tryz.func63, Tryz.ntmps63
 go_wp2_with (go_at_call 90; go_fit (Hm.out _); rintro e w3 ⟨rfl, hb⟩; have Hb3 := lhd hb; have HA := lhd ((BoxAt.new w (.bool false) (.string ⟨#[]⟩) 24).below hb (by simp)); obtain ⟨a0, a1, a2, a3, _⟩ := HA.out; clear hb)
 refine bodyPost_ret (v := .agg #[.bool false, .string M]) ?_ rfl ⟨rfl, ?_⟩
 ·simp [results, Tryz.results63, go_sem, a0, a1]
 ·have hbe : Below w.heap.size w w3 := ((Below.refl _ _).alloc (Nat.le_refl _) _).trans (Hb3.out.mono (by simp))
  exact (hbe.setCell (by simp) _).setCell (by simp) _
set_option maxRecDepth 100000 in
set_option maxHeartbeats 4000000 in
theorem refOfNeg_any (n : Nat) (h0 : 0 < n) (hn : n < 256) (w : World) :
  Calls Tryz.prog 63 #[.int .i64 (-(n : Int))] w (RetZ (canon (-(n : Int))) w) := by
 have Hm := lhd (refMag_any n hn)
 have hne : (canon (-(n : Int))).neg = true := by
  show decide (-(n : Int) < 0) = true
  rw [decide_eq_true_eq]; omega
 have hme : (canon (n : Int)).mag = (canon (-(n : Int))).mag := by
  show (⟨(beb (n : Int).natAbs).toArray⟩ : ByteArray) = ⟨(beb (-(n : Int)).natAbs).toArray⟩
  rw [Int.natAbs_neg]
 rw [hme] at Hm
 clear hme
 generalize canon (-(n : Int)) = Z at *
 obtain ⟨N, M⟩ := Z
 dsimp only at *
 subst hne
 have i0 : ¬ (-(n : Int)) ≥ 0 := by omega
 have i1 : (-(n : Int) == -(-(n : Int))) = false := by rw [beq_eq_false_iff_ne]; omega
 have i2 : -(-(n : Int)) = (n : Int) := by omega
 go_enter Tryz.func63, Tryz.ntmps63
 go_wp2_with (go_at_call 90; go_fit (Hm.out _); rintro e w3 ⟨rfl, hb⟩; have Hb3 := lhd hb; have HA := lhd ((BoxAt.new w (.bool false) (.string ⟨#[]⟩) 24).below hb (by simp)); obtain ⟨a0, a1, a2, a3, _⟩ := HA.out; clear hb)
 refine bodyPost_ret (v := .agg #[.bool true, .string M]) ?_ rfl ⟨rfl, ?_⟩
 ·simp [results, Tryz.results63, go_sem, a0, a1]
 ·have hbe : Below w.heap.size w w3 := ((Below.refl _ _).alloc (Nat.le_refl _) _).trans (Hb3.out.mono (by simp))
  exact (hbe.setCell (by simp) _).setCell (by simp) _
open Go.RowKit
theorem bval_digit_aux : ∀ (n : Nat) (l : List UInt8), l.length = n → ∀ i, i < n → ∀ p, p = n - 1 - i → ∀ c, l[p]? = some c → c.toNat = bval l / 256 ^ i % 256
 | 0, _, _, i, hi, _, _, _, _ => absurd hi (Nat.not_lt_zero _)
 | n + 1, l, h, i, hi, p, hp, c, hc => by
  obtain ⟨r, d, rfl⟩ : ∃ r d, l = r ++ [d] := ⟨l.dropLast, l.getLast (fun h0 => by rw [h0] at h; simp at h), (List.dropLast_concat_getLast _).symm⟩
  have hr : r.length = n := by simpa using h
  have hd := UInt8.toNat_lt d
  rw [bval_snoc]
  match i, hi with
  | 0, _ =>
   have e : p = r.length := by omega
   rw [e, List.getElem?_append_right (Nat.le_refl _), Nat.sub_self] at hc
   have : d = c := by simpa using hc
   subst this
   rw [Nat.pow_zero, Nat.div_one]
   omega
  | i + 1, hi =>
   rw [List.getElem?_append_left (by omega)] at hc
   rw [bval_digit_aux n r hr i (by omega) p (by omega) c hc, Nat.pow_succ, Nat.mul_comm (256 ^ i) 256, ← Nat.div_div_eq_div_mul]
   congr 2
   omega
theorem bval_high (l : List UInt8) (i : Nat) (hi : l.length ≤ i) : bval l / 256 ^ i % 256 = 0 := by
 rw [Nat.div_eq_of_lt (Nat.lt_of_lt_of_le (bval_lt l) (Nat.pow_le_pow_right (by decide) hi))]
def hN (f : Nat → Nat) : Nat → Nat
 | 0 => 0
 | n + 1 => hN f n * 256 + f n
theorem hN_congr {f g : Nat → Nat} {n : Nat} (h : ∀ k, k < n → f k = g k) : hN f n = hN g n := by
 induction n with
 | zero => rfl
 | succ n ih => rw [hN, hN, ih fun k hk => h k (by omega), h n (by omega)]
theorem hN_upd (f : Nat → Nat) (n p v : Nat) (hp : p < n) : hN (fun k => if k = p then v else f k) n + f p * 256 ^ (n - 1 - p) = hN f n + v * 256 ^ (n - 1 - p) := by
 induction n with
 | zero => omega
 | succ n ih =>
  rw [hN, hN]
  by_cases e : p = n
  ·subst e
   rw [if_pos rfl, hN_congr (g := f) fun k hk => if_neg (by omega), show p + 1 - 1 - p = 0 from by omega]
   omega
  ·have h := ih (by omega)
   rw [if_neg (by omega), show n + 1 - 1 - p = n - 1 - p + 1 from by omega, Nat.pow_succ]
   generalize 256 ^ (n - 1 - p) = W at *
   have e1 : f p * (W * 256) = f p * W * 256 := (Nat.mul_assoc ..).symm
   have e2 : v * (W * 256) = v * W * 256 := (Nat.mul_assoc ..).symm
   rw [e1, e2]
   omega
theorem hN_zero (n : Nat) : hN (fun _ => 0) n = 0 := by
 induction n with
 | zero => rfl
 | succ n ih => rw [hN, ih]
theorem hN_dig (X n : Nat) : hN (fun k => X / 256 ^ (n - 1 - k) % 256) n = X % 256 ^ n := by
 induction n generalizing X with
 | zero => rw [hN, Nat.pow_zero, Nat.mod_one]
 | succ n ih =>
  rw [hN]
  have e : hN (fun k => X / 256 ^ (n + 1 - 1 - k) % 256) n = hN (fun k => X / 256 / 256 ^ (n - 1 - k) % 256) n := hN_congr fun k hk => by
   rw [Nat.div_div_eq_div_mul, ← Nat.pow_succ', show n + 1 - 1 - k = n - 1 - k + 1 from by omega]
  rw [e, ih, show n + 1 - 1 - n = 0 from by omega, Nat.pow_zero, Nat.div_one, Nat.pow_succ', Nat.mod_mul]
  omega
def bytF (f : Nat → Nat) (n : Nat) : List UInt8 := (List.range n).map fun k => UInt8.ofNat (f k)
theorem bytF_len (f : Nat → Nat) (n : Nat) : (bytF f n).length = n := by simp [bytF]
theorem bytF_succ (f : Nat → Nat) (n : Nat) : bytF f (n + 1) = bytF f n ++ [UInt8.ofNat (f n)] := by unfold bytF; rw [List.range_succ, List.map_append]; rfl
theorem bval_bytF (f : Nat → Nat) (n : Nat) (h : ∀ k, k < n → f k < 256) : bval (bytF f n) = hN f n := by
 induction n with
 | zero => rfl
 | succ n ih =>
  rw [bytF_succ, bval_snoc, ih fun k hk => h k (by omega), hN]
  have := h n (by omega)
  congr 1
  simp
  omega
theorem add_step (A B P : Nat) (hP : 0 < P) : let t := (A % P + B % P) / P + A / P % 256 + B / P % 256; t % 256 = (A + B) / P % 256 ∧ t / 256 = (A % (P * 256) + B % (P * 256)) / (P * 256) := by
 intro t
 have hA : A % (P * 256) = A % P + P * (A / P % 256) := Nat.mod_mul
 have hB : B % (P * 256) = B % P + P * (B / P % 256) := Nat.mod_mul
 have ht : t = (A % (P * 256) + B % (P * 256)) / P := by
  rw [hA, hB, show A % P + P * (A / P % 256) + (B % P + P * (B / P % 256)) = A % P + B % P + P * (A / P % 256 + B / P % 256) from by rw [Nat.mul_add]; omega, Nat.add_mul_div_left _ _ hP]
  show _ = _
  omega
 rw [ht]
 constructor
 ·rw [← Nat.mod_mul_right_div_self, ← Nat.mod_mul_right_div_self, ← Nat.add_mod]
 ·rw [Nat.div_div_eq_div_mul]
open Go.RowKit
theorem u8Info : (Tryz.prog.info? 5).map (fun i => (i.zero, i.size, i.bytes)) = some (some (.int .u8 0), 1, 1) := by kernel_rfl
set_option maxRecDepth 100000 in
theorem make_u8 (n : Nat) (h : n ≤ 1000000000) (w : World) :
  (Instr.makeSlice 61 (.int .i64 (n : Int)) (.int .i64 (n : Int))).run Tryz.prog w = .ok (.slice (some ⟨w.heap.size, 0, none⟩) n n) (w.alloc (.cells (madeCells #[.int .u8 0] n) 5)) :=
 run_make_row' 61 5 (.int .u8 0) 1 Tryz.underlying61 u8Info rfl .i64 .i64 n (by omega) (by omega) w
set_option maxRecDepth 100000 in
theorem made_u8 (w : World) (n : Nat) (t : TypeId) : HAt (w.alloc (.cells (madeCells #[.int .u8 0] n) t)) w.heap.size n (fun _ => .int .u8 0) := by
 have hblk : (w.alloc (.cells (madeCells #[.int .u8 0] n) t)).heap[w.heap.size]? = some (.cells (madeCells #[.int .u8 0] n) t (0, 0)) := heap_alloc_new w _
 refine ⟨by simp, fun k hk => ⟨?_, ?_⟩⟩
 ·unfold World.cell?; simp only [hblk]
  simp only [madeCells]
  simp [hk, Nat.mod_one]
 ·unfold World.frozen?; simp only [hblk]
  simp
theorem byte_end (a : ByteArray) (i p : Nat) (hp : p + 1 + i = a.size) (h : p < a.size) : (a[p]'h).toNat = bval a.data.toList / 256 ^ i % 256 := by
 have hl : a.data.toList.length = a.size := by rw [Array.length_toList]; rfl
 exact bval_digit_aux a.size a.data.toList hl i (by omega) p (by omega) (a[p]'h) (by
  have : p < a.data.toList.length := by omega
  rw [List.getElem?_eq_getElem this]
  rfl)
theorem bytF_get (f : Nat → Nat) (n j : Nat) (hj : j < (bytF f n).length) (hf : f j < 256) : ((bytF f n)[j]).toNat = f j := by
 have h1 : (bytF f n)[j]? = some (UInt8.ofNat (f j)) := by
  unfold bytF
  rw [bytF_len] at hj
  rw [List.getElem?_map, List.getElem?_range hj]; rfl
 rw [List.getElem?_eq_getElem hj] at h1
 rw [Option.some.inj h1]
 simp
 omega
theorem convert_hat (w : World) (g n cap : Nat) (f : Nat → Nat) (hf : ∀ k, k < n → f k < 256) (h : HAt w g n (fun k => .int .u8 (f k : Nat))) :
  (convert 61 9 (.slice (some ⟨g, 0, none⟩) n cap)).run Tryz.prog w = .ok (.string ⟨(bytF f n).toArray⟩) w := by
 have hcv := run_convert_bytes_back (P := Tryz.prog) w 61 9 5 ⟨g, 0, none⟩ cap (bytF f n) Tryz.underlying61 Tryz.underlying5 Tryz.underlying9 (fun j hj => by
  have hj2 := hj
  rw [bytF_len] at hj2
  rw [Addr.add_lit, Nat.zero_add, (h.2 j hj2).1, bytF_get f n j hj (hf j hj2)])
 rwa [bytF_len] at hcv
def addC (a b : ByteArray) (i : Nat) : Nat := (bval a.data.toList % 256 ^ i + bval b.data.toList % 256 ^ i) / 256 ^ i
theorem addC_le (a b : ByteArray) (i : Nat) : addC a b i ≤ 1 := by
 unfold addC
 have hP : 0 < 256 ^ i := Nat.pow_pos (by decide)
 have h1 := Nat.mod_lt (bval a.data.toList) hP
 have h2 := Nat.mod_lt (bval b.data.toList) hP
 have : (bval a.data.toList % 256 ^ i + bval b.data.toList % 256 ^ i) / 256 ^ i < 2 := by
  rw [Nat.div_lt_iff_lt_mul hP]; omega
 omega
theorem addC_zero (a b : ByteArray) : addC a b 0 = 0 := by
 unfold addC
 rw [Nat.pow_zero, Nat.mod_one, Nat.mod_one]
theorem addC_step (a b : ByteArray) (i : Nat) : (addC a b i + bval a.data.toList / 256 ^ i % 256 + bval b.data.toList / 256 ^ i % 256) % 256 = (bval a.data.toList + bval b.data.toList) / 256 ^ i % 256 ∧ (addC a b i + bval a.data.toList / 256 ^ i % 256 + bval b.data.toList / 256 ^ i % 256) / 256 = addC a b (i + 1) := by
 have h := add_step (bval a.data.toList) (bval b.data.toList) (256 ^ i) (Nat.pow_pos (by decide))
 unfold addC
 rw [Nat.pow_succ]
 exact h
set_option maxRecDepth 100000 in
set_option maxHeartbeats 4000000 in
theorem refAddMag_any (a b : ByteArray) (ha : a.size < 100000000) (hb : b.size < 100000000) (w : World) :
  Calls Tryz.prog 83 #[.string a, .string b] w fun e w' => e = .returned (.string ⟨(beb (bval a.data.toList + bval b.data.toList)).toArray⟩) ∧ Below w.heap.size w w' := by
 obtain ⟨n, hn⟩ : ∃ n : Nat, max a.size b.size + 1 = n := ⟨_, rfl⟩
 go_enter Tryz.func83, Tryz.ntmps83
 go_upto_region 1 with (fail)
 go_cut [5] (fun v wx => v = .int .i64 (n : Int) ∧ wx = w)
 case first =>
  go_wp2_with fail
  all_goals
   go_meet
   exact ⟨by congr 1; omega, rfl⟩
 case rest =>
  obtain ⟨rfl, rfl⟩ := hcut
  have hmk := make_u8 n (by omega) wc
  have hz0 := made_u8 wc n 5
  have hb0 := (Below.refl wc.heap.size wc).alloc (Nat.le_refl _) (.cells (madeCells #[.int .u8 0] n) 5)
  generalize wc.alloc (.cells (madeCells #[.int .u8 0] n) 5) = w1 at *
  obtain ⟨g, hg⟩ : ∃ g, wc.heap.size = g := ⟨_, rfl⟩
  rw [hg] at hmk hz0
  have Hz0 : Hid (HAt w1 g n (fun k => .int .u8 (if n ≤ k + 0 then (bval a.data.toList + bval b.data.toList) / 256 ^ (n - 1 - k) % 256 else 0 : Nat))) := lhd (hz0.congr fun k hk => by rw [if_neg (by omega)]; rfl)
  have Hb0 := lhd hb0
  clear hz0 hb0
  go_wp2_with fail
  go_loopw [7, 8] (fun c v wr => ∃ i : Nat, i ≤ n ∧ v = .int .i64 ((i : Int) + 1) ∧ c = .int .i64 (addC a b i : Nat) ∧ Hid (HAt wr g n (fun k => .int .u8 (if n ≤ k + i then (bval a.data.toList + bval b.data.toList) / 256 ^ (n - 1 - k) % 256 else 0 : Nat))) ∧ Hid (Below wc.heap.size wc wr)) (fun _ v _ => (n : Int).toNat + 1 - (intOf v).toNat)
  case atStart => exact ⟨0, by omega, by go_num, by rw [addC_zero]; rfl, Hz0, Hb0⟩
  case round =>
   clear Hz0 Hb0 hmk
   obtain ⟨i, hi, rfl, rfl, HZ, HB⟩ := hrel
   by_cases hlt : i < n
   ·have i1 : (i : Int) + 1 ≤ (n : Int) := by omega
    have hq : (n : Int) - ((i : Int) + 1) = ((n - 1 - i : Nat) : Int) := by omega
    obtain ⟨q, hqe⟩ : ∃ q, n - 1 - i = q := ⟨_, rfl⟩
    rw [hqe] at hq
    have hqn : q < n := by omega
    obtain ⟨hs1, hs2⟩ := addC_step a b i
    have hcl := addC_le a b i
    obtain ⟨c, hc⟩ : ∃ c, addC a b i = c := ⟨_, rfl⟩
    obtain ⟨z0, z1⟩ := HZ.out.2 q hqn
    rw [hc] at hs1 hs2 hcl ⊢
    have HN : Hid (∀ t : Nat, t = c + bval a.data.toList / 256 ^ i % 256 + bval b.data.toList / 256 ^ i % 256 → ((t / 256 : Nat) : Int) = ((addC a b (i + 1) : Nat) : Int) ∧ HAt (wr.setCell ⟨g, q, none⟩ (.int .u8 ((t % 256 : Nat) : Int))) g n (fun k => .int .u8 (if n ≤ k + (i + 1) then (bval a.data.toList + bval b.data.toList) / 256 ^ (n - 1 - k) % 256 else 0 : Nat)) ∧ Below wc.heap.size wc (wr.setCell ⟨g, q, none⟩ (.int .u8 ((t % 256 : Nat) : Int)))) := lhd (fun t ht => by
     subst ht
     refine ⟨by rw [hs2], (HZ.out.set _).congr fun k hk => ?_, HB.out.setCell (by rw [hg]; exact Nat.le_refl _) _⟩
     by_cases e : k = q
     ·rw [if_pos e, if_pos (by omega), hs1, show n - 1 - k = i from by omega]
     ·rw [if_neg e]
      by_cases e2 : n ≤ k + i
      ·rw [if_pos e2, if_pos (by omega)]
      ·rw [if_neg e2, if_neg (by omega)])
    have hil : ∀ s : ByteArray, s.data.toList.length = s.size := fun s => by rw [Array.length_toList]; rfl
    clear hs1 hs2
    by_cases ja : i + 1 ≤ a.size
    ·have i2 : (i : Int) + 1 ≤ (a.size : Int) := by omega
     obtain ⟨p, hp⟩ : ∃ p : Nat, p + 1 + i = a.size := ⟨a.size - 1 - i, by omega⟩
     have hpa : (a.size : Int) - ((i : Int) + 1) = (p : Int) := by omega
     have hpl : p < a.size := by omega
     have hpl' : (p : Int) < (a.size : Int) := by omega
     obtain ⟨x, hx⟩ : ∃ x, (a[p]'hpl).toNat = x := ⟨_, rfl⟩
     have hx2 : x < 256 := by rw [← hx]; exact UInt8.toNat_lt _
     have Hx := lhd (hx.symm.trans (byte_end a i p hp hpl))
     clear hp
     by_cases jb : i + 1 ≤ b.size
     ·have i3 : (i : Int) + 1 ≤ (b.size : Int) := by omega
      obtain ⟨r, hr⟩ : ∃ r : Nat, r + 1 + i = b.size := ⟨b.size - 1 - i, by omega⟩
      have hrb : (b.size : Int) - ((i : Int) + 1) = (r : Int) := by omega
      have hrl : r < b.size := by omega
      have hrl' : (r : Int) < (b.size : Int) := by omega
      obtain ⟨y, hy⟩ : ∃ y, (b[r]'hrl).toNat = y := ⟨_, rfl⟩
      have hy2 : y < 256 := by rw [← hy]; exact UInt8.toNat_lt _
      have Hy := lhd (hy.symm.trans (byte_end b i r hr hrl))
      clear hr
      go_wp2_with fail
      obtain ⟨n1, n2, n3⟩ := HN.out (c + x + y) (by rw [Hx.out, Hy.out])
      rw [show ((c : Int) + x + y) / 256 = ((c + x + y) / 256 : Nat) from by omega, show ((c : Int) + x + y) % 256 = ((c + x + y) % 256 : Nat) from by omega]
      exact ⟨⟨i + 1, by omega, by congr 1, by rw [n1], lhd n2, lhd n3⟩, by simp [intOf]; omega⟩
     ·have i3 : ¬ (i : Int) + 1 ≤ (b.size : Int) := by omega
      have hy0 := bval_high b.data.toList i (by rw [hil]; omega)
      go_wp2_with fail
      obtain ⟨n1, n2, n3⟩ := HN.out (c + x) (by rw [Hx.out, hy0]; rfl)
      rw [show ((c : Int) + x) / 256 = ((c + x) / 256 : Nat) from by omega, show ((c : Int) + x) % 256 = ((c + x) % 256 : Nat) from by omega]
      exact ⟨⟨i + 1, by omega, by congr 1, by rw [n1], lhd n2, lhd n3⟩, by simp [intOf]; omega⟩
    ·have i2 : ¬ (i : Int) + 1 ≤ (a.size : Int) := by omega
     have hx0 := bval_high a.data.toList i (by rw [hil]; omega)
     by_cases jb : i + 1 ≤ b.size
     ·have i3 : (i : Int) + 1 ≤ (b.size : Int) := by omega
      obtain ⟨r, hr⟩ : ∃ r : Nat, r + 1 + i = b.size := ⟨b.size - 1 - i, by omega⟩
      have hrb : (b.size : Int) - ((i : Int) + 1) = (r : Int) := by omega
      have hrl : r < b.size := by omega
      have hrl' : (r : Int) < (b.size : Int) := by omega
      obtain ⟨y, hy⟩ : ∃ y, (b[r]'hrl).toNat = y := ⟨_, rfl⟩
      have hy2 : y < 256 := by rw [← hy]; exact UInt8.toNat_lt _
      have Hy := lhd (hy.symm.trans (byte_end b i r hr hrl))
      clear hr
      go_wp2_with fail
      obtain ⟨n1, n2, n3⟩ := HN.out (c + y) (by rw [hx0, Hy.out]; rfl)
      rw [show ((c : Int) + y) / 256 = ((c + y) / 256 : Nat) from by omega, show ((c : Int) + y) % 256 = ((c + y) % 256 : Nat) from by omega]
      exact ⟨⟨i + 1, by omega, by congr 1, by rw [n1], lhd n2, lhd n3⟩, by simp [intOf]; omega⟩
     ·have i3 : ¬ (i : Int) + 1 ≤ (b.size : Int) := by omega
      have hy0 := bval_high b.data.toList i (by rw [hil]; omega)
      go_wp2_with fail
      obtain ⟨n1, n2, n3⟩ := HN.out c (by rw [hx0, hy0]; rfl)
      rw [show c % 256 = c from by omega] at n2 n3
      rw [show (c : Int) / 256 = (c / 256 : Nat) from by omega]
      exact ⟨⟨i + 1, by omega, by congr 1, by rw [n1], lhd n2, lhd n3⟩, by simp [intOf]; omega⟩
   ·have i1 : ¬ (i : Int) + 1 ≤ (n : Int) := by omega
    have hin : i = n := by omega
    subst hin
    have hdl : ∀ k, k < i → (bval a.data.toList + bval b.data.toList) / 256 ^ (i - 1 - k) % 256 < 256 := fun k _ => Nat.mod_lt _ (by decide)
    have hlen : ∀ s : ByteArray, s.data.toList.length = s.size := fun s => by rw [Array.length_toList]; rfl
    have hsum : bval a.data.toList + bval b.data.toList < 256 ^ i := by
     have h1 := bval_lt a.data.toList
     have h2 := bval_lt b.data.toList
     rw [hlen] at h1 h2
     have h3 : 256 ^ a.size ≤ 256 ^ (i - 1) := Nat.pow_le_pow_right (by decide) (by omega)
     have h4 : 256 ^ b.size ≤ 256 ^ (i - 1) := Nat.pow_le_pow_right (by decide) (by omega)
     obtain ⟨m, rfl⟩ : ∃ m, i = m + 1 := ⟨i - 1, by omega⟩
     rw [Nat.pow_succ]
     rw [show m + 1 - 1 = m from by omega] at h3 h4
     omega
    have hval : bval (bytF (fun k => (bval a.data.toList + bval b.data.toList) / 256 ^ (i - 1 - k) % 256) i) = bval a.data.toList + bval b.data.toList := by
     rw [bval_bytF _ _ hdl, hN_dig, Nat.mod_eq_of_lt hsum]
    have hcv := convert_hat wr g i i (fun k => (bval a.data.toList + bval b.data.toList) / 256 ^ (i - 1 - k) % 256) hdl (HZ.out.congr fun k hk => by rw [if_pos (by omega)])
    have HT := lhd (refTrim_any ⟨(bytF (fun k => (bval a.data.toList + bval b.data.toList) / 256 ^ (i - 1 - k) % 256) i).toArray⟩ (by
     show (bytF _ i).toArray.size ≤ _
     rw [List.size_toArray, bytF_len]; omega) wr)
    have HVl : Hid (bval ((⟨(bytF (fun k => (bval a.data.toList + bval b.data.toList) / 256 ^ (i - 1 - k) % 256) i).toArray⟩ : ByteArray).data.toList) = bval a.data.toList + bval b.data.toList) := lhd hval
    generalize (⟨(bytF (fun k => (bval a.data.toList + bval b.data.toList) / 256 ^ (i - 1 - k) % 256) i).toArray⟩ : ByteArray) = t at *
    clear hval hsum hdl hlen HZ
    go_wp2_with fail
    refine HT.out.mono ?_
    rintro e w9 ⟨rfl, rfl⟩
    dsimp only
    go_wp2
    go_ret
    exact ⟨by rw [HVl.out]; rfl, HB.out⟩
open Go.RowKit
theorem sub_step (A B P c E x y c' e : Nat) (hx : A / P % 256 = x) (hy : B / P % 256 = y) (h : A % P + c * P = B % P + E) (he : x + 256 * c' = y + e + c) :
  A % (P * 256) + c' * (P * 256) = B % (P * 256) + (E + e * P) := by
 have hA : A % (P * 256) = A % P + P * (A / P % 256) := Nat.mod_mul
 have hB : B % (P * 256) = B % P + P * (B / P % 256) := Nat.mod_mul
 rw [hA, hB, hx, hy]
 have h2 : P * (x + 256 * c') = P * (y + e + c) := by rw [he]
 rw [Nat.mul_add, Nat.mul_add, Nat.mul_add] at h2
 have e1 : c' * (P * 256) = P * (256 * c') := by rw [Nat.mul_comm c', Nat.mul_assoc]
 have e2 : e * P = P * e := Nat.mul_comm ..
 have e3 : c * P = P * c := Nat.mul_comm ..
 omega
set_option maxRecDepth 100000 in
set_option maxHeartbeats 4000000 in
theorem refSubMag_any (a b : ByteArray) (ha : a.size ≤ 100000000) (hab : b.size ≤ a.size) (hAB : bval b.data.toList ≤ bval a.data.toList) (w : World) :
  Calls Tryz.prog 85 #[.string a, .string b] w fun e w' => e = .returned (.string ⟨(beb (bval a.data.toList - bval b.data.toList)).toArray⟩) ∧ Below w.heap.size w w' := by
 have hmk := make_u8 a.size (by omega) w
 have hz0 := made_u8 w a.size 5
 have hb0 := (Below.refl w.heap.size w).alloc (Nat.le_refl _) (.cells (madeCells #[.int .u8 0] a.size) 5)
 generalize w.alloc (.cells (madeCells #[.int .u8 0] a.size) 5) = w1 at *
 obtain ⟨g, hg⟩ : ∃ g, w.heap.size = g := ⟨_, rfl⟩
 rw [hg] at hmk hz0
 have hlen : ∀ s : ByteArray, s.data.toList.length = s.size := fun s => by rw [Array.length_toList]; rfl
 have Hz0 : Hid (HAt w1 g a.size (fun k => .int .u8 ((fun _ => 0 : Nat → Nat) k : Nat))) := lhd hz0
 have Hb0 := lhd hb0
 have HAB := lhd hAB
 obtain ⟨A, hA⟩ : ∃ A, bval a.data.toList = A := ⟨_, rfl⟩
 obtain ⟨B, hB⟩ : ∃ B, bval b.data.toList = B := ⟨_, rfl⟩
 have HA := lhd hA
 have HB := lhd hB
 clear hz0 hb0 hAB hA hB
 go_enter Tryz.func85, Tryz.ntmps85
 go_wp2_with fail
 go_loopw [6, 7] (fun br v wr => ∃ (i c : Nat) (f : Nat → Nat), i ≤ a.size ∧ v = .int .i64 ((i : Int) + 1) ∧ br = .int .i64 (c : Nat) ∧ c ≤ 1 ∧ Hid (∀ k, k < a.size → f k < 256) ∧ Hid (∀ k, k + i < a.size → f k = 0) ∧ Hid (HAt wr g a.size (fun k => .int .u8 (f k : Nat))) ∧ Hid (A % 256 ^ i + c * 256 ^ i = B % 256 ^ i + hN f a.size) ∧ Hid (Below w.heap.size w wr)) (fun _ v _ => a.size + 1 - (intOf v).toNat)
 case atStart => exact ⟨0, 0, fun _ => 0, by omega, by go_num, rfl, by omega, lhd (fun _ _ => Nat.zero_lt_succ 255), lhd (fun _ _ => rfl), Hz0, lhd (by rw [hN_zero, Nat.pow_zero, Nat.mod_one, Nat.mod_one]), Hb0⟩
 case round =>
  clear Hz0 Hb0 hmk
  obtain ⟨i, c, f, hi, rfl, rfl, hc1, Hf, Hf0, HZ, HE, HBw⟩ := hrel
  by_cases hlt : i < a.size
  ·have i1 : (i : Int) + 1 ≤ (a.size : Int) := by omega
   obtain ⟨p, hp⟩ : ∃ p : Nat, p + 1 + i = a.size := ⟨a.size - 1 - i, by omega⟩
   have hpa : (a.size : Int) - ((i : Int) + 1) = (p : Int) := by omega
   have hpl : p < a.size := by omega
   have hpl' : (p : Int) < (a.size : Int) := by omega
   obtain ⟨z0, z1⟩ := HZ.out.2 p (by omega)
   obtain ⟨x, hx⟩ : ∃ x, (a[p]'hpl).toNat = x := ⟨_, rfl⟩
   have hx2 : x < 256 := by rw [← hx]; exact UInt8.toNat_lt _
   have hxd := hx.symm.trans (byte_end a i p hp hpl)
   have HN : Hid (∀ (y e c' : Nat), B / 256 ^ i % 256 = y → x + 256 * c' = y + e + c → e < 256 → c' ≤ 1 → ∃ f' : Nat → Nat, (∀ k, k < a.size → f' k < 256) ∧ (∀ k, k + (i + 1) < a.size → f' k = 0) ∧ HAt (wr.setCell ⟨g, p, none⟩ (.int .u8 (e : Nat))) g a.size (fun k => .int .u8 (f' k : Nat)) ∧ A % 256 ^ (i + 1) + c' * 256 ^ (i + 1) = B % 256 ^ (i + 1) + hN f' a.size) := lhd (fun y e c' hy he he2 hc2 => by
    refine ⟨fun k => if k = p then e else f k, fun k hk => ?_, fun k hk => ?_, (HZ.out.set _).congr fun k hk => ?_, ?_⟩
    ·dsimp only
     split
     ·exact he2
     ·exact Hf.out k hk
    ·dsimp only
     rw [if_neg (by omega)]
     exact Hf0.out k (by omega)
    ·dsimp only
     split <;> rfl
    ·have hu := hN_upd f a.size p e (by omega)
     rw [Hf0.out p (by omega), Nat.zero_mul, Nat.add_zero, show a.size - 1 - p = i from by omega] at hu
     rw [hu, Nat.pow_succ]
     exact sub_step A B (256 ^ i) c (hN f a.size) x y c' e (by rw [← HA.out]; exact hxd.symm) hy HE.out he)
   have Hxd := lhd hxd
   clear hxd hp
   by_cases jb : i + 1 ≤ b.size
   ·have i3 : (i : Int) + 1 ≤ (b.size : Int) := by omega
    obtain ⟨r, hr⟩ : ∃ r : Nat, r + 1 + i = b.size := ⟨b.size - 1 - i, by omega⟩
    have hrb : (b.size : Int) - ((i : Int) + 1) = (r : Int) := by omega
    have hrl : r < b.size := by omega
    have hrl' : (r : Int) < (b.size : Int) := by omega
    obtain ⟨y, hy⟩ : ∃ y, (b[r]'hrl).toNat = y := ⟨_, rfl⟩
    have hy2 : y < 256 := by rw [← hy]; exact UInt8.toNat_lt _
    have Hy := lhd (hy.symm.trans (byte_end b i r hr hrl))
    clear hr
    by_cases hd : x < c + y
    ·have hd1 : (x : Int) - (c : Int) - (y : Int) < 0 := by omega
     go_wp2_with fail
     obtain ⟨f', f1, f2, f3, f4⟩ := HN.out y (x + 256 - c - y) 1 (by rw [← HB.out]; exact Hy.out.symm) (by omega) (by omega) (by omega)
     rw [show (x : Int) - (c : Int) - (y : Int) + 256 = ((x + 256 - c - y : Nat) : Int) from by omega]
     exact ⟨⟨i + 1, 1, f', by omega, by congr 1, rfl, by omega, lhd f1, lhd f2, lhd f3, lhd f4, lhd (HBw.out.setCell (by rw [hg]; exact Nat.le_refl _) _)⟩, by simp [intOf]; omega⟩
    ·have hd1 : ¬ (x : Int) - (c : Int) - (y : Int) < 0 := by omega
     go_wp2_with fail
     obtain ⟨f', f1, f2, f3, f4⟩ := HN.out y (x - c - y) 0 (by rw [← HB.out]; exact Hy.out.symm) (by omega) (by omega) (by omega)
     rw [show (x : Int) - (c : Int) - (y : Int) = ((x - c - y : Nat) : Int) from by omega]
     exact ⟨⟨i + 1, 0, f', by omega, by congr 1, rfl, by omega, lhd f1, lhd f2, lhd f3, lhd f4, lhd (HBw.out.setCell (by rw [hg]; exact Nat.le_refl _) _)⟩, by simp [intOf]; omega⟩
   ·have i3 : ¬ (i : Int) + 1 ≤ (b.size : Int) := by omega
    have hy0 : B / 256 ^ i % 256 = 0 := by rw [← HB.out]; exact bval_high b.data.toList i (by rw [hlen]; omega)
    have Hy0 := lhd hy0
    clear hy0
    by_cases hd : x < c
    ·have hd1 : (x : Int) - (c : Int) < 0 := by omega
     go_wp2_with fail
     obtain ⟨f', f1, f2, f3, f4⟩ := HN.out 0 (x + 256 - c) 1 (Hy0.out) (by omega) (by omega) (by omega)
     rw [show (x : Int) - (c : Int) + 256 = ((x + 256 - c : Nat) : Int) from by omega]
     exact ⟨⟨i + 1, 1, f', by omega, by congr 1, rfl, by omega, lhd f1, lhd f2, lhd f3, lhd f4, lhd (HBw.out.setCell (by rw [hg]; exact Nat.le_refl _) _)⟩, by simp [intOf]; omega⟩
    ·have hd1 : ¬ (x : Int) - (c : Int) < 0 := by omega
     go_wp2_with fail
     obtain ⟨f', f1, f2, f3, f4⟩ := HN.out 0 (x - c) 0 (Hy0.out) (by omega) (by omega) (by omega)
     rw [show (x : Int) - (c : Int) = ((x - c : Nat) : Int) from by omega]
     exact ⟨⟨i + 1, 0, f', by omega, by congr 1, rfl, by omega, lhd f1, lhd f2, lhd f3, lhd f4, lhd (HBw.out.setCell (by rw [hg]; exact Nat.le_refl _) _)⟩, by simp [intOf]; omega⟩
  ·have i1 : ¬ (i : Int) + 1 ≤ (a.size : Int) := by omega
   have hin : i = a.size := by omega
   have hbb := bval_bytF f a.size Hf.out
   have hE := HE.out
   rw [hin] at hE
   have hAl : A < 256 ^ a.size := by rw [← HA.out, ← hlen]; exact bval_lt _
   have hBA : B ≤ A := by rw [← HA.out, ← HB.out]; exact HAB.out
   have hEl : hN f a.size < 256 ^ a.size := by
    have h := bval_lt (bytF f a.size)
    rwa [bytF_len, hbb] at h
   have hres : hN f a.size = A - B := by
    rw [Nat.mod_eq_of_lt hAl, Nat.mod_eq_of_lt (Nat.lt_of_le_of_lt hBA hAl)] at hE
    have hc : c = 0 ∨ c = 1 := by omega
    rcases hc with rfl | rfl
    ·omega
    ·omega
   have hcv := convert_hat wr g a.size a.size f Hf.out HZ.out
   have HT := lhd (refTrim_any ⟨(bytF f a.size).toArray⟩ (by
    show (bytF f a.size).toArray.size ≤ _
    rw [List.size_toArray, bytF_len]; omega) wr)
   have HVl : Hid (bval ((⟨(bytF f a.size).toArray⟩ : ByteArray).data.toList) = A - B) := lhd (by
    show bval (bytF f a.size) = _
    rw [hbb, hres])
   generalize (⟨(bytF f a.size).toArray⟩ : ByteArray) = t at *
   rw [HVl.out] at HT
   clear hbb hE hAl hBA hEl hres hin HE HVl Hf Hf0 HZ
   go_wp2_with fail
   refine HT.out.mono ?_
   rintro e w9 ⟨rfl, rfl⟩
   dsimp only
   go_wp2
   go_ret
   exact ⟨by rw [HA.out, HB.out]; rfl, HBw.out⟩
open Go.RowKit
def cmpV (A B : Nat) : Int := if A < B then -1 else if B < A then 1 else 0
theorem bytesLess_bval : ∀ (l m : List UInt8), l.length = m.length → Op.bytesLess l m = decide (bval l < bval m)
 | [], [], _ => by simp [Op.bytesLess]
 | a :: x, b :: y, h => by
  have hl : x.length = y.length := by simpa using h
  have ih := bytesLess_bval x y hl
  have h1 := bval_lt x
  have h2 := bval_lt y
  rw [bval_cons, bval_cons, hl]
  rw [hl] at h1
  rw [Op.bytesLess, ih]
  generalize 256 ^ y.length = P at *
  by_cases hab : a < b
  ·have hab2 : a.toNat + 1 ≤ b.toNat := UInt8.lt_iff_toNat_lt.1 hab
   have := Nat.mul_le_mul_right P hab2
   rw [Nat.add_mul, Nat.one_mul] at this
   rw [decide_eq_true hab, Bool.true_or, eq_comm, decide_eq_true_eq]
   omega
  ·rw [decide_eq_false hab, Bool.false_or]
   by_cases he : a = b
   ·subst he
    rw [beq_self_eq_true, Bool.true_and]
    congr 1
    rw [eq_iff_iff]
    omega
   ·have hba : b.toNat + 1 ≤ a.toNat := by
     have h3 : ¬ a.toNat < b.toNat := fun h => hab (UInt8.lt_iff_toNat_lt.2 h)
     have h4 : a.toNat ≠ b.toNat := fun h => he (UInt8.toNat_inj.1 h)
     omega
    have := Nat.mul_le_mul_right P hba
    rw [Nat.add_mul, Nat.one_mul] at this
    have hf : (a == b) = false := by rw [beq_eq_false_iff_ne]; exact he
    rw [hf, Bool.false_and, eq_comm, decide_eq_false_iff_not]
    omega
theorem beb_short {A B : Nat} (h : (beb A).length < (beb B).length) : A < B := by
 have h1 := bval_lt (beb A)
 rw [bval_beb] at h1
 have h2 : ¬ B < 256 ^ (beb A).length := fun h3 => by
  have := beb_len (beb A).length h3
  omega
 omega
set_option maxRecDepth 100000 in
set_option maxHeartbeats 4000000 in
theorem refCmpMag_any (A B : Nat) (w : World) :
  Calls Tryz.prog 84 #[.string ⟨(beb A).toArray⟩, .string ⟨(beb B).toArray⟩] w fun e w' => e = .returned (.int .i64 (cmpV A B)) ∧ w = w' := by
 have hsa : (⟨(beb A).toArray⟩ : ByteArray).size = (beb A).length := by show (beb A).toArray.size = _; rw [List.size_toArray]
 have hsb : (⟨(beb B).toArray⟩ : ByteArray).size = (beb B).length := by show (beb B).toArray.size = _; rw [List.size_toArray]
 have hla : (⟨(beb A).toArray⟩ : ByteArray).toList = beb A := by rw [ByteArray.toList_eq]
 have hlb : (⟨(beb B).toArray⟩ : ByteArray).toList = beb B := by rw [ByteArray.toList_eq]
 by_cases h1 : (beb A).length = (beb B).length
 ·have hlt := bytesLess_bval (beb A) (beb B) h1
  rw [bval_beb, bval_beb] at hlt
  have heq : (beb A == beb B) = decide (A = B) := by
   by_cases e : A = B
   ·subst e; simp
   ·rw [decide_eq_false e, beq_eq_false_iff_ne]
    intro h
    have := congrArg bval h
    rw [bval_beb, bval_beb] at this
    exact e this
  rw [← hla, ← hlb] at hlt heq
  rw [← hsa, ← hsb] at h1
  have HV : Hid (cmpV A B = if A < B then -1 else if B < A then 1 else 0) := lhd rfl
  generalize (⟨(beb A).toArray⟩ : ByteArray) = a at *
  generalize (⟨(beb B).toArray⟩ : ByteArray) = b at *
  generalize cmpV A B = v at *
  have e1 : ((a.size : Int) != (b.size : Int)) = false := by rw [h1, bne_self_eq_false]
  clear hsa hsb hla hlb
  rcases Nat.lt_trichotomy A B with h | h | h
  ·have l1 : Op.bytesLess a.toList b.toList = true := by rw [hlt, decide_eq_true h]
   have Hv : Hid (v = -1) := lhd (by rw [HV.out, if_pos h])
   clear hlt heq HV h h1
   go_enter Tryz.func84, Tryz.ntmps84
   go_wp2
   go_ret
   exact ⟨by rw [Hv.out]; rfl, rfl⟩
  ·have l1 : Op.bytesLess a.toList b.toList = false := by rw [hlt, decide_eq_false (by omega)]
   have l2 : (a.toList == b.toList) = true := by rw [heq, decide_eq_true h]
   have Hv : Hid (v = 0) := lhd (by rw [HV.out, if_neg (by omega), if_neg (by omega)])
   clear hlt heq HV h h1
   go_enter Tryz.func84, Tryz.ntmps84
   go_wp2
   go_ret
   exact ⟨by rw [Hv.out]; rfl, rfl⟩
  ·have l1 : Op.bytesLess a.toList b.toList = false := by rw [hlt, decide_eq_false (by omega)]
   have l2 : (a.toList == b.toList) = false := by rw [heq, decide_eq_false (by omega)]
   have Hv : Hid (v = 1) := lhd (by rw [HV.out, if_neg (by omega), if_pos h])
   clear hlt heq HV h h1
   go_enter Tryz.func84, Tryz.ntmps84
   go_wp2
   go_ret
   exact ⟨by rw [Hv.out]; rfl, rfl⟩
 ·by_cases h2 : (beb A).length < (beb B).length
  ·have hv : cmpV A B = -1 := if_pos (beb_short h2)
   rw [hv]
   rw [← hsa, ← hsb] at h1 h2
   generalize (⟨(beb A).toArray⟩ : ByteArray) = a at *
   generalize (⟨(beb B).toArray⟩ : ByteArray) = b at *
   have e1 : ((a.size : Int) != (b.size : Int)) = true := by rw [bne_iff_ne]; omega
   have e2 : (a.size : Int) < (b.size : Int) := by omega
   clear hsa hsb hla hlb h1 h2 hv
   go_enter Tryz.func84, Tryz.ntmps84
   go_wp2
   go_ret
   exact ⟨rfl, rfl⟩
  ·have h3 : B < A := beb_short (by omega)
   have hv : cmpV A B = 1 := (if_neg (by omega)).trans (if_pos h3)
   rw [hv]
   rw [← hsa, ← hsb] at h1 h2
   generalize (⟨(beb A).toArray⟩ : ByteArray) = a at *
   generalize (⟨(beb B).toArray⟩ : ByteArray) = b at *
   have e1 : ((a.size : Int) != (b.size : Int)) = true := by rw [bne_iff_ne]; omega
   have e2 : ¬ (a.size : Int) < (b.size : Int) := by omega
   clear hsa hsb hla hlb h1 h2 hv h3
   go_enter Tryz.func84, Tryz.ntmps84
   go_wp2
   go_ret
   exact ⟨rfl, rfl⟩
open Go.RowKit
theorem intInfo2 : (Tryz.prog.info? 3).map (fun i => (i.zero, i.size, i.bytes)) = some (some (.int .i64 0), 1, 8) := by kernel_rfl
set_option maxRecDepth 100000 in
theorem make_ints (n : Nat) (h : n ≤ 1000000000) (w : World) :
  (Instr.makeSlice 58 (.int .i64 (n : Int)) (.int .i64 (n : Int))).run Tryz.prog w = .ok (.slice (some ⟨w.heap.size, 0, none⟩) n n) (w.alloc (.cells (madeCells #[.int .i64 0] n) 3)) :=
 run_make_row' 58 3 (.int .i64 0) 8 Tryz.underlying58 intInfo2 rfl .i64 .i64 n (by omega) (by omega) w
set_option maxRecDepth 100000 in
theorem made_i64s (w : World) (n : Nat) (t : TypeId) : HAt (w.alloc (.cells (madeCells #[.int .i64 0] n) t)) w.heap.size n (fun _ => .int .i64 0) := by
 have hblk : (w.alloc (.cells (madeCells #[.int .i64 0] n) t)).heap[w.heap.size]? = some (.cells (madeCells #[.int .i64 0] n) t (0, 0)) := heap_alloc_new w _
 refine ⟨by simp, fun k hk => ⟨?_, ?_⟩⟩
 ·unfold World.cell?; simp only [hblk]
  simp only [madeCells]
  simp [hk, Nat.mod_one]
 ·unfold World.frozen?; simp only [hblk]
  simp
theorem and_byte (n : Nat) (hn : n < 281474976710656) : bits .and .i64 (n : Int) 255 = ((n % 256 : Nat) : Int) := by
 show IntKind.i64.wrap ((BitVec.ofInt 64 (n : Int) &&& BitVec.ofInt 64 ((255 : Nat) : Int)).toNat : Int) = _
 rw [BitVec.toNat_and, ofInt_u64 n (by omega), ofInt_u64 255 (by omega), show (255 : Nat) = 2 ^ 8 - 1 from rfl, Nat.and_two_pow_sub_one_eq_mod, IntKind.wrap_i64]
 omega
theorem rmul_step (H H2 fp c x y t W S B U R : Nat) (hW : W = S * U) (hu : H2 + fp * W = H + t % 256 * W) (ht : t = c + fp + x * y) (h : H + c * W = R + x * S * (B % U)) (hy : B / U % 256 = y) :
  H2 + t / 256 * (W * 256) = R + x * S * (B % (U * 256)) := by
 have hB : B % (U * 256) = B % U + U * (B / U % 256) := Nat.mod_mul
 have h1 : t / 256 * (W * 256) + t % 256 * W = t * W := by
  have h2 := Nat.div_add_mod t 256
  have h3 : t / 256 * (W * 256) = 256 * (t / 256) * W := by rw [Nat.mul_comm W, ← Nat.mul_assoc, Nat.mul_comm (t / 256)]
  rw [h3, ← Nat.add_mul, h2]
 have h4 : t * W = c * W + fp * W + x * y * W := by rw [ht, Nat.add_mul, Nat.add_mul]
 have h5 : x * S * (U * y) = x * y * W := by
  rw [hW]
  simp only [Nat.mul_left_comm, Nat.mul_comm]
 rw [hB, hy, Nat.mul_add, h5]
 omega
theorem rmul_row (A B S x : Nat) (hx : A / S % 256 = x) : A % S * B + x * S * B = A % (S * 256) * B := by
 have hA : A % (S * 256) = A % S + S * (A / S % 256) := Nat.mod_mul
 rw [hA, hx, Nat.add_mul, Nat.mul_comm S x]
set_option maxRecDepth 100000 in
set_option maxHeartbeats 8000000 in
theorem refMulMag_any (a b : ByteArray) (ha : a.size + b.size ≤ 100000000) (w : World) :
  Calls Tryz.prog 86 #[.string a, .string b] w fun e w' => e = .returned (.string ⟨(beb (bval a.data.toList * bval b.data.toList)).toArray⟩) ∧ Below w.heap.size w w' := by
 obtain ⟨n, hn⟩ : ∃ n : Nat, n = a.size + b.size := ⟨_, rfl⟩
 have hnI : (a.size : Int) + (b.size : Int) = (n : Int) := by omega
 have hmk := make_ints n (by omega) w
 have hz0 := made_i64s w n 3
 have hb0 := (Below.refl w.heap.size w).alloc (Nat.le_refl _) (.cells (madeCells #[.int .i64 0] n) 3)
 generalize w.alloc (.cells (madeCells #[.int .i64 0] n) 3) = w1 at *
 obtain ⟨g, hg⟩ : ∃ g, w.heap.size = g := ⟨_, rfl⟩
 rw [hg] at hmk hz0
 have hlen : ∀ s : ByteArray, s.data.toList.length = s.size := fun s => by rw [Array.length_toList]; rfl
 have Hz0 : Hid (HAt w1 g n (fun k => .int .i64 ((fun _ => 0 : Nat → Nat) k : Nat))) := lhd hz0
 have Hb0 := lhd hb0
 obtain ⟨A, hA⟩ : ∃ A, bval a.data.toList = A := ⟨_, rfl⟩
 obtain ⟨B, hB⟩ : ∃ B, bval b.data.toList = B := ⟨_, rfl⟩
 have HA := lhd hA
 have HB := lhd hB
 have Hn := lhd hn
 have hn8 : n ≤ 100000000 := by omega
 clear hz0 hb0 hA hB hn
 go_enter Tryz.func86, Tryz.ntmps86
 go_wp2_with fail
 go_loopw [6] (fun v wr => ∃ (kk : Int) (s : Nat) (f : Nat → Nat), s ≤ a.size ∧ kk + 1 + (s : Int) = (a.size : Int) ∧ v = .int .i64 kk ∧ Hid (∀ k, k < n → f k ≤ 255) ∧ Hid (∀ k, k + s < a.size → f k = 0) ∧ Hid (HAt wr g n (fun k => .int .i64 (f k : Nat))) ∧ Hid (hN f n = A % 256 ^ s * B) ∧ Hid (Below w.heap.size w wr)) (fun v _ => (intOf v + 1).toNat)
 case atStart => exact ⟨(a.size : Int) - 1, 0, fun _ => 0, by omega, by omega, rfl, lhd (fun _ _ => Nat.zero_le _), lhd (fun _ _ => rfl), Hz0, lhd (by rw [hN_zero, Nat.pow_zero, Nat.mod_one, Nat.zero_mul]), Hb0⟩
 case round =>
  clear Hz0 Hb0 hmk
  obtain ⟨kk, s, f, hs, hkk, rfl, Hf, Hf0, HZ, HE, HBw⟩ := hrel
  by_cases hlt : s < a.size
  ·obtain ⟨i, rfl⟩ : ∃ i : Nat, kk = i := ⟨kk.toNat, by omega⟩
   have i0 : (i : Int) ≥ 0 := by omega
   have hil : i < a.size := by omega
   have hil' : (i : Int) < (a.size : Int) := by omega
   obtain ⟨x, hx⟩ : ∃ x, (a[i]'hil).toNat = x := ⟨_, rfl⟩
   have hx2 : x < 256 := by rw [← hx]; exact UInt8.toNat_lt _
   have Hx : Hid (A / 256 ^ s % 256 = x) := lhd (by rw [← HA.out, ← hx]; exact (byte_end a s i (by omega) hil).symm)
   go_wp2_with fail
   go_loopw [7, 8] (fun cv v wr => ∃ (kk : Int) (u c : Nat) (f : Nat → Nat), u ≤ b.size ∧ kk + 1 + (u : Int) = (b.size : Int) ∧ v = .int .i64 kk ∧ cv = .int .i64 (c : Nat) ∧ c ≤ 255 ∧ Hid (∀ k, k < n → f k ≤ 255) ∧ Hid (∀ k, k ≤ i → f k = 0) ∧ Hid (HAt wr g n (fun k => .int .i64 (f k : Nat))) ∧ Hid (hN f n + c * 256 ^ (s + u) = A % 256 ^ s * B + x * 256 ^ s * (B % 256 ^ u)) ∧ Hid (Below w.heap.size w wr)) (fun _ v _ => (intOf v + 1).toNat)
   case atStart => exact ⟨(b.size : Int) - 1, 0, 0, f, by omega, by omega, rfl, rfl, by omega, Hf, lhd (fun k hk => Hf0.out k (by omega)), HZ, lhd (by rw [HE.out, Nat.zero_mul, Nat.add_zero, Nat.pow_zero, Nat.mod_one, Nat.mul_zero, Nat.add_zero]), HBw⟩
   case round =>
    clear Hf Hf0 HZ HE HBw
    obtain ⟨kk, u, c, f, hu, hkk2, rfl, rfl, hc, Hf, Hf0, HZ, HE, HBw⟩ := hrel
    by_cases hul : u < b.size
    ·obtain ⟨k, rfl⟩ : ∃ k : Nat, kk = k := ⟨kk.toNat, by omega⟩
     have k0 : (k : Int) ≥ 0 := by omega
     have hkl : k < b.size := by omega
     have hkl' : (k : Int) < (b.size : Int) := by omega
     obtain ⟨y, hy⟩ : ∃ y, (b[k]'hkl).toNat = y := ⟨_, rfl⟩
     have hy2 : y < 256 := by rw [← hy]; exact UInt8.toNat_lt _
     have Hy : Hid (B / 256 ^ u % 256 = y) := lhd (by rw [← HB.out, ← hy]; exact (byte_end b u k (by omega) hkl).symm)
     have hnn := Hn.out
     obtain ⟨p, hp⟩ : ∃ p : Nat, p = i + k + 1 := ⟨_, rfl⟩
     have hpI : (i : Int) + (k : Int) + 1 = (p : Int) := by omega
     have hpn : p < n := by omega
     have hpn' : (p : Int) < (n : Int) := by omega
     have hpw : n - 1 - p = s + u := by omega
     obtain ⟨z0, z1⟩ := HZ.out.2 p hpn
     have hfp := Hf.out p hpn
     obtain ⟨q, hq⟩ : ∃ q, f p = q := ⟨_, rfl⟩
     dsimp only at z0
     rw [hq] at z0 hfp
     have hxy : x * y ≤ 255 * 255 := Nat.mul_le_mul (by omega) (by omega)
     obtain ⟨xy, hxye⟩ : ∃ xy, x * y = xy := ⟨_, rfl⟩
     have hxyI : (x : Int) * (y : Int) = (xy : Int) := by rw [← hxye]; push_cast; rfl
     rw [hxye] at hxy
     have Hpw := lhd hpw
     have Hp := lhd hp
     have Hkk2 := lhd hkk2
     have Hkk := lhd hkk
     have Hxye := lhd hxye
     have Hq := lhd hq
     clear hpw hp hnn hkk2 hkk hxye hq
     go_wp2_with fail
     go_quiet (fail)
     go_wp2_with fail
     have ht : c + (q + xy) = c + q + x * y := by rw [Hxye.out]; omega
     obtain ⟨t, hte⟩ : ∃ t, c + (q + xy) = t := ⟨_, rfl⟩
     rw [hte] at ht
     rw [show (c : Int) + ((q : Int) + (xy : Int)) = (t : Int) from by omega, and_byte t (by omega), show (t : Int) / 256 = ((t / 256 : Nat) : Int) from by omega]
     have hu2 := hN_upd f n p (t % 256) hpn
     rw [Hq.out, Hpw.out] at hu2
     have hst := rmul_step (hN f n) _ q c x y t (256 ^ (s + u)) (256 ^ s) B (256 ^ u) (A % 256 ^ s * B) (Nat.pow_add ..) hu2 ht HE.out Hy.out
     have hHE : hN (fun k => if k = p then t % 256 else f k) n + t / 256 * 256 ^ (s + (u + 1)) = A % 256 ^ s * B + x * 256 ^ s * (B % 256 ^ (u + 1)) := by
      rw [show s + (u + 1) = s + u + 1 from rfl, Nat.pow_succ, Nat.pow_succ]
      exact hst
     have hkk3 := Hkk2.out
     exact ⟨⟨(k : Int) - 1, u + 1, t / 256, fun k => if k = p then t % 256 else f k, by omega, by omega, rfl, rfl, by omega, lhd (fun k hk => by
       dsimp only
       split
       ·omega
       ·exact Hf.out k hk), lhd (fun k hk => by
       dsimp only
       rw [if_neg (by have := Hp.out; omega)]
       exact Hf0.out k hk), lhd (((HZ.out.below (below_dr (Below.refl _ _)) HZ.out.1).set _).congr fun k hk => by
       dsimp only
       split <;> rfl), lhd hHE, lhd ((below_dr HBw.out).setCell (by rw [hg]; exact Nat.le_refl _) _)⟩, by simp [intOf] <;> omega⟩
    ·have hkm : kk = -1 := by omega
     subst hkm
     have hub : u = b.size := by omega
     have hin : i < n := by have := Hn.out; omega
     have hin' : (i : Int) < (n : Int) := by omega
     obtain ⟨z00, z1⟩ := HZ.out.2 i hin
     have z0 : wr.cell? ⟨g, i, none⟩ = some (.int .i64 0) := by
      rw [z00]
      dsimp only
      rw [Hf0.out i (Nat.le_refl _)]; rfl
     clear z00
     have hiw : n - 1 - i = s + b.size := by have := Hn.out; omega
     have hu2 := hN_upd f n i c hin
     rw [Hf0.out i (Nat.le_refl _), Nat.zero_mul, Nat.add_zero, hiw] at hu2
     have hHE := HE.out
     have hBl : B < 256 ^ b.size := by rw [← HB.out, ← hlen]; exact bval_lt _
     rw [hub, Nat.mod_eq_of_lt hBl, ← hu2, rmul_row A B (256 ^ s) x Hx.out, ← Nat.pow_succ] at hHE
     have HHE := lhd hHE
     have Hkk := lhd hkk
     clear hHE hu2 hub hiw hBl hkk2 hkk
     go_wp2_with fail
     have hkk3 := Hkk.out
     exact ⟨⟨(i : Int) - 1, s + 1, fun k => if k = i then c else f k, by omega, by omega, rfl, lhd (fun k hk => by
       dsimp only
       split
       ·omega
       ·exact Hf.out k hk), lhd (fun k hk => by
       dsimp only
       rw [if_neg (by omega)]
       exact Hf0.out k (by omega)), lhd ((HZ.out.set _).congr fun k hk => by
       dsimp only
       split <;> rfl), HHE, lhd (HBw.out.setCell (by rw [hg]; exact Nat.le_refl _) _)⟩, by simp [intOf] <;> omega⟩
  ·have hkm : kk = -1 := by omega
   subst hkm
   have hse : s = a.size := by omega
   have hAl : A < 256 ^ a.size := by rw [← HA.out, ← hlen]; exact bval_lt _
   have hE := HE.out
   rw [hse, Nat.mod_eq_of_lt hAl] at hE
   have HE := lhd hE
   have hmk := make_u8 n (by omega) wr
   have hz0 := made_u8 wr n 5
   have hb0 := (Below.refl wr.heap.size wr).alloc (Nat.le_refl _) (.cells (madeCells #[.int .u8 0] n) 5)
   have hgl : g < wr.heap.size := HZ.out.1
   have HZ := lhd (HZ.out.below hb0 hgl)
   have hwl := HBw.out.size
   have HBw := lhd (HBw.out.trans (hb0.mono hwl))
   clear hb0 hE hse hAl hkk
   generalize wr.alloc (.cells (madeCells #[.int .u8 0] n) 5) = w2 at *
   obtain ⟨g2, hg2⟩ : ∃ g2, wr.heap.size = g2 := ⟨_, rfl⟩
   rw [hg2] at hmk hz0 hgl hwl
   have Hz2 : Hid (HAt w2 g2 n (fun k => .int .u8 (if k < 0 then f k else 0 : Nat))) := lhd (hz0.congr fun k hk => by rw [if_neg (by omega)]; rfl)
   clear hz0
   go_wp2_with fail
   go_loopw [10] (fun v wr => ∃ j : Nat, j ≤ n ∧ v = .int .i64 j ∧ Hid (HAt wr g n (fun k => .int .i64 (f k : Nat))) ∧ Hid (HAt wr g2 n (fun k => .int .u8 (if k < j then f k else 0 : Nat))) ∧ Hid (Below w.heap.size w wr)) (fun v _ => n - (intOf v).toNat)
   case atStart => exact ⟨0, by omega, by go_num, HZ, Hz2, HBw⟩
   case round =>
    clear HZ Hz2 HBw hmk
    obtain ⟨j, hj, rfl, HZ, HY, HBw⟩ := hrel
    by_cases hjl : j < n
    ·have j0 : (0 : Int) ≤ (j : Int) := by omega
     have j1 : (j : Int) < (n : Int) := by omega
     obtain ⟨z0, z1⟩ := HZ.out.2 j hjl
     obtain ⟨y0, y1⟩ := HY.out.2 j hjl
     dsimp only at z0 y0
     have hfj := Hf.out j hjl
     obtain ⟨q, hq⟩ : ∃ q, f j = q := ⟨_, rfl⟩
     rw [hq] at z0 hfj
     have HY2 := lhd ((HY.out.set (k := j) (.int .u8 (q : Nat))).congr (h := fun k => .int .u8 (if k < j + 1 then f k else 0 : Nat)) fun k hk => by
      try dsimp only
      by_cases e : k = j
      ·subst e; rw [if_pos rfl, if_pos (by omega), hq]
      ·rw [if_neg e]
       by_cases e2 : k < j
       ·rw [if_pos e2, if_pos (by omega)]
       ·rw [if_neg e2, if_neg (by omega)])
     have HZ2 := lhd (HZ.out.other ⟨g2, j, none⟩ (.int .u8 (q : Nat)) (by show g2 ≠ g; omega))
     have HB2 := lhd (show Below w.heap.size w (wr.setCell ⟨g2, j, none⟩ (.int .u8 (q : Nat))) from HBw.out.setCell hwl _)
     clear hq
     go_wp2
     go_roundw
     case rel => exact ⟨j + 1, by omega, by go_num, HZ2, HY2, HB2⟩
     case measure => simp [intOf]; omega
    ·have j1 : ¬ (j : Int) < (n : Int) := by omega
     have hbb := bval_bytF f n (fun k hk => by have := Hf.out k hk; omega)
     have hcv := convert_hat wr g2 n n f (fun k hk => by have := Hf.out k hk; omega) (HY.out.congr fun k hk => by rw [if_pos (by omega)])
     have HT := lhd (refTrim_any ⟨(bytF f n).toArray⟩ (by
      show (bytF f n).toArray.size ≤ _
      rw [List.size_toArray, bytF_len]; omega) wr)
     have HVl : Hid (bval ((⟨(bytF f n).toArray⟩ : ByteArray).data.toList) = A * B) := lhd (by
      show bval (bytF f n) = _
      rw [hbb, HE.out])
     generalize (⟨(bytF f n).toArray⟩ : ByteArray) = t at *
     rw [HVl.out] at HT
     clear hbb HE HVl Hf Hf0 HZ HY
     go_wp2_with fail
     refine HT.out.mono ?_
     rintro e w9 ⟨rfl, rfl⟩
     dsimp only
     go_wp2
     go_ret
     exact ⟨by rw [HA.out, HB.out]; rfl, HBw.out⟩
open Go.RowKit
theorem convert_off (w : World) (g o n cap : Nat) (f : Nat → Nat) (hf : ∀ k, k < n → f k < 256) (h : ∀ k, k < n → w.cell? ⟨g, o + k, none⟩ = some (.int .u8 (f k : Nat))) :
  (convert 61 9 (.slice (some ⟨g, o, none⟩) n cap)).run Tryz.prog w = .ok (.string ⟨(bytF f n).toArray⟩) w := by
 have hcv := run_convert_bytes_back (P := Tryz.prog) w 61 9 5 ⟨g, o, none⟩ cap (bytF f n) Tryz.underlying61 Tryz.underlying5 Tryz.underlying9 (fun j hj => by
  have hj2 := hj
  rw [bytF_len] at hj2
  rw [Addr.add_lit, h j hj2, bytF_get f n j hj (hf j hj2)])
 rwa [bytF_len] at hcv
theorem bytF_drop (f : Nat → Nat) (i m : Nat) (h0 : ∀ k, k < i → f k = 0) (h1 : f i % 256 ≠ 0) (hm : 0 < m) : (bytF f (i + m)).dropWhile (· == 0) = bytF (fun k => f (i + k)) m := by
 induction i generalizing f with
 | zero =>
  obtain ⟨m, rfl⟩ : ∃ m', m = m' + 1 := ⟨m - 1, by omega⟩
  unfold bytF
  rw [Nat.zero_add, List.range_succ_eq_map]
  simp only [List.map_cons, List.map_map, Nat.zero_add]
  have : (UInt8.ofNat (f 0) == 0) = false := by
   rw [beq_eq_false_iff_ne]
   intro h
   have := congrArg UInt8.toNat h
   simp at this
   omega
  rw [List.dropWhile_cons, this]
  rfl
 | succ i ih =>
  have e : bytF f (i + 1 + m) = UInt8.ofNat (f 0) :: bytF (fun k => f (k + 1)) (i + m) := by
   unfold bytF
   rw [show i + 1 + m = (i + m) + 1 from by omega, List.range_succ_eq_map, List.map_cons, List.map_map]
   rfl
  rw [e, h0 0 (by omega), List.dropWhile_cons]
  have : ((UInt8.ofNat 0) == 0) = true := by decide
  rw [this, if_pos rfl, ih (fun k => f (k + 1)) (fun k hk => h0 (k + 1) (by omega)) h1]
  unfold bytF
  congr 1
  funext k
  show UInt8.ofNat (f (i + k + 1)) = UInt8.ofNat (f (i + 1 + k))
  rw [show i + k + 1 = i + 1 + k from by omega]
set_option maxRecDepth 100000 in
set_option maxHeartbeats 4000000 in
theorem refMagAll_any (N : Nat) (hN8 : N ≤ 9223372036854775807) (w : World) :
  Calls Tryz.prog 90 #[.int .i64 (N : Int)] w fun e w' => e = .returned (.string (canon (N : Int)).mag) ∧ Below w.heap.size w w' := by
 by_cases hs : N < 256
 ·exact refMag_any N hs w
 have hc : (canon (N : Int)).mag = ⟨(beb N).toArray⟩ := by
  show (⟨(beb (N : Int).natAbs).toArray⟩ : ByteArray) = _
  rw [Int.natAbs_natCast]
 rw [hc]
 have hs1 : ¬ (N : Int) < 256 := by omega
 go_enter Tryz.func90, Tryz.ntmps90
 go_wp2_with fail
 have hz0 : HAt (w.alloc (.cells #[.int .u8 0, .int .u8 0, .int .u8 0, .int .u8 0, .int .u8 0, .int .u8 0, .int .u8 0, .int .u8 0] 124)) w.heap.size 8 (fun k => .int .u8 ((fun _ => 0 : Nat → Nat) k : Nat)) := by
  have hblk : (w.alloc (.cells #[.int .u8 0, .int .u8 0, .int .u8 0, .int .u8 0, .int .u8 0, .int .u8 0, .int .u8 0, .int .u8 0] 124)).heap[w.heap.size]? = some (.cells #[.int .u8 0, .int .u8 0, .int .u8 0, .int .u8 0, .int .u8 0, .int .u8 0, .int .u8 0, .int .u8 0] 124 (0, 0)) := heap_alloc_new w _
  refine ⟨by simp, fun k hk => ⟨?_, ?_⟩⟩
  ·unfold World.cell?; simp only [hblk]
   match k, hk with
   | 0, _ => rfl
   | 1, _ => rfl
   | 2, _ => rfl
   | 3, _ => rfl
   | 4, _ => rfl
   | 5, _ => rfl
   | 6, _ => rfl
   | 7, _ => rfl
  ·unfold World.frozen?; simp only [hblk]
   simp
 have hb0 := (Below.refl w.heap.size w).alloc (Nat.le_refl _) (.cells #[.int .u8 0, .int .u8 0, .int .u8 0, .int .u8 0, .int .u8 0, .int .u8 0, .int .u8 0, .int .u8 0] 124)
 generalize w.alloc (.cells #[.int .u8 0, .int .u8 0, .int .u8 0, .int .u8 0, .int .u8 0, .int .u8 0, .int .u8 0, .int .u8 0] 124) = w1 at *
 obtain ⟨g, hg⟩ : ∃ g, w.heap.size = g := ⟨_, rfl⟩
 rw [hg] at hz0 ⊢
 have Hz0 := lhd hz0
 have Hb0 := lhd hb0
 clear hz0 hb0
 go_loopw [0, 4] (fun mv v wr => ∃ (m i : Nat) (f : Nat → Nat), i ≤ 8 ∧ m ≤ N ∧ mv = .int .i64 (m : Nat) ∧ v = .int .i64 (i : Nat) ∧ Hid (∀ k, k < 8 → f k < 256) ∧ Hid (∀ k, k < i → f k = 0) ∧ Hid (m = 0 → i < 8 ∧ f i ≠ 0) ∧ Hid (HAt wr g 8 (fun k => .int .u8 (f k : Nat))) ∧ Hid (m * 256 ^ (8 - i) + hN f 8 = N) ∧ Hid (Below w.heap.size w wr)) (fun mv _ _ => (intOf mv).toNat)
 case atStart => exact ⟨N, 8, fun _ => 0, by omega, by omega, rfl, by go_num, lhd (fun _ _ => Nat.zero_lt_succ 255), lhd (fun _ _ => rfl), lhd (fun h => by omega), Hz0, lhd (by rw [hN_zero]; simp), Hb0⟩
 case round =>
  clear Hz0 Hb0
  obtain ⟨m, i, f, hi, hm, rfl, rfl, Hf, Hf0, Hh, HZ, HE, HBw⟩ := hrel
  by_cases hm0 : 0 < m
  ·have m0 : (m : Int) > 0 := by omega
   have hi0 : i ≠ 0 := by
    intro h
    subst h
    have h1 := HE.out
    have h2 : 1 * 256 ^ (8 - 0) ≤ m * 256 ^ (8 - 0) := Nat.mul_le_mul_right _ hm0
    have h3 : (256 : Nat) ^ (8 - 0) = 18446744073709551616 := rfl
    rw [h3] at h1 h2
    omega
   obtain ⟨p, rfl⟩ : ∃ p, i = p + 1 := ⟨i - 1, by omega⟩
   have hp8 : p < 8 := by omega
   have p0 : (0 : Int) ≤ (p : Int) := by omega
   have p8 : (p : Int) < 8 := by omega
   have hpe : (p : Int) + 1 - 1 = (p : Int) := by omega
   obtain ⟨z0, z1⟩ := HZ.out.2 p hp8
   have hu := hN_upd f 8 p (m % 256) hp8
   rw [Hf0.out p (by omega), Nat.zero_mul, Nat.add_zero] at hu
   have hHE : m / 256 * 256 ^ (8 - p) + hN (fun k => if k = p then m % 256 else f k) 8 = N := by
    rw [hu, show 8 - p = 8 - 1 - p + 1 from by omega, Nat.pow_succ, ← HE.out, show 8 - (p + 1) = 8 - 1 - p from by omega]
    have h2 := Nat.div_add_mod m 256
    generalize 256 ^ (8 - 1 - p) = W
    have h3 : m / 256 * (W * 256) = 256 * (m / 256) * W := by rw [Nat.mul_comm W, ← Nat.mul_assoc, Nat.mul_comm (m / 256)]
    have h4 : m * W = 256 * (m / 256) * W + m % 256 * W := by rw [← Nat.add_mul, h2]
    omega
   have HHE := lhd hHE
   clear hHE hu
   go_wp2_with fail
   rw [show (m : Int) / 256 = ((m / 256 : Nat) : Int) from by omega, show (m : Int) % 256 = ((m % 256 : Nat) : Int) from by omega]
   exact ⟨⟨m / 256, p, fun k => if k = p then m % 256 else f k, by omega, by omega, rfl, rfl, lhd (fun k hk => by
     dsimp only
     split
     ·omega
     ·exact Hf.out k hk), lhd (fun k hk => by
     dsimp only
     rw [if_neg (by omega)]
     exact Hf0.out k (by omega)), lhd (fun h => ⟨hp8, by
     dsimp only
     rw [if_pos rfl]
     omega⟩), lhd ((HZ.out.set _).congr fun k hk => by
     dsimp only
     split <;> rfl), HHE, lhd (HBw.out.setCell (by rw [hg]; exact Nat.le_refl _) _)⟩, by simp [intOf] <;> omega⟩
  ·have hme : m = 0 := by omega
   subst hme
   obtain ⟨hi8, hfi⟩ := Hh.out rfl
   obtain ⟨d, hd⟩ : ∃ d, 8 - i = d := ⟨_, rfl⟩
   have hcv := convert_off wr g i d d (fun k => f (i + k)) (fun k hk => Hf.out (i + k) (by omega)) (fun k hk => (HZ.out.2 (i + k) (by omega)).1)
   have hL : bytF (fun k => f (i + k)) d = beb N := by
    have hE := HE.out
    rw [Nat.zero_mul, Nat.zero_add] at hE
    have h1 := beb_bval 8 (bytF f 8) (bytF_len f 8)
    rw [bval_bytF f 8 Hf.out, hE] at h1
    rw [h1, show (8 : Nat) = i + d from by omega, bytF_drop f i d Hf0.out (by have := Hf.out i hi8; omega) (by omega)]
   rw [hL] at hcv
   have hid : (8 : Int) - (i : Int) = (d : Int) := by omega
   have i8 : (i : Int) ≤ 8 := by omega
   have i0 : (0 : Int) ≤ (i : Int) := by omega
   clear hL HE Hf Hf0 Hh HZ hfi
   go_wp2_with fail
   go_ret
   exact ⟨rfl, HBw.out⟩
set_option maxRecDepth 100000 in
set_option maxHeartbeats 4000000 in
theorem refOfAll_any (n : Nat) (hn : n ≤ 9223372036854775807) (w : World) :
  Calls Tryz.prog 63 #[.int .i64 (n : Int)] w (RetZ (canon (n : Int)) w) := by
 have Hm := lhd (refMagAll_any n hn)
 have hne := canon_nonneg n
 generalize canon (n : Int) = Z at *
 obtain ⟨N, M⟩ := Z
 dsimp only at *
 subst hne
 have i0 : (0 : Int) ≤ (n : Int) := by omega
 go_enter Tryz.func63, Tryz.ntmps63
 go_wp2_with (go_at_call 90; go_fit (Hm.out _); rintro e w3 ⟨rfl, hb⟩; have Hb3 := lhd hb; have HA := lhd ((BoxAt.new w (.bool false) (.string ⟨#[]⟩) 24).below hb (by simp)); obtain ⟨a0, a1, a2, a3, _⟩ := HA.out; clear hb)
 refine bodyPost_ret (v := .agg #[.bool false, .string M]) ?_ rfl ⟨rfl, ?_⟩
 ·simp [results, Tryz.results63, go_sem, a0, a1]
 ·have hbe : Below w.heap.size w w3 := ((Below.refl _ _).alloc (Nat.le_refl _) _).trans (Hb3.out.mono (by simp))
  exact (hbe.setCell (by simp) _).setCell (by simp) _
set_option maxRecDepth 100000 in
set_option maxHeartbeats 4000000 in
theorem refOfAllNeg_any (n : Nat) (h0 : 0 < n) (hn : n ≤ 9223372036854775807) (w : World) :
  Calls Tryz.prog 63 #[.int .i64 (-(n : Int))] w (RetZ (canon (-(n : Int))) w) := by
 have Hm := lhd (refMagAll_any n hn)
 have hne : (canon (-(n : Int))).neg = true := by
  show decide (-(n : Int) < 0) = true
  rw [decide_eq_true_eq]; omega
 have hme : (canon (n : Int)).mag = (canon (-(n : Int))).mag := by
  show (⟨(beb (n : Int).natAbs).toArray⟩ : ByteArray) = ⟨(beb (-(n : Int)).natAbs).toArray⟩
  rw [Int.natAbs_neg]
 rw [hme] at Hm
 clear hme
 generalize canon (-(n : Int)) = Z at *
 obtain ⟨N, M⟩ := Z
 dsimp only at *
 subst hne
 have i0 : ¬ (-(n : Int)) ≥ 0 := by omega
 have i1 : (-(n : Int) == -(-(n : Int))) = false := by rw [beq_eq_false_iff_ne]; omega
 have i2 : -(-(n : Int)) = (n : Int) := by omega
 go_enter Tryz.func63, Tryz.ntmps63
 go_wp2_with (go_at_call 90; go_fit (Hm.out _); rintro e w3 ⟨rfl, hb⟩; have Hb3 := lhd hb; have HA := lhd ((BoxAt.new w (.bool false) (.string ⟨#[]⟩) 24).below hb (by simp)); obtain ⟨a0, a1, a2, a3, _⟩ := HA.out; clear hb)
 refine bodyPost_ret (v := .agg #[.bool true, .string M]) ?_ rfl ⟨rfl, ?_⟩
 ·simp [results, Tryz.results63, go_sem, a0, a1]
 ·have hbe : Below w.heap.size w w3 := ((Below.refl _ _).alloc (Nat.le_refl _) _).trans (Hb3.out.mono (by simp))
  exact (hbe.setCell (by simp) _).setCell (by simp) _
theorem refOfInt_any (x : Int) (h0 : -9223372036854775807 ≤ x) (h1 : x ≤ 9223372036854775807) (w : World) :
  Calls Tryz.prog 63 #[.int .i64 x] w (RetZ (canon x) w) := by
 by_cases h : 0 ≤ x
 ·obtain ⟨n, rfl⟩ : ∃ n : Nat, x = n := ⟨x.toNat, by omega⟩
  exact refOfAll_any n (by omega) w
 ·obtain ⟨n, rfl⟩ : ∃ n : Nat, x = -(n : Int) := ⟨(-x).toNat, by omega⟩
  exact refOfAllNeg_any n (by omega) (by omega) w
end Go.Proofs.YtmbamcpndbimaaaGreatDoor
