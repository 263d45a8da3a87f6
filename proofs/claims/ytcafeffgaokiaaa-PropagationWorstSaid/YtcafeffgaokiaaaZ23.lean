/- grooveref01: mag and Of of numbers of one digit. Numbers as bytes: digits, sums, places. grooveref01: addMag. grooveref01: subMag. grooveref01: compareMag. grooveref01: mulMag. grooveref01: mag and Of of any number. -/
import Derived.Test.YtcafeffgaokiaaaZ19
import Derived.Laws.IdiomStrings
import Derived.Test.YtcafeffgaokiaaaZ22
import Derived.Laws.Strings
namespace Go.Proofs.Ytcafeffgaokiaaa
open Go.RowKit

theorem beb_one {n : Nat} (h0 : n ≠ 0) (h : n < 256) : beb n = [UInt8.ofNat n] := by
  rw [beb_pos h0, Nat.div_eq_of_lt h, beb_zero, Nat.mod_eq_of_lt h]; rfl
theorem canon_zero : (canon ((0 : Nat) : Int)).mag = ⟨#[]⟩ := rfl
theorem canon_one {n : Nat} (h0 : n ≠ 0) (h : n < 256) : (canon (n : Int)).mag = ⟨#[UInt8.ofNat n]⟩ := by
  show (⟨(beb (n : Int).natAbs).toArray⟩ : ByteArray) = _
  rw [Int.natAbs_natCast, beb_one h0 h]
theorem canon_nonneg (n : Nat) : (canon (n : Int)).neg = false := by simp [canon]

set_option maxRecDepth 100000 in
set_option maxHeartbeats 4000000 in
theorem refMag_any (n : Nat) (hn : n < 256) (w : World) :
    Calls Try.prog 102 #[.int .i64 (n : Int)] w fun e w' => e = .returned (.string (canon (n : Int)).mag) ∧ Below w.heap.size w w' := by
  by_cases h0 : n = 0
  · subst h0
    rw [canon_zero]
    go_enter Try.func102, Try.ntmps102
    go_wp2
    go_ret
    exact ⟨rfl, Below.refl _ _⟩
  · rw [canon_one h0 hn]
    obtain ⟨y, hy⟩ : ∃ y : UInt8, UInt8.ofNat n = y := ⟨_, rfl⟩
    rw [hy]
    have hyn : y.toNat = n := by rw [← hy]; simp; omega
    subst hyn
    have h2 : (y.toNat : Int) < 256 := by omega
    have h3 : ((y.toNat : Int) == 0) = false := by rw [beq_eq_false_iff_ne]; omega
    have hcv := run_convert_bytes_back (P := Try.prog) (w.alloc (.cells #[.int .u8 (y.toNat : Int)] 5)) 25 9 5 ⟨w.heap.size, 0, none⟩ 1 [y] Try.underlying25 Try.underlying5 Try.underlying9 (fun j hj => by
      match j, (show j < 1 from hj) with
      | 0, _ => simp [Addr.add])
    have hcv2 : (convert 25 9 (.slice (some ⟨w.heap.size, 0, none⟩) 1 1)).run Try.prog (w.alloc (.cells #[.int .u8 (y.toNat : Int)] 5)) = .ok (.string ⟨#[y]⟩) (w.alloc (.cells #[.int .u8 (y.toNat : Int)] 5)) := hcv
    clear hcv hy
    go_enter Try.func102, Try.ntmps102
    go_wp2
    go_ret
    exact ⟨rfl, (Below.refl _ _).alloc (Nat.le_refl _) _⟩

end Go.Proofs.Ytcafeffgaokiaaa

namespace Go.Proofs.Ytcafeffgaokiaaa
open Go.RowKit

theorem bval_digit_aux : ∀ (n : Nat) (l : List UInt8), l.length = n → ∀ i, i < n → ∀ p, p = n - 1 - i → ∀ c, l[p]? = some c → c.toNat = bval l / 256 ^ i % 256
  | 0, _, _, i, hi, _, _, _, _ => absurd hi (Nat.not_lt_zero _)
  | n + 1, l, h, i, hi, p, hp, c, hc => by
    obtain ⟨r, d, rfl⟩ : ∃ r d, l = r ++ [d] := ⟨l.dropLast, l.getLast (fun h0 => by rw [h0] at h; simp at h), (List.dropLast_concat_getLast _).symm⟩
    have hr : r.length = n := by simpa using h
    have hd := UInt8.toNat_lt d
    rw [bval_snoc]
    match i, hi with
    | 0, _ =>
      have e : p = r.length := by omega
      rw [e, List.getElem?_append_right (Nat.le_refl _), Nat.sub_self] at hc
      have : d = c := by simpa using hc
      subst this
      rw [Nat.pow_zero, Nat.div_one]
      omega
    | i + 1, hi =>
      rw [List.getElem?_append_left (by omega)] at hc
      rw [bval_digit_aux n r hr i (by omega) p (by omega) c hc, Nat.pow_succ, Nat.mul_comm (256 ^ i) 256, ← Nat.div_div_eq_div_mul]
      congr 2
      omega
theorem bval_high (l : List UInt8) (i : Nat) (hi : l.length ≤ i) : bval l / 256 ^ i % 256 = 0 := by
  rw [Nat.div_eq_of_lt (Nat.lt_of_lt_of_le (bval_lt l) (Nat.pow_le_pow_right (by decide) hi))]
/-- A number by its digits, the highest first. -/
def hN (f : Nat → Nat) : Nat → Nat
  | 0 => 0
  | n + 1 => hN f n * 256 + f n
theorem hN_congr {f g : Nat → Nat} {n : Nat} (h : ∀ k, k < n → f k = g k) : hN f n = hN g n := by
  induction n with
  | zero => rfl
  | succ n ih => rw [hN, hN, ih fun k hk => h k (by omega), h n (by omega)]
theorem hN_upd (f : Nat → Nat) (n p v : Nat) (hp : p < n) : hN (fun k => if k = p then v else f k) n + f p * 256 ^ (n - 1 - p) = hN f n + v * 256 ^ (n - 1 - p) := by
  induction n with
  | zero => omega
  | succ n ih =>
    rw [hN, hN]
    by_cases e : p = n
    · subst e
      rw [if_pos rfl, hN_congr (g := f) fun k hk => if_neg (by omega), show p + 1 - 1 - p = 0 from by omega]
      omega
    · have h := ih (by omega)
      rw [if_neg (by omega), show n + 1 - 1 - p = n - 1 - p + 1 from by omega, Nat.pow_succ]
      generalize 256 ^ (n - 1 - p) = W at *
      have e1 : f p * (W * 256) = f p * W * 256 := (Nat.mul_assoc ..).symm
      have e2 : v * (W * 256) = v * W * 256 := (Nat.mul_assoc ..).symm
      rw [e1, e2]
      omega
theorem hN_zero (n : Nat) : hN (fun _ => 0) n = 0 := by
  induction n with
  | zero => rfl
  | succ n ih => rw [hN, ih]
theorem hN_dig (X n : Nat) : hN (fun k => X / 256 ^ (n - 1 - k) % 256) n = X % 256 ^ n := by
  induction n generalizing X with
  | zero => rw [hN, Nat.pow_zero, Nat.mod_one]
  | succ n ih =>
    rw [hN]
    have e : hN (fun k => X / 256 ^ (n + 1 - 1 - k) % 256) n = hN (fun k => X / 256 / 256 ^ (n - 1 - k) % 256) n := hN_congr fun k hk => by
      rw [Nat.div_div_eq_div_mul, ← Nat.pow_succ', show n + 1 - 1 - k = n - 1 - k + 1 from by omega]
    rw [e, ih, show n + 1 - 1 - n = 0 from by omega, Nat.pow_zero, Nat.div_one, Nat.pow_succ', Nat.mod_mul]
    omega
/-- Bytes by their numbers. -/
def bytF (f : Nat → Nat) (n : Nat) : List UInt8 := (List.range n).map fun k => UInt8.ofNat (f k)
theorem bytF_len (f : Nat → Nat) (n : Nat) : (bytF f n).length = n := by simp [bytF]
theorem bytF_succ (f : Nat → Nat) (n : Nat) : bytF f (n + 1) = bytF f n ++ [UInt8.ofNat (f n)] := by unfold bytF; rw [List.range_succ, List.map_append]; rfl
theorem bval_bytF (f : Nat → Nat) (n : Nat) (h : ∀ k, k < n → f k < 256) : bval (bytF f n) = hN f n := by
  induction n with
  | zero => rfl
  | succ n ih =>
    rw [bytF_succ, bval_snoc, ih fun k hk => h k (by omega), hN]
    have := h n (by omega)
    congr 1
    simp
    omega
/-- One step of an addition. -/
theorem add_step (A B P : Nat) (hP : 0 < P) : let t := (A % P + B % P) / P + A / P % 256 + B / P % 256; t % 256 = (A + B) / P % 256 ∧ t / 256 = (A % (P * 256) + B % (P * 256)) / (P * 256) := by
  intro t
  have hA : A % (P * 256) = A % P + P * (A / P % 256) := Nat.mod_mul
  have hB : B % (P * 256) = B % P + P * (B / P % 256) := Nat.mod_mul
  have ht : t = (A % (P * 256) + B % (P * 256)) / P := by
    rw [hA, hB, show A % P + P * (A / P % 256) + (B % P + P * (B / P % 256)) = A % P + B % P + P * (A / P % 256 + B / P % 256) from by rw [Nat.mul_add]; omega, Nat.add_mul_div_left _ _ hP]
    show _ = _
    omega
  rw [ht]
  constructor
  · rw [← Nat.mod_mul_right_div_self, ← Nat.mod_mul_right_div_self, ← Nat.add_mod]
  · rw [Nat.div_div_eq_div_mul]
end Go.Proofs.Ytcafeffgaokiaaa

namespace Go.Proofs.Ytcafeffgaokiaaa
open Go.RowKit

theorem u8Info : (Try.prog.info? 5).map (fun i => (i.zero, i.size, i.bytes)) = some (some (.int .u8 0), 1, 1) := by kernel_rfl
set_option maxRecDepth 100000 in
theorem make_u8 (n : Nat) (h : n ≤ 1000000000) (w : World) :
    (Instr.makeSlice 25 (.int .i64 (n : Int)) (.int .i64 (n : Int))).run Try.prog w = .ok (.slice (some ⟨w.heap.size, 0, none⟩) n n) (w.alloc (.cells (madeCells #[.int .u8 0] n) 5)) :=
  run_make_row' 25 5 (.int .u8 0) 1 Try.underlying25 u8Info rfl .i64 .i64 n (by omega) (by omega) w
set_option maxRecDepth 100000 in
theorem made_u8 (w : World) (n : Nat) (t : TypeId) : HAt (w.alloc (.cells (madeCells #[.int .u8 0] n) t)) w.heap.size n (fun _ => .int .u8 0) := by
  have hblk : (w.alloc (.cells (madeCells #[.int .u8 0] n) t)).heap[w.heap.size]? = some (.cells (madeCells #[.int .u8 0] n) t (0, 0)) := heap_alloc_new w _
  refine ⟨by simp, fun k hk => ⟨?_, ?_⟩⟩
  · unfold World.cell?; simp only [hblk]
    simp only [madeCells]
    simp [hk, Nat.mod_one]
  · unfold World.frozen?; simp only [hblk]
    simp
/-- A string's byte, counted from its end. -/
theorem byte_end (a : ByteArray) (i p : Nat) (hp : p + 1 + i = a.size) (h : p < a.size) : (a[p]'h).toNat = bval a.data.toList / 256 ^ i % 256 := by
  have hl : a.data.toList.length = a.size := by rw [Array.length_toList]; rfl
  exact bval_digit_aux a.size a.data.toList hl i (by omega) p (by omega) (a[p]'h) (by
    have : p < a.data.toList.length := by omega
    rw [List.getElem?_eq_getElem this]
    rfl)
theorem bytF_get (f : Nat → Nat) (n j : Nat) (hj : j < (bytF f n).length) (hf : f j < 256) : ((bytF f n)[j]).toNat = f j := by
  have h1 : (bytF f n)[j]? = some (UInt8.ofNat (f j)) := by
    unfold bytF
    rw [bytF_len] at hj
    rw [List.getElem?_map, List.getElem?_range hj]; rfl
  rw [List.getElem?_eq_getElem hj] at h1
  rw [Option.some.inj h1]
  simp
  omega
/-- string(b) of the bytes of a block. -/
theorem convert_hat (w : World) (g n cap : Nat) (f : Nat → Nat) (hf : ∀ k, k < n → f k < 256) (h : HAt w g n (fun k => .int .u8 (f k : Nat))) :
    (convert 25 9 (.slice (some ⟨g, 0, none⟩) n cap)).run Try.prog w = .ok (.string ⟨(bytF f n).toArray⟩) w := by
  have hcv := run_convert_bytes_back (P := Try.prog) w 25 9 5 ⟨g, 0, none⟩ cap (bytF f n) Try.underlying25 Try.underlying5 Try.underlying9 (fun j hj => by
    have hj2 := hj
    rw [bytF_len] at hj2
    rw [Addr.add_lit, Nat.zero_add, (h.2 j hj2).1, bytF_get f n j hj (hf j hj2)])
  rwa [bytF_len] at hcv
def addC (a b : ByteArray) (i : Nat) : Nat := (bval a.data.toList % 256 ^ i + bval b.data.toList % 256 ^ i) / 256 ^ i
theorem addC_le (a b : ByteArray) (i : Nat) : addC a b i ≤ 1 := by
  unfold addC
  have hP : 0 < 256 ^ i := Nat.pow_pos (by decide)
  have h1 := Nat.mod_lt (bval a.data.toList) hP
  have h2 := Nat.mod_lt (bval b.data.toList) hP
  have : (bval a.data.toList % 256 ^ i + bval b.data.toList % 256 ^ i) / 256 ^ i < 2 := by
    rw [Nat.div_lt_iff_lt_mul hP]; omega
  omega
theorem addC_zero (a b : ByteArray) : addC a b 0 = 0 := by
  unfold addC
  rw [Nat.pow_zero, Nat.mod_one, Nat.mod_one]
theorem addC_step (a b : ByteArray) (i : Nat) : (addC a b i + bval a.data.toList / 256 ^ i % 256 + bval b.data.toList / 256 ^ i % 256) % 256 = (bval a.data.toList + bval b.data.toList) / 256 ^ i % 256 ∧ (addC a b i + bval a.data.toList / 256 ^ i % 256 + bval b.data.toList / 256 ^ i % 256) / 256 = addC a b (i + 1) := by
  have h := add_step (bval a.data.toList) (bval b.data.toList) (256 ^ i) (Nat.pow_pos (by decide))
  unfold addC
  rw [Nat.pow_succ]
  exact h
set_option maxRecDepth 100000 in
set_option maxHeartbeats 4000000 in
theorem refAddMag_any (a b : ByteArray) (ha : a.size < 100000000) (hb : b.size < 100000000) (w : World) :
    Calls Try.prog 148 #[.string a, .string b] w fun e w' => e = .returned (.string ⟨(beb (bval a.data.toList + bval b.data.toList)).toArray⟩) ∧ Below w.heap.size w w' := by
  obtain ⟨n, hn⟩ : ∃ n : Nat, max a.size b.size + 1 = n := ⟨_, rfl⟩
  go_enter Try.func148, Try.ntmps148
  go_upto_region 1 with (fail)
  go_cut [5] (fun v wx => v = .int .i64 (n : Int) ∧ wx = w)
  case first =>
    go_wp2_with fail
    all_goals
      go_meet
      exact ⟨by congr 1; omega, rfl⟩
  case rest =>
    obtain ⟨rfl, rfl⟩ := hcut
    have hmk := make_u8 n (by omega) wc
    have hz0 := made_u8 wc n 5
    have hb0 := (Below.refl wc.heap.size wc).alloc (Nat.le_refl _) (.cells (madeCells #[.int .u8 0] n) 5)
    generalize wc.alloc (.cells (madeCells #[.int .u8 0] n) 5) = w1 at *
    obtain ⟨g, hg⟩ : ∃ g, wc.heap.size = g := ⟨_, rfl⟩
    rw [hg] at hmk hz0
    have Hz0 : Hid (HAt w1 g n (fun k => .int .u8 (if n ≤ k + 0 then (bval a.data.toList + bval b.data.toList) / 256 ^ (n - 1 - k) % 256 else 0 : Nat))) := Lib.hid (hz0.congr fun k hk => by rw [if_neg (by omega)]; rfl)
    have Hb0 := Lib.hid hb0
    clear hz0 hb0
    go_wp2_with fail
    go_loopw [7, 8] (fun c v wr => ∃ i : Nat, i ≤ n ∧ v = .int .i64 ((i : Int) + 1) ∧ c = .int .i64 (addC a b i : Nat) ∧ Hid (HAt wr g n (fun k => .int .u8 (if n ≤ k + i then (bval a.data.toList + bval b.data.toList) / 256 ^ (n - 1 - k) % 256 else 0 : Nat))) ∧ Hid (Below wc.heap.size wc wr)) (fun _ v _ => (n : Int).toNat + 1 - (intOf v).toNat)
    case atStart => exact ⟨0, by omega, by go_num, by rw [addC_zero]; rfl, Hz0, Hb0⟩
    case round =>
      clear Hz0 Hb0 hmk
      obtain ⟨i, hi, rfl, rfl, HZ, HB⟩ := hrel
      by_cases hlt : i < n
      · have i1 : (i : Int) + 1 ≤ (n : Int) := by omega
        have hq : (n : Int) - ((i : Int) + 1) = ((n - 1 - i : Nat) : Int) := by omega
        obtain ⟨q, hqe⟩ : ∃ q, n - 1 - i = q := ⟨_, rfl⟩
        rw [hqe] at hq
        have hqn : q < n := by omega
        obtain ⟨hs1, hs2⟩ := addC_step a b i
        have hcl := addC_le a b i
        obtain ⟨c, hc⟩ : ∃ c, addC a b i = c := ⟨_, rfl⟩
        obtain ⟨z0, z1⟩ := HZ.out.2 q hqn
        rw [hc] at hs1 hs2 hcl ⊢
        have HN : Hid (∀ t : Nat, t = c + bval a.data.toList / 256 ^ i % 256 + bval b.data.toList / 256 ^ i % 256 → ((t / 256 : Nat) : Int) = ((addC a b (i + 1) : Nat) : Int) ∧ HAt (wr.setCell ⟨g, q, none⟩ (.int .u8 ((t % 256 : Nat) : Int))) g n (fun k => .int .u8 (if n ≤ k + (i + 1) then (bval a.data.toList + bval b.data.toList) / 256 ^ (n - 1 - k) % 256 else 0 : Nat)) ∧ Below wc.heap.size wc (wr.setCell ⟨g, q, none⟩ (.int .u8 ((t % 256 : Nat) : Int)))) := Lib.hid (fun t ht => by
          subst ht
          refine ⟨by rw [hs2], (HZ.out.set _).congr fun k hk => ?_, HB.out.setCell (by rw [hg]; exact Nat.le_refl _) _⟩
          by_cases e : k = q
          · rw [if_pos e, if_pos (by omega), hs1, show n - 1 - k = i from by omega]
          · rw [if_neg e]
            by_cases e2 : n ≤ k + i
            · rw [if_pos e2, if_pos (by omega)]
            · rw [if_neg e2, if_neg (by omega)])
        have hil : ∀ s : ByteArray, s.data.toList.length = s.size := fun s => by rw [Array.length_toList]; rfl
        clear hs1 hs2
        by_cases ja : i + 1 ≤ a.size
        · have i2 : (i : Int) + 1 ≤ (a.size : Int) := by omega
          obtain ⟨p, hp⟩ : ∃ p : Nat, p + 1 + i = a.size := ⟨a.size - 1 - i, by omega⟩
          have hpa : (a.size : Int) - ((i : Int) + 1) = (p : Int) := by omega
          have hpl : p < a.size := by omega
          have hpl' : (p : Int) < (a.size : Int) := by omega
          obtain ⟨x, hx⟩ : ∃ x, (a[p]'hpl).toNat = x := ⟨_, rfl⟩
          have hx2 : x < 256 := by rw [← hx]; exact UInt8.toNat_lt _
          have Hx := Lib.hid (hx.symm.trans (byte_end a i p hp hpl))
          clear hp
          by_cases jb : i + 1 ≤ b.size
          · have i3 : (i : Int) + 1 ≤ (b.size : Int) := by omega
            obtain ⟨r, hr⟩ : ∃ r : Nat, r + 1 + i = b.size := ⟨b.size - 1 - i, by omega⟩
            have hrb : (b.size : Int) - ((i : Int) + 1) = (r : Int) := by omega
            have hrl : r < b.size := by omega
            have hrl' : (r : Int) < (b.size : Int) := by omega
            obtain ⟨y, hy⟩ : ∃ y, (b[r]'hrl).toNat = y := ⟨_, rfl⟩
            have hy2 : y < 256 := by rw [← hy]; exact UInt8.toNat_lt _
            have Hy := Lib.hid (hy.symm.trans (byte_end b i r hr hrl))
            clear hr
            go_wp2_with fail
            obtain ⟨n1, n2, n3⟩ := HN.out (c + x + y) (by rw [Hx.out, Hy.out])
            rw [show ((c : Int) + x + y) / 256 = ((c + x + y) / 256 : Nat) from by omega, show ((c : Int) + x + y) % 256 = ((c + x + y) % 256 : Nat) from by omega]
            exact ⟨⟨i + 1, by omega, by congr 1, by rw [n1], Lib.hid n2, Lib.hid n3⟩, by simp [intOf]; omega⟩
          · have i3 : ¬ (i : Int) + 1 ≤ (b.size : Int) := by omega
            have hy0 := bval_high b.data.toList i (by rw [hil]; omega)
            go_wp2_with fail
            obtain ⟨n1, n2, n3⟩ := HN.out (c + x) (by rw [Hx.out, hy0]; rfl)
            rw [show ((c : Int) + x) / 256 = ((c + x) / 256 : Nat) from by omega, show ((c : Int) + x) % 256 = ((c + x) % 256 : Nat) from by omega]
            exact ⟨⟨i + 1, by omega, by congr 1, by rw [n1], Lib.hid n2, Lib.hid n3⟩, by simp [intOf]; omega⟩
        · have i2 : ¬ (i : Int) + 1 ≤ (a.size : Int) := by omega
          have hx0 := bval_high a.data.toList i (by rw [hil]; omega)
          by_cases jb : i + 1 ≤ b.size
          · have i3 : (i : Int) + 1 ≤ (b.size : Int) := by omega
            obtain ⟨r, hr⟩ : ∃ r : Nat, r + 1 + i = b.size := ⟨b.size - 1 - i, by omega⟩
            have hrb : (b.size : Int) - ((i : Int) + 1) = (r : Int) := by omega
            have hrl : r < b.size := by omega
            have hrl' : (r : Int) < (b.size : Int) := by omega
            obtain ⟨y, hy⟩ : ∃ y, (b[r]'hrl).toNat = y := ⟨_, rfl⟩
            have hy2 : y < 256 := by rw [← hy]; exact UInt8.toNat_lt _
            have Hy := Lib.hid (hy.symm.trans (byte_end b i r hr hrl))
            clear hr
            go_wp2_with fail
            obtain ⟨n1, n2, n3⟩ := HN.out (c + y) (by rw [hx0, Hy.out]; rfl)
            rw [show ((c : Int) + y) / 256 = ((c + y) / 256 : Nat) from by omega, show ((c : Int) + y) % 256 = ((c + y) % 256 : Nat) from by omega]
            exact ⟨⟨i + 1, by omega, by congr 1, by rw [n1], Lib.hid n2, Lib.hid n3⟩, by simp [intOf]; omega⟩
          · have i3 : ¬ (i : Int) + 1 ≤ (b.size : Int) := by omega
            have hy0 := bval_high b.data.toList i (by rw [hil]; omega)
            go_wp2_with fail
            obtain ⟨n1, n2, n3⟩ := HN.out c (by rw [hx0, hy0]; rfl)
            rw [show c % 256 = c from by omega] at n2 n3
            rw [show (c : Int) / 256 = (c / 256 : Nat) from by omega]
            exact ⟨⟨i + 1, by omega, by congr 1, by rw [n1], Lib.hid n2, Lib.hid n3⟩, by simp [intOf]; omega⟩
      · have i1 : ¬ (i : Int) + 1 ≤ (n : Int) := by omega
        have hin : i = n := by omega
        subst hin
        have hdl : ∀ k, k < i → (bval a.data.toList + bval b.data.toList) / 256 ^ (i - 1 - k) % 256 < 256 := fun k _ => Nat.mod_lt _ (by decide)
        have hlen : ∀ s : ByteArray, s.data.toList.length = s.size := fun s => by rw [Array.length_toList]; rfl
        have hsum : bval a.data.toList + bval b.data.toList < 256 ^ i := by
          have h1 := bval_lt a.data.toList
          have h2 := bval_lt b.data.toList
          rw [hlen] at h1 h2
          have h3 : 256 ^ a.size ≤ 256 ^ (i - 1) := Nat.pow_le_pow_right (by decide) (by omega)
          have h4 : 256 ^ b.size ≤ 256 ^ (i - 1) := Nat.pow_le_pow_right (by decide) (by omega)
          obtain ⟨m, rfl⟩ : ∃ m, i = m + 1 := ⟨i - 1, by omega⟩
          rw [Nat.pow_succ]
          rw [show m + 1 - 1 = m from by omega] at h3 h4
          omega
        have hval : bval (bytF (fun k => (bval a.data.toList + bval b.data.toList) / 256 ^ (i - 1 - k) % 256) i) = bval a.data.toList + bval b.data.toList := by
          rw [bval_bytF _ _ hdl, hN_dig, Nat.mod_eq_of_lt hsum]
        have hcv := convert_hat wr g i i (fun k => (bval a.data.toList + bval b.data.toList) / 256 ^ (i - 1 - k) % 256) hdl (HZ.out.congr fun k hk => by rw [if_pos (by omega)])
        have HT := Lib.hid (refTrim_any ⟨(bytF (fun k => (bval a.data.toList + bval b.data.toList) / 256 ^ (i - 1 - k) % 256) i).toArray⟩ (by
          show (bytF _ i).toArray.size ≤ _
          rw [List.size_toArray, bytF_len]; omega) wr)
        have HVl : Hid (bval ((⟨(bytF (fun k => (bval a.data.toList + bval b.data.toList) / 256 ^ (i - 1 - k) % 256) i).toArray⟩ : ByteArray).data.toList) = bval a.data.toList + bval b.data.toList) := Lib.hid hval
        generalize (⟨(bytF (fun k => (bval a.data.toList + bval b.data.toList) / 256 ^ (i - 1 - k) % 256) i).toArray⟩ : ByteArray) = t at *
        clear hval hsum hdl hlen HZ
        go_wp2_with fail
        refine HT.out.mono ?_
        rintro e w9 ⟨rfl, rfl⟩
        dsimp only
        go_wp2
        go_ret
        exact ⟨by rw [HVl.out]; rfl, HB.out⟩
end Go.Proofs.Ytcafeffgaokiaaa

namespace Go.Proofs.Ytcafeffgaokiaaa
open Go.RowKit

/-- One step of a subtraction. -/
theorem sub_step (A B P c E x y c' e : Nat) (hx : A / P % 256 = x) (hy : B / P % 256 = y) (h : A % P + c * P = B % P + E) (he : x + 256 * c' = y + e + c) :
    A % (P * 256) + c' * (P * 256) = B % (P * 256) + (E + e * P) := by
  have hA : A % (P * 256) = A % P + P * (A / P % 256) := Nat.mod_mul
  have hB : B % (P * 256) = B % P + P * (B / P % 256) := Nat.mod_mul
  rw [hA, hB, hx, hy]
  have h2 : P * (x + 256 * c') = P * (y + e + c) := by rw [he]
  rw [Nat.mul_add, Nat.mul_add, Nat.mul_add] at h2
  have e1 : c' * (P * 256) = P * (256 * c') := by rw [Nat.mul_comm c', Nat.mul_assoc]
  have e2 : e * P = P * e := Nat.mul_comm ..
  have e3 : c * P = P * c := Nat.mul_comm ..
  omega
set_option maxRecDepth 100000 in
set_option maxHeartbeats 4000000 in
theorem refSubMag_any (a b : ByteArray) (ha : a.size ≤ 100000000) (hab : b.size ≤ a.size) (hAB : bval b.data.toList ≤ bval a.data.toList) (w : World) :
    Calls Try.prog 149 #[.string a, .string b] w fun e w' => e = .returned (.string ⟨(beb (bval a.data.toList - bval b.data.toList)).toArray⟩) ∧ Below w.heap.size w w' := by
  have hmk := make_u8 a.size (by omega) w
  have hz0 := made_u8 w a.size 5
  have hb0 := (Below.refl w.heap.size w).alloc (Nat.le_refl _) (.cells (madeCells #[.int .u8 0] a.size) 5)
  generalize w.alloc (.cells (madeCells #[.int .u8 0] a.size) 5) = w1 at *
  obtain ⟨g, hg⟩ : ∃ g, w.heap.size = g := ⟨_, rfl⟩
  rw [hg] at hmk hz0
  have hlen : ∀ s : ByteArray, s.data.toList.length = s.size := fun s => by rw [Array.length_toList]; rfl
  have Hz0 : Hid (HAt w1 g a.size (fun k => .int .u8 ((fun _ => 0 : Nat → Nat) k : Nat))) := Lib.hid hz0
  have Hb0 := Lib.hid hb0
  have HAB := Lib.hid hAB
  obtain ⟨A, hA⟩ : ∃ A, bval a.data.toList = A := ⟨_, rfl⟩
  obtain ⟨B, hB⟩ : ∃ B, bval b.data.toList = B := ⟨_, rfl⟩
  have HA := Lib.hid hA
  have HB := Lib.hid hB
  clear hz0 hb0 hAB hA hB
  go_enter Try.func149, Try.ntmps149
  go_wp2_with fail
  go_loopw [6, 7] (fun br v wr => ∃ (i c : Nat) (f : Nat → Nat), i ≤ a.size ∧ v = .int .i64 ((i : Int) + 1) ∧ br = .int .i64 (c : Nat) ∧ c ≤ 1 ∧ Hid (∀ k, k < a.size → f k < 256) ∧ Hid (∀ k, k + i < a.size → f k = 0) ∧ Hid (HAt wr g a.size (fun k => .int .u8 (f k : Nat))) ∧ Hid (A % 256 ^ i + c * 256 ^ i = B % 256 ^ i + hN f a.size) ∧ Hid (Below w.heap.size w wr)) (fun _ v _ => a.size + 1 - (intOf v).toNat)
  case atStart => exact ⟨0, 0, fun _ => 0, by omega, by go_num, rfl, by omega, Lib.hid (fun _ _ => Nat.zero_lt_succ 255), Lib.hid (fun _ _ => rfl), Hz0, Lib.hid (by rw [hN_zero, Nat.pow_zero, Nat.mod_one, Nat.mod_one]), Hb0⟩
  case round =>
    clear Hz0 Hb0 hmk
    obtain ⟨i, c, f, hi, rfl, rfl, hc1, Hf, Hf0, HZ, HE, HBw⟩ := hrel
    by_cases hlt : i < a.size
    · have i1 : (i : Int) + 1 ≤ (a.size : Int) := by omega
      obtain ⟨p, hp⟩ : ∃ p : Nat, p + 1 + i = a.size := ⟨a.size - 1 - i, by omega⟩
      have hpa : (a.size : Int) - ((i : Int) + 1) = (p : Int) := by omega
      have hpl : p < a.size := by omega
      have hpl' : (p : Int) < (a.size : Int) := by omega
      obtain ⟨z0, z1⟩ := HZ.out.2 p (by omega)
      obtain ⟨x, hx⟩ : ∃ x, (a[p]'hpl).toNat = x := ⟨_, rfl⟩
      have hx2 : x < 256 := by rw [← hx]; exact UInt8.toNat_lt _
      have hxd := hx.symm.trans (byte_end a i p hp hpl)
      have HN : Hid (∀ (y e c' : Nat), B / 256 ^ i % 256 = y → x + 256 * c' = y + e + c → e < 256 → c' ≤ 1 → ∃ f' : Nat → Nat, (∀ k, k < a.size → f' k < 256) ∧ (∀ k, k + (i + 1) < a.size → f' k = 0) ∧ HAt (wr.setCell ⟨g, p, none⟩ (.int .u8 (e : Nat))) g a.size (fun k => .int .u8 (f' k : Nat)) ∧ A % 256 ^ (i + 1) + c' * 256 ^ (i + 1) = B % 256 ^ (i + 1) + hN f' a.size) := Lib.hid (fun y e c' hy he he2 hc2 => by
        refine ⟨fun k => if k = p then e else f k, fun k hk => ?_, fun k hk => ?_, (HZ.out.set _).congr fun k hk => ?_, ?_⟩
        · dsimp only
          split
          · exact he2
          · exact Hf.out k hk
        · dsimp only
          rw [if_neg (by omega)]
          exact Hf0.out k (by omega)
        · dsimp only
          split <;> rfl
        · have hu := hN_upd f a.size p e (by omega)
          rw [Hf0.out p (by omega), Nat.zero_mul, Nat.add_zero, show a.size - 1 - p = i from by omega] at hu
          rw [hu, Nat.pow_succ]
          exact sub_step A B (256 ^ i) c (hN f a.size) x y c' e (by rw [← HA.out]; exact hxd.symm) hy HE.out he)
      have Hxd := Lib.hid hxd
      clear hxd hp
      by_cases jb : i + 1 ≤ b.size
      · have i3 : (i : Int) + 1 ≤ (b.size : Int) := by omega
        obtain ⟨r, hr⟩ : ∃ r : Nat, r + 1 + i = b.size := ⟨b.size - 1 - i, by omega⟩
        have hrb : (b.size : Int) - ((i : Int) + 1) = (r : Int) := by omega
        have hrl : r < b.size := by omega
        have hrl' : (r : Int) < (b.size : Int) := by omega
        obtain ⟨y, hy⟩ : ∃ y, (b[r]'hrl).toNat = y := ⟨_, rfl⟩
        have hy2 : y < 256 := by rw [← hy]; exact UInt8.toNat_lt _
        have Hy := Lib.hid (hy.symm.trans (byte_end b i r hr hrl))
        clear hr
        by_cases hd : x < c + y
        · have hd1 : (x : Int) - (c : Int) - (y : Int) < 0 := by omega
          go_wp2_with fail
          obtain ⟨f', f1, f2, f3, f4⟩ := HN.out y (x + 256 - c - y) 1 (by rw [← HB.out]; exact Hy.out.symm) (by omega) (by omega) (by omega)
          rw [show (x : Int) - (c : Int) - (y : Int) + 256 = ((x + 256 - c - y : Nat) : Int) from by omega]
          exact ⟨⟨i + 1, 1, f', by omega, by congr 1, rfl, by omega, Lib.hid f1, Lib.hid f2, Lib.hid f3, Lib.hid f4, Lib.hid (HBw.out.setCell (by rw [hg]; exact Nat.le_refl _) _)⟩, by simp [intOf]; omega⟩
        · have hd1 : ¬ (x : Int) - (c : Int) - (y : Int) < 0 := by omega
          go_wp2_with fail
          obtain ⟨f', f1, f2, f3, f4⟩ := HN.out y (x - c - y) 0 (by rw [← HB.out]; exact Hy.out.symm) (by omega) (by omega) (by omega)
          rw [show (x : Int) - (c : Int) - (y : Int) = ((x - c - y : Nat) : Int) from by omega]
          exact ⟨⟨i + 1, 0, f', by omega, by congr 1, rfl, by omega, Lib.hid f1, Lib.hid f2, Lib.hid f3, Lib.hid f4, Lib.hid (HBw.out.setCell (by rw [hg]; exact Nat.le_refl _) _)⟩, by simp [intOf]; omega⟩
      · have i3 : ¬ (i : Int) + 1 ≤ (b.size : Int) := by omega
        have hy0 : B / 256 ^ i % 256 = 0 := by rw [← HB.out]; exact bval_high b.data.toList i (by rw [hlen]; omega)
        have Hy0 := Lib.hid hy0
        clear hy0
        by_cases hd : x < c
        · have hd1 : (x : Int) - (c : Int) < 0 := by omega
          go_wp2_with fail
          obtain ⟨f', f1, f2, f3, f4⟩ := HN.out 0 (x + 256 - c) 1 (Hy0.out) (by omega) (by omega) (by omega)
          rw [show (x : Int) - (c : Int) + 256 = ((x + 256 - c : Nat) : Int) from by omega]
          exact ⟨⟨i + 1, 1, f', by omega, by congr 1, rfl, by omega, Lib.hid f1, Lib.hid f2, Lib.hid f3, Lib.hid f4, Lib.hid (HBw.out.setCell (by rw [hg]; exact Nat.le_refl _) _)⟩, by simp [intOf]; omega⟩
        · have hd1 : ¬ (x : Int) - (c : Int) < 0 := by omega
          go_wp2_with fail
          obtain ⟨f', f1, f2, f3, f4⟩ := HN.out 0 (x - c) 0 (Hy0.out) (by omega) (by omega) (by omega)
          rw [show (x : Int) - (c : Int) = ((x - c : Nat) : Int) from by omega]
          exact ⟨⟨i + 1, 0, f', by omega, by congr 1, rfl, by omega, Lib.hid f1, Lib.hid f2, Lib.hid f3, Lib.hid f4, Lib.hid (HBw.out.setCell (by rw [hg]; exact Nat.le_refl _) _)⟩, by simp [intOf]; omega⟩
    · have i1 : ¬ (i : Int) + 1 ≤ (a.size : Int) := by omega
      have hin : i = a.size := by omega
      have hbb := bval_bytF f a.size Hf.out
      have hE := HE.out
      rw [hin] at hE
      have hAl : A < 256 ^ a.size := by rw [← HA.out, ← hlen]; exact bval_lt _
      have hBA : B ≤ A := by rw [← HA.out, ← HB.out]; exact HAB.out
      have hEl : hN f a.size < 256 ^ a.size := by
        have h := bval_lt (bytF f a.size)
        rwa [bytF_len, hbb] at h
      have hres : hN f a.size = A - B := by
        rw [Nat.mod_eq_of_lt hAl, Nat.mod_eq_of_lt (Nat.lt_of_le_of_lt hBA hAl)] at hE
        have hc : c = 0 ∨ c = 1 := by omega
        rcases hc with rfl | rfl
        · omega
        · omega
      have hcv := convert_hat wr g a.size a.size f Hf.out HZ.out
      have HT := Lib.hid (refTrim_any ⟨(bytF f a.size).toArray⟩ (by
        show (bytF f a.size).toArray.size ≤ _
        rw [List.size_toArray, bytF_len]; omega) wr)
      have HVl : Hid (bval ((⟨(bytF f a.size).toArray⟩ : ByteArray).data.toList) = A - B) := Lib.hid (by
        show bval (bytF f a.size) = _
        rw [hbb, hres])
      generalize (⟨(bytF f a.size).toArray⟩ : ByteArray) = t at *
      rw [HVl.out] at HT
      clear hbb hE hAl hBA hEl hres hin HE HVl Hf Hf0 HZ
      go_wp2_with fail
      refine HT.out.mono ?_
      rintro e w9 ⟨rfl, rfl⟩
      dsimp only
      go_wp2
      go_ret
      exact ⟨by rw [HA.out, HB.out]; rfl, HBw.out⟩
end Go.Proofs.Ytcafeffgaokiaaa

namespace Go.Proofs.Ytcafeffgaokiaaa
open Go.RowKit

def cmpV (A B : Nat) : Int := if A < B then -1 else if B < A then 1 else 0
theorem bytesLess_bval : ∀ (l m : List UInt8), l.length = m.length → Op.bytesLess l m = decide (bval l < bval m)
  | [], [], _ => by simp [Op.bytesLess]
  | a :: x, b :: y, h => by
    have hl : x.length = y.length := by simpa using h
    have ih := bytesLess_bval x y hl
    have h1 := bval_lt x
    have h2 := bval_lt y
    rw [bval_cons, bval_cons, hl]
    rw [hl] at h1
    rw [Op.bytesLess, ih]
    generalize 256 ^ y.length = P at *
    by_cases hab : a < b
    · have hab2 : a.toNat + 1 ≤ b.toNat := UInt8.lt_iff_toNat_lt.1 hab
      have := Nat.mul_le_mul_right P hab2
      rw [Nat.add_mul, Nat.one_mul] at this
      rw [decide_eq_true hab, Bool.true_or, eq_comm, decide_eq_true_eq]
      omega
    · rw [decide_eq_false hab, Bool.false_or]
      by_cases he : a = b
      · subst he
        rw [beq_self_eq_true, Bool.true_and]
        congr 1
        rw [eq_iff_iff]
        omega
      · have hba : b.toNat + 1 ≤ a.toNat := by
          have h3 : ¬ a.toNat < b.toNat := fun h => hab (UInt8.lt_iff_toNat_lt.2 h)
          have h4 : a.toNat ≠ b.toNat := fun h => he (UInt8.toNat_inj.1 h)
          omega
        have := Nat.mul_le_mul_right P hba
        rw [Nat.add_mul, Nat.one_mul] at this
        have hf : (a == b) = false := by rw [beq_eq_false_iff_ne]; exact he
        rw [hf, Bool.false_and, eq_comm, decide_eq_false_iff_not]
        omega
theorem beb_short {A B : Nat} (h : (beb A).length < (beb B).length) : A < B := by
  have h1 := bval_lt (beb A)
  rw [bval_beb] at h1
  have h2 : ¬ B < 256 ^ (beb A).length := fun h3 => by
    have := beb_len (beb A).length h3
    omega
  omega
set_option maxRecDepth 100000 in
set_option maxHeartbeats 4000000 in
theorem refCmpMag_any (A B : Nat) (w : World) :
    Calls Try.prog 138 #[.string ⟨(beb A).toArray⟩, .string ⟨(beb B).toArray⟩] w fun e w' => e = .returned (.int .i64 (cmpV A B)) ∧ w = w' := by
  have hsa : (⟨(beb A).toArray⟩ : ByteArray).size = (beb A).length := by show (beb A).toArray.size = _; rw [List.size_toArray]
  have hsb : (⟨(beb B).toArray⟩ : ByteArray).size = (beb B).length := by show (beb B).toArray.size = _; rw [List.size_toArray]
  have hla : (⟨(beb A).toArray⟩ : ByteArray).toList = beb A := by rw [ByteArray.toList_eq]
  have hlb : (⟨(beb B).toArray⟩ : ByteArray).toList = beb B := by rw [ByteArray.toList_eq]
  by_cases h1 : (beb A).length = (beb B).length
  · have hlt := bytesLess_bval (beb A) (beb B) h1
    rw [bval_beb, bval_beb] at hlt
    have heq : (beb A == beb B) = decide (A = B) := by
      by_cases e : A = B
      · subst e; simp
      · rw [decide_eq_false e, beq_eq_false_iff_ne]
        intro h
        have := congrArg bval h
        rw [bval_beb, bval_beb] at this
        exact e this
    rw [← hla, ← hlb] at hlt heq
    rw [← hsa, ← hsb] at h1
    have HV : Hid (cmpV A B = if A < B then -1 else if B < A then 1 else 0) := Lib.hid rfl
    generalize (⟨(beb A).toArray⟩ : ByteArray) = a at *
    generalize (⟨(beb B).toArray⟩ : ByteArray) = b at *
    generalize cmpV A B = v at *
    have e1 : ((a.size : Int) != (b.size : Int)) = false := by rw [h1, bne_self_eq_false]
    clear hsa hsb hla hlb
    rcases Nat.lt_trichotomy A B with h | h | h
    · have l1 : Op.bytesLess a.toList b.toList = true := by rw [hlt, decide_eq_true h]
      have Hv : Hid (v = -1) := Lib.hid (by rw [HV.out, if_pos h])
      clear hlt heq HV h h1
      go_enter Try.func138, Try.ntmps138
      go_wp2
      go_ret
      exact ⟨by rw [Hv.out]; rfl, rfl⟩
    · have l1 : Op.bytesLess a.toList b.toList = false := by rw [hlt, decide_eq_false (by omega)]
      have l2 : (a.toList == b.toList) = true := by rw [heq, decide_eq_true h]
      have Hv : Hid (v = 0) := Lib.hid (by rw [HV.out, if_neg (by omega), if_neg (by omega)])
      clear hlt heq HV h h1
      go_enter Try.func138, Try.ntmps138
      go_wp2
      go_ret
      exact ⟨by rw [Hv.out]; rfl, rfl⟩
    · have l1 : Op.bytesLess a.toList b.toList = false := by rw [hlt, decide_eq_false (by omega)]
      have l2 : (a.toList == b.toList) = false := by rw [heq, decide_eq_false (by omega)]
      have Hv : Hid (v = 1) := Lib.hid (by rw [HV.out, if_neg (by omega), if_pos h])
      clear hlt heq HV h h1
      go_enter Try.func138, Try.ntmps138
      go_wp2
      go_ret
      exact ⟨by rw [Hv.out]; rfl, rfl⟩
  · by_cases h2 : (beb A).length < (beb B).length
    · have hv : cmpV A B = -1 := if_pos (beb_short h2)
      rw [hv]
      rw [← hsa, ← hsb] at h1 h2
      generalize (⟨(beb A).toArray⟩ : ByteArray) = a at *
      generalize (⟨(beb B).toArray⟩ : ByteArray) = b at *
      have e1 : ((a.size : Int) != (b.size : Int)) = true := by rw [bne_iff_ne]; omega
      have e2 : (a.size : Int) < (b.size : Int) := by omega
      clear hsa hsb hla hlb h1 h2 hv
      go_enter Try.func138, Try.ntmps138
      go_wp2
      go_ret
      exact ⟨rfl, rfl⟩
    · have h3 : B < A := beb_short (by omega)
      have hv : cmpV A B = 1 := (if_neg (by omega)).trans (if_pos h3)
      rw [hv]
      rw [← hsa, ← hsb] at h1 h2
      generalize (⟨(beb A).toArray⟩ : ByteArray) = a at *
      generalize (⟨(beb B).toArray⟩ : ByteArray) = b at *
      have e1 : ((a.size : Int) != (b.size : Int)) = true := by rw [bne_iff_ne]; omega
      have e2 : ¬ (a.size : Int) < (b.size : Int) := by omega
      clear hsa hsb hla hlb h1 h2 hv h3
      go_enter Try.func138, Try.ntmps138
      go_wp2
      go_ret
      exact ⟨rfl, rfl⟩
end Go.Proofs.Ytcafeffgaokiaaa

namespace Go.Proofs.Ytcafeffgaokiaaa
open Go.RowKit

end Go.Proofs.Ytcafeffgaokiaaa

namespace Go.Proofs.Ytcafeffgaokiaaa
open Go.RowKit

theorem convert_off (w : World) (g o n cap : Nat) (f : Nat → Nat) (hf : ∀ k, k < n → f k < 256) (h : ∀ k, k < n → w.cell? ⟨g, o + k, none⟩ = some (.int .u8 (f k : Nat))) :
    (convert 25 9 (.slice (some ⟨g, o, none⟩) n cap)).run Try.prog w = .ok (.string ⟨(bytF f n).toArray⟩) w := by
  have hcv := run_convert_bytes_back (P := Try.prog) w 25 9 5 ⟨g, o, none⟩ cap (bytF f n) Try.underlying25 Try.underlying5 Try.underlying9 (fun j hj => by
    have hj2 := hj
    rw [bytF_len] at hj2
    rw [Addr.add_lit, h j hj2, bytF_get f n j hj (hf j hj2)])
  rwa [bytF_len] at hcv
/-- The bytes behind the zeros. -/
theorem bytF_drop (f : Nat → Nat) (i m : Nat) (h0 : ∀ k, k < i → f k = 0) (h1 : f i % 256 ≠ 0) (hm : 0 < m) : (bytF f (i + m)).dropWhile (· == 0) = bytF (fun k => f (i + k)) m := by
  induction i generalizing f with
  | zero =>
    obtain ⟨m, rfl⟩ : ∃ m', m = m' + 1 := ⟨m - 1, by omega⟩
    unfold bytF
    rw [Nat.zero_add, List.range_succ_eq_map]
    simp only [List.map_cons, List.map_map, Nat.zero_add]
    have : (UInt8.ofNat (f 0) == 0) = false := by
      rw [beq_eq_false_iff_ne]
      intro h
      have := congrArg UInt8.toNat h
      simp at this
      omega
    rw [List.dropWhile_cons, this]
    rfl
  | succ i ih =>
    have e : bytF f (i + 1 + m) = UInt8.ofNat (f 0) :: bytF (fun k => f (k + 1)) (i + m) := by
      unfold bytF
      rw [show i + 1 + m = (i + m) + 1 from by omega, List.range_succ_eq_map, List.map_cons, List.map_map]
      rfl
    rw [e, h0 0 (by omega), List.dropWhile_cons]
    have : ((UInt8.ofNat 0) == 0) = true := by decide
    rw [this, if_pos rfl, ih (fun k => f (k + 1)) (fun k hk => h0 (k + 1) (by omega)) h1]
    unfold bytF
    congr 1
    funext k
    show UInt8.ofNat (f (i + k + 1)) = UInt8.ofNat (f (i + 1 + k))
    rw [show i + k + 1 = i + 1 + k from by omega]
set_option maxRecDepth 100000 in
set_option maxHeartbeats 4000000 in
theorem refMagAll_any (N : Nat) (hN8 : N ≤ 9223372036854775807) (w : World) :
    Calls Try.prog 102 #[.int .i64 (N : Int)] w fun e w' => e = .returned (.string (canon (N : Int)).mag) ∧ Below w.heap.size w w' := by
  by_cases hs : N < 256
  · exact refMag_any N hs w
  have hc : (canon (N : Int)).mag = ⟨(beb N).toArray⟩ := by
    show (⟨(beb (N : Int).natAbs).toArray⟩ : ByteArray) = _
    rw [Int.natAbs_natCast]
  rw [hc]
  have hs1 : ¬ (N : Int) < 256 := by omega
  go_enter Try.func102, Try.ntmps102
  go_wp2_with fail
  have hz0 : HAt (w.alloc (.cells #[.int .u8 0, .int .u8 0, .int .u8 0, .int .u8 0, .int .u8 0, .int .u8 0, .int .u8 0, .int .u8 0] 172)) w.heap.size 8 (fun k => .int .u8 ((fun _ => 0 : Nat → Nat) k : Nat)) := by
    have hblk : (w.alloc (.cells #[.int .u8 0, .int .u8 0, .int .u8 0, .int .u8 0, .int .u8 0, .int .u8 0, .int .u8 0, .int .u8 0] 172)).heap[w.heap.size]? = some (.cells #[.int .u8 0, .int .u8 0, .int .u8 0, .int .u8 0, .int .u8 0, .int .u8 0, .int .u8 0, .int .u8 0] 172 (0, 0)) := heap_alloc_new w _
    refine ⟨by simp, fun k hk => ⟨?_, ?_⟩⟩
    · unfold World.cell?; simp only [hblk]
      match k, hk with
      | 0, _ => rfl
      | 1, _ => rfl
      | 2, _ => rfl
      | 3, _ => rfl
      | 4, _ => rfl
      | 5, _ => rfl
      | 6, _ => rfl
      | 7, _ => rfl
    · unfold World.frozen?; simp only [hblk]
      simp
  have hb0 := (Below.refl w.heap.size w).alloc (Nat.le_refl _) (.cells #[.int .u8 0, .int .u8 0, .int .u8 0, .int .u8 0, .int .u8 0, .int .u8 0, .int .u8 0, .int .u8 0] 172)
  generalize w.alloc (.cells #[.int .u8 0, .int .u8 0, .int .u8 0, .int .u8 0, .int .u8 0, .int .u8 0, .int .u8 0, .int .u8 0] 172) = w1 at *
  obtain ⟨g, hg⟩ : ∃ g, w.heap.size = g := ⟨_, rfl⟩
  rw [hg] at hz0 ⊢
  have Hz0 := Lib.hid hz0
  have Hb0 := Lib.hid hb0
  clear hz0 hb0
  go_loopw [0, 4] (fun mv v wr => ∃ (m i : Nat) (f : Nat → Nat), i ≤ 8 ∧ m ≤ N ∧ mv = .int .i64 (m : Nat) ∧ v = .int .i64 (i : Nat) ∧ Hid (∀ k, k < 8 → f k < 256) ∧ Hid (∀ k, k < i → f k = 0) ∧ Hid (m = 0 → i < 8 ∧ f i ≠ 0) ∧ Hid (HAt wr g 8 (fun k => .int .u8 (f k : Nat))) ∧ Hid (m * 256 ^ (8 - i) + hN f 8 = N) ∧ Hid (Below w.heap.size w wr)) (fun mv _ _ => (intOf mv).toNat)
  case atStart => exact ⟨N, 8, fun _ => 0, by omega, by omega, rfl, by go_num, Lib.hid (fun _ _ => Nat.zero_lt_succ 255), Lib.hid (fun _ _ => rfl), Lib.hid (fun h => by omega), Hz0, Lib.hid (by rw [hN_zero]; simp), Hb0⟩
  case round =>
    clear Hz0 Hb0
    obtain ⟨m, i, f, hi, hm, rfl, rfl, Hf, Hf0, Hh, HZ, HE, HBw⟩ := hrel
    by_cases hm0 : 0 < m
    · have m0 : (m : Int) > 0 := by omega
      have hi0 : i ≠ 0 := by
        intro h
        subst h
        have h1 := HE.out
        have h2 : 1 * 256 ^ (8 - 0) ≤ m * 256 ^ (8 - 0) := Nat.mul_le_mul_right _ hm0
        have h3 : (256 : Nat) ^ (8 - 0) = 18446744073709551616 := rfl
        rw [h3] at h1 h2
        omega
      obtain ⟨p, rfl⟩ : ∃ p, i = p + 1 := ⟨i - 1, by omega⟩
      have hp8 : p < 8 := by omega
      have p0 : (0 : Int) ≤ (p : Int) := by omega
      have p8 : (p : Int) < 8 := by omega
      have hpe : (p : Int) + 1 - 1 = (p : Int) := by omega
      obtain ⟨z0, z1⟩ := HZ.out.2 p hp8
      have hu := hN_upd f 8 p (m % 256) hp8
      rw [Hf0.out p (by omega), Nat.zero_mul, Nat.add_zero] at hu
      have hHE : m / 256 * 256 ^ (8 - p) + hN (fun k => if k = p then m % 256 else f k) 8 = N := by
        rw [hu, show 8 - p = 8 - 1 - p + 1 from by omega, Nat.pow_succ, ← HE.out, show 8 - (p + 1) = 8 - 1 - p from by omega]
        have h2 := Nat.div_add_mod m 256
        generalize 256 ^ (8 - 1 - p) = W
        have h3 : m / 256 * (W * 256) = 256 * (m / 256) * W := by rw [Nat.mul_comm W, ← Nat.mul_assoc, Nat.mul_comm (m / 256)]
        have h4 : m * W = 256 * (m / 256) * W + m % 256 * W := by rw [← Nat.add_mul, h2]
        omega
      have HHE := Lib.hid hHE
      clear hHE hu
      go_wp2_with fail
      rw [show (m : Int) / 256 = ((m / 256 : Nat) : Int) from by omega, show (m : Int) % 256 = ((m % 256 : Nat) : Int) from by omega]
      exact ⟨⟨m / 256, p, fun k => if k = p then m % 256 else f k, by omega, by omega, rfl, rfl, Lib.hid (fun k hk => by
          dsimp only
          split
          · omega
          · exact Hf.out k hk), Lib.hid (fun k hk => by
          dsimp only
          rw [if_neg (by omega)]
          exact Hf0.out k (by omega)), Lib.hid (fun h => ⟨hp8, by
          dsimp only
          rw [if_pos rfl]
          omega⟩), Lib.hid ((HZ.out.set _).congr fun k hk => by
          dsimp only
          split <;> rfl), HHE, Lib.hid (HBw.out.setCell (by rw [hg]; exact Nat.le_refl _) _)⟩, by simp [intOf] <;> omega⟩
    · have hme : m = 0 := by omega
      subst hme
      obtain ⟨hi8, hfi⟩ := Hh.out rfl
      obtain ⟨d, hd⟩ : ∃ d, 8 - i = d := ⟨_, rfl⟩
      have hcv := convert_off wr g i d d (fun k => f (i + k)) (fun k hk => Hf.out (i + k) (by omega)) (fun k hk => (HZ.out.2 (i + k) (by omega)).1)
      have hL : bytF (fun k => f (i + k)) d = beb N := by
        have hE := HE.out
        rw [Nat.zero_mul, Nat.zero_add] at hE
        have h1 := beb_bval 8 (bytF f 8) (bytF_len f 8)
        rw [bval_bytF f 8 Hf.out, hE] at h1
        rw [h1, show (8 : Nat) = i + d from by omega, bytF_drop f i d Hf0.out (by have := Hf.out i hi8; omega) (by omega)]
      rw [hL] at hcv
      have hid : (8 : Int) - (i : Int) = (d : Int) := by omega
      have i8 : (i : Int) ≤ 8 := by omega
      have i0 : (0 : Int) ≤ (i : Int) := by omega
      clear hL HE Hf Hf0 Hh HZ hfi
      go_wp2_with fail
      go_ret
      exact ⟨rfl, HBw.out⟩
set_option maxRecDepth 100000 in
set_option maxHeartbeats 4000000 in
theorem refOfAll_any (n : Nat) (hn : n ≤ 9223372036854775807) (w : World) :
    Calls Try.prog 76 #[.int .i64 (n : Int)] w (RetZ (canon (n : Int)) w) := by
  have Hm := Lib.hid (refMagAll_any n hn)
  have hne := canon_nonneg n
  generalize canon (n : Int) = Z at *
  obtain ⟨N, M⟩ := Z
  dsimp only at *
  subst hne
  have i0 : (0 : Int) ≤ (n : Int) := by omega
  go_enter Try.func76, Try.ntmps76
  go_wp2_with (go_at_call 102; go_fit (Hm.out _); rintro e w3 ⟨rfl, hb⟩; have Hb3 := Lib.hid hb; have HA := Lib.hid ((BoxAt.new w (.bool false) (.string ⟨#[]⟩) 48).below hb (by simp)); obtain ⟨a0, a1, a2, a3, _⟩ := HA.out; clear hb)
  refine bodyPost_ret (v := .agg #[.bool false, .string M]) ?_ rfl ⟨rfl, ?_⟩
  · simp [results, Try.results76, go_sem, a0, a1]
  · have hbe : Below w.heap.size w w3 := ((Below.refl _ _).alloc (Nat.le_refl _) _).trans (Hb3.out.mono (by simp))
    exact (hbe.setCell (by simp) _).setCell (by simp) _

end Go.Proofs.Ytcafeffgaokiaaa
