/- grooveref01: trim, Canonical. grooveref01: Canonical. grooveref01: Neg. grooveref01: small. -/
import Derived.Test.YteoemijgdcpopaaDoorE3
namespace Go.Proofs.YteoemijgdcpopaaDoor
open Go.RowKit

theorem beb_bval : ∀ (n : Nat) (l : List UInt8), l.length = n → beb (bval l) = l.dropWhile (· == 0)
  | 0, l, h => by
    have : l = [] := List.length_eq_zero_iff.1 h
    subst this; rfl
  | n + 1, l, h => by
    obtain ⟨r, c, rfl⟩ : ∃ r c, l = r ++ [c] := ⟨l.dropLast, l.getLast (fun h0 => by rw [h0] at h; simp at h), (List.dropLast_concat_getLast _).symm⟩
    have ih := beb_bval n r (by simpa using h)
    rw [bval_snoc, List.dropWhile_append, ← ih]
    have hc : UInt8.ofNat c.toNat = c := by simp
    by_cases h0 : bval r = 0
    · rw [h0, beb_zero]
      by_cases hz : c = 0
      · subst hz; rfl
      · have hz' : c.toNat ≠ 0 := fun h => hz (by rw [← hc, h]; rfl)
        have := beb_snoc (m := 0) (c := c.toNat) (UInt8.toNat_lt _) (.inr hz')
        rw [this, beb_zero, hc]
        have hb : (c == 0) = false := by rw [beq_eq_false_iff_ne]; exact hz
        simp [List.dropWhile, hb]
    · rw [beb_snoc (UInt8.toNat_lt _) (.inl h0), hc]
      have : (beb (bval r)).isEmpty = false := by
        rw [List.isEmpty_eq_false_iff]
        intro h; exact h0 (beb_len_zero.1 (by rw [h]; rfl))
      rw [this]; simp

theorem str_cons (t : ByteArray) (h : 0 < t.size) : t.data.toList = t[0] :: (t.extract 1 t.size).data.toList := by
  rcases t with ⟨⟨l⟩⟩
  cases l with
  | nil => exact absurd h (by decide)
  | cons c r =>
    rw [ByteArray.data_extract]
    show c :: r = c :: _
    congr 1
    simp [ByteArray.size]
theorem bval_cons_zero {c : UInt8} {r : List UInt8} (h : c.toNat = 0) : bval (c :: r) = bval r := by
  unfold bval
  rw [List.foldl_cons, h]
theorem beb_head {c : UInt8} {r : List UInt8} (h : c.toNat ≠ 0) : beb (bval (c :: r)) = c :: r := by
  rw [beb_bval _ _ rfl]
  have : (c == 0) = false := by
    rw [beq_eq_false_iff_ne]; intro h2; exact h (by rw [h2]; rfl)
  simp [List.dropWhile, this]

set_option maxRecDepth 100000 in
set_option maxHeartbeats 4000000 in
theorem refTrim_any (s : ByteArray) (hs : s.size ≤ 100000000) (w : World) :
    Calls Tryd.prog 112 #[.string s] w fun e w' => e = .returned (.string ⟨(beb (bval s.data.toList)).toArray⟩) ∧ w = w' := by
  go_enter Tryd.func112, Tryd.ntmps112
  go_wp2
  go_loopw [0] (fun v wr => ∃ t : ByteArray, v = .string t ∧ t.size ≤ 100000000 ∧ wr = w ∧ Hid (bval t.data.toList = bval s.data.toList)) (fun v _ => match v with | .string t => t.size | _ => 0)
  case atStart => exact ⟨s, rfl, hs, rfl, Lib.hid rfl⟩
  case round =>
    obtain ⟨t, rfl, ht, rfl, hv⟩ := hrel
    by_cases hlt : 0 < t.size
    · obtain ⟨c, hcc⟩ : ∃ c, (t[0]'hlt).toNat = c := ⟨_, rfl⟩
      have i0 : (0 : Int) < (t.size : Int) := by omega
      by_cases hc : c = 0
      · have hcb : ((c : Int) == 0) = true := by rw [beq_iff_eq]; omega
        go_wp2
        have he : bval (t.extract 1 t.size).data.toList = bval s.data.toList := by
          rw [← hv.out, str_cons t hlt, bval_cons_zero (by omega)]
        have hsz : (t.extract 1 t.size).size = t.size - 1 := by simp
        go_roundw
        case rel => exact ⟨_, rfl, by omega, trivial, Lib.hid he⟩
        case measure => show (t.extract 1 t.size).size < t.size; omega
      · have hcb : ((c : Int) == 0) = false := by rw [beq_eq_false_iff_ne]; omega
        have he : (⟨(beb (bval s.data.toList)).toArray⟩ : ByteArray) = t := by
          rw [← hv.out, str_cons t hlt, beb_head (by omega), ← str_cons t hlt]
        have He := Lib.hid he
        clear he
        go_wp2
        go_ret
        exact ⟨by rw [He.out]; rfl, rfl⟩
    · have i0 : ¬ (0 : Int) < (t.size : Int) := by omega
      have he : (⟨(beb (bval s.data.toList)).toArray⟩ : ByteArray) = t := by
        rcases t with ⟨⟨l⟩⟩
        have : l = [] := List.length_eq_zero_iff.1 (by simp [ByteArray.size] at hlt; simp [hlt])
        subst this
        rw [← hv.out]; rfl
      have He := Lib.hid he
      clear he
      go_wp2
      go_ret
      exact ⟨by rw [He.out]; rfl, rfl⟩

theorem canon_of_head {z : ZI} (h : 0 < z.mag.size) (h0 : (z.mag[0]).toNat ≠ 0) : z = canon (valZ z) := by
  rw [← sameZ_val]
  have h1 : beb (absZ z) = z.mag.data.toList := by
    unfold absZ
    rw [str_cons z.mag h, beb_head h0]
  have h2 : absZ z ≠ 0 := fun h3 => by
    rw [h3, beb_zero] at h1
    have := congrArg List.length h1
    simp at this
    have h4 : z.mag.size = z.mag.data.size := rfl
    omega
  unfold mkZ
  rw [if_neg h2, h1]
end Go.Proofs.YteoemijgdcpopaaDoor

namespace Go.Proofs.YteoemijgdcpopaaDoor
open Go.RowKit

theorem canon_parts (z : ZI) : (canon (valZ z)).neg = (z.neg && !(beb (bval z.mag.data.toList)).isEmpty) ∧ (canon (valZ z)).mag = ⟨(beb (bval z.mag.data.toList)).toArray⟩ := by
  rw [← sameZ_val]
  have h : absZ z = bval z.mag.data.toList := rfl
  rw [← h]
  unfold mkZ
  by_cases h0 : absZ z = 0
  · rw [if_pos h0, h0, beb_zero]; simp
  · rw [if_neg h0]
    have : (beb (absZ z)).isEmpty = false := by
      rw [List.isEmpty_eq_false_iff]
      intro h; exact h0 (beb_len_zero.1 (by rw [h]; rfl))
    rw [this]; simp

set_option maxRecDepth 100000 in
set_option maxHeartbeats 4000000 in
theorem refCanonical_any (z : ZI) (hz : z.mag.size ≤ 100000000) (w : World) :
    Calls Tryd.prog 92 #[.agg #[.bool z.neg, .string z.mag]] w (RetZ (canon (valZ z)) w) := by
  obtain ⟨hp1, hp2⟩ := canon_parts z
  obtain ⟨Z, hZ⟩ : ∃ Z, canon (valZ z) = Z := ⟨_, rfl⟩
  rw [hZ] at hp1 hp2
  rw [hZ]
  have Hp1 := Lib.hid hp1
  have Hp2 := Lib.hid hp2
  clear hp1 hp2
  by_cases hlt : 0 < z.mag.size
  · obtain ⟨c, hcc⟩ : ∃ c, (z.mag[0]'hlt).toNat = c := ⟨_, rfl⟩
    have i0 : (0 : Int) < (z.mag.size : Int) := by omega
    by_cases hc : c = 0
    · have hcb : ((c : Int) != 0) = false := by rw [bne_eq_false_iff_eq]; omega
      clear hZ
      cases hn : z.neg
      all_goals
        rw [hn] at Hp1
        go_enter Tryd.func92, Tryd.ntmps92
        go_wp2_with (go_at_call 112; go_fit (refTrim_any z.mag hz _); rintro e w2 ⟨rfl, rfl⟩)
        refine bodyPost_ret (v := .agg #[.bool Z.neg, .string Z.mag]) ?_ rfl ⟨rfl, ((Below.refl _ _).alloc (Nat.le_refl _) _).alloc (by simp) _⟩
        rw [Hp1.out, Hp2.out]
        simp [results, Tryd.results92, go_sem]
    · have hcb : ((c : Int) != 0) = true := by rw [bne_iff_ne]; omega
      have HZ := Lib.hid (show z = Z from by rw [← hZ]; exact canon_of_head hlt (by omega))
      clear hZ
      go_enter Tryd.func92, Tryd.ntmps92
      go_wp2
      refine bodyPost_ret (v := .agg #[.bool Z.neg, .string Z.mag]) ?_ rfl ⟨rfl, ((Below.refl _ _).alloc (Nat.le_refl _) _).alloc (by simp) _⟩
      rw [← HZ.out]
      simp [results, Tryd.results92, go_sem]
  · have i0 : ¬ (0 : Int) < (z.mag.size : Int) := by omega
    clear hZ
    cases hn : z.neg
    all_goals
      rw [hn] at Hp1
      go_enter Tryd.func92, Tryd.ntmps92
      go_wp2_with (go_at_call 112; go_fit (refTrim_any z.mag hz _); rintro e w2 ⟨rfl, rfl⟩)
      refine bodyPost_ret (v := .agg #[.bool Z.neg, .string Z.mag]) ?_ rfl ⟨rfl, ((Below.refl _ _).alloc (Nat.le_refl _) _).alloc (by simp) _⟩
      rw [Hp1.out, Hp2.out]
      simp [results, Tryd.results92, go_sem]
end Go.Proofs.YteoemijgdcpopaaDoor

namespace Go.Proofs.YteoemijgdcpopaaDoor
open Go.RowKit

theorem canon_neg_parts (n : Int) : (canon (-n)).neg = (!(canon n).neg && !(canon n).mag.toList.isEmpty) ∧ (canon (-n)).mag = (canon n).mag := by
  rw [ByteArray.toList_eq]
  have hm : (canon (-n)).mag = (canon n).mag := by simp [canon]
  refine ⟨?_, hm⟩
  by_cases h0 : n = 0
  · subst h0; rfl
  · have h1 : beb n.natAbs ≠ [] := fun h => by
      have : n.natAbs = 0 := beb_len_zero.1 (by rw [h]; rfl)
      omega
    have h2 : (beb n.natAbs).isEmpty = false := by rw [List.isEmpty_eq_false_iff]; exact h1
    show decide (-n < 0) = (!decide (n < 0) && !(beb n.natAbs).isEmpty)
    rw [h2]
    by_cases h : n < 0
    · rw [decide_eq_true h, decide_eq_false (by omega)]; rfl
    · rw [decide_eq_false h, decide_eq_true (by omega)]; rfl

set_option maxRecDepth 100000 in
set_option maxHeartbeats 8000000 in
theorem refNeg_any (z : ZI) (hz : z.mag.size ≤ 100000000) (w : World) :
    Calls Tryd.prog 97 #[.agg #[.bool z.neg, .string z.mag]] w (RetZ (canon (-valZ z)) w) := by
  have hcan := refCanonical_any z hz
  obtain ⟨hp1, hp2⟩ := canon_neg_parts (valZ z)
  generalize canon (-valZ z) = R at *
  generalize canon (valZ z) = m at *
  have Hcan := Lib.hid hcan
  have Hp1 := Lib.hid hp1
  have Hp2 := Lib.hid hp2
  clear hcan hp1 hp2
  rcases m with ⟨N, M⟩
  dsimp only at Hp1 Hp2
  have n1 : ¬ (w.heap.size = w.heap.size + 1) := by omega
  have n2 : ¬ (w.heap.size + 1 = w.heap.size) := by omega
  cases N
  all_goals
    go_enter Tryd.func97, Tryd.ntmps97
    go_wp2_with (go_at_call 92; go_fit (Hcan.out _); rintro e w3 ⟨rfl, hb⟩; have Hb3 := Lib.hid hb; have HA := Lib.hid ((BoxAt.new w (.bool z.neg) (.string z.mag) 35).alloc (.cells #[.bool false, .string ⟨#[]⟩] 35) |>.below hb (by simp; omega)); have hB0 := (BoxAt.new (w.alloc (.cells #[.bool z.neg, .string z.mag] 35)) (.bool false) (.string ⟨#[]⟩) 35).below hb (by simp); rw [World.size_alloc] at hB0; have HB := Lib.hid hB0; obtain ⟨a0, a1, a2, a3, _⟩ := HA.out; obtain ⟨b0, b1, b2, b3, _⟩ := hB0; clear hb)
    refine bodyPost_ret (v := .agg #[.bool R.neg, .string R.mag]) ?_ rfl ⟨rfl, ?_⟩
    · rw [Hp1.out, Hp2.out]
      simp [results, Tryd.results97, go_sem, b0, b1]
    · have hbe : Below w.heap.size w w3 := (((Below.refl _ _).alloc (Nat.le_refl _) _).alloc (by simp) _).trans (Hb3.out.mono (by simp; omega))
      exact (((hbe.setCell (by simp) _).setCell (by simp) _).setCell (by simp) _).setCell (by simp) _
end Go.Proofs.YteoemijgdcpopaaDoor

namespace Go.Proofs.YteoemijgdcpopaaDoor
open Go.RowKit

theorem bval_take {l : List UInt8} {i : Nat} (h : i < l.length) : bval (l.take (i + 1)) = bval (l.take i) * 256 + l[i].toNat := by
  rw [List.take_succ_eq_append_getElem h, bval_snoc]
theorem bval_take_lt (l : List UInt8) (i : Nat) : bval (l.take i) < 256 ^ i := by
  refine Nat.lt_of_lt_of_le (bval_lt _) (Nat.pow_le_pow_right (by decide) ?_)
  rw [List.length_take]; omega
theorem pow_six {i : Nat} (h : i ≤ 6) : 256 ^ i ≤ 281474976710656 := Nat.pow_le_pow_right (n := 256) (by decide) h
theorem or_byte (n : Nat) (c : Nat) (hc : c < 256) (hn : n < 281474976710656) : bits .or .i64 ((n : Int) * 256) (c : Int) = ((n * 256 + c : Nat) : Int) := by
  have h1 : ((n : Int) * 256) = ((n * 256 : Nat) : Int) := by simp
  have h2 := Nat.two_pow_add_eq_or_of_lt (i := 8) (b := c) (by omega) n
  have h3 : n * 256 + c = n * 256 ||| c := by
    rw [Nat.mul_comm n 256]; exact h2
  rw [h1]
  show IntKind.i64.wrap ((BitVec.ofInt 64 ((n * 256 : Nat) : Int) ||| BitVec.ofInt 64 (c : Int)).toNat : Int) = _
  rw [BitVec.toNat_or, ofInt_u64 _ (by omega), ofInt_u64 c (by omega), ← h3]
  rw [IntKind.wrap_i64]
  omega

set_option maxRecDepth 100000 in
set_option maxHeartbeats 4000000 in
theorem refSmall_any (s : ByteArray) (hs : s.size ≤ 7) (w : World) :
    Calls Tryd.prog 113 #[.string s] w fun e w' => e = .returned (.int .i64 (bval s.data.toList : Nat)) ∧ w = w' := by
  go_enter Tryd.func113, Tryd.ntmps113
  go_wp2
  go_loop [3, 4] (fun v i => ∃ k n : Nat, k ≤ s.size ∧ i = .int .i64 k ∧ v = .int .i64 n ∧ Hid (n = bval (s.data.toList.take k))) (fun _ i => s.size - (intOf i).toNat)
  case atStart => exact ⟨0, 0, Nat.zero_le _, rfl, rfl, Lib.hid rfl⟩
  case round =>
    obtain ⟨k, n, hk, rfl, rfl, hr⟩ := hrel
    by_cases hlt : k < s.size
    · have hltI : (k : Int) < (s.size : Int) := by omega
      obtain ⟨c, hc⟩ : ∃ c, (s[k]'hlt).toNat = c := ⟨_, rfl⟩
      have hc2 : c < 256 := by rw [← hc]; exact UInt8.toNat_lt _
      have hl : k < s.data.toList.length := by simpa using hlt
      have hn : n < 281474976710656 := by
        rw [hr.out]; exact Nat.lt_of_lt_of_le (bval_take_lt _ _) (pow_six (by omega))
      have hnext : n * 256 + c = bval (s.data.toList.take (k + 1)) := by
        rw [bval_take hl, ← hr.out, ← hc]; rfl
      have Hn := Lib.hid hnext
      clear hnext
      go_wp2
      go_round
      case rel => exact ⟨k + 1, n * 256 + c, by omega, by go_num, by rw [or_byte n c hc2 hn], Hn⟩
      case measure => simp [intOf]; omega
    · have hke : k = s.size := by omega
      have i0 : ¬ (k : Int) < (s.size : Int) := by omega
      have he : n = bval s.data.toList := by
        rw [hr.out, List.take_of_length_le (by rw [hke]; simp)]
      have He := Lib.hid he
      clear he
      go_wp2
      go_ret
      exact ⟨ret_int (by rw [He.out]), rfl⟩
end Go.Proofs.YteoemijgdcpopaaDoor
