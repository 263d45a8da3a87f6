/- grooveref01: trim, Canonical. -/
import Derived.Test.YtlkoiekdafaapaaIntB
namespace Go.Proofs.Ytlkoiekdafaapaa
open Go.RowKit

theorem beb_bval : ∀ (n : Nat) (l : List UInt8), l.length = n → beb (bval l) = l.dropWhile (· == 0)
  | 0, l, h => by
    have : l = [] := List.length_eq_zero_iff.1 h
    subst this; rfl
  | n + 1, l, h => by
    obtain ⟨r, c, rfl⟩ : ∃ r c, l = r ++ [c] := ⟨l.dropLast, l.getLast (fun h0 => by rw [h0] at h; simp at h), (List.dropLast_concat_getLast _).symm⟩
    have ih := beb_bval n r (by simpa using h)
    rw [bval_snoc, List.dropWhile_append, ← ih]
    have hc : UInt8.ofNat c.toNat = c := by simp
    by_cases h0 : bval r = 0
    · rw [h0, beb_zero]
      by_cases hz : c = 0
      · subst hz; rfl
      · have hz' : c.toNat ≠ 0 := fun h => hz (by rw [← hc, h]; rfl)
        have := beb_snoc (m := 0) (c := c.toNat) (UInt8.toNat_lt _) (.inr hz')
        rw [this, beb_zero, hc]
        have hb : (c == 0) = false := by rw [beq_eq_false_iff_ne]; exact hz
        simp [List.dropWhile, hb]
    · rw [beb_snoc (UInt8.toNat_lt _) (.inl h0), hc]
      have : (beb (bval r)).isEmpty = false := by
        rw [List.isEmpty_eq_false_iff]
        intro h; exact h0 (beb_len_zero.1 (by rw [h]; rfl))
      rw [this]; simp

theorem str_cons (t : ByteArray) (h : 0 < t.size) : t.data.toList = t[0] :: (t.extract 1 t.size).data.toList := by
  rcases t with ⟨⟨l⟩⟩
  cases l with
  | nil => exact absurd h (by decide)
  | cons c r =>
    rw [ByteArray.data_extract]
    show c :: r = c :: _
    congr 1
    simp [ByteArray.size]
theorem bval_cons_zero {c : UInt8} {r : List UInt8} (h : c.toNat = 0) : bval (c :: r) = bval r := by
  unfold bval
  rw [List.foldl_cons, h]
theorem beb_head {c : UInt8} {r : List UInt8} (h : c.toNat ≠ 0) : beb (bval (c :: r)) = c :: r := by
  rw [beb_bval _ _ rfl]
  have : (c == 0) = false := by
    rw [beq_eq_false_iff_ne]; intro h2; exact h (by rw [h2]; rfl)
  simp [List.dropWhile, this]

set_option maxRecDepth 100000 in
set_option maxHeartbeats 4000000 in
theorem refTrim_any (s : ByteArray) (hs : s.size ≤ 100000000) (w : World) :
    Calls Try.prog 55 #[.string s] w fun e w' => e = .returned (.string ⟨(beb (bval s.data.toList)).toArray⟩) ∧ w = w' := by
  go_enter Try.func55, Try.ntmps55
  go_wp2
  go_loopw [0] (fun v wr => ∃ t : ByteArray, v = .string t ∧ t.size ≤ 100000000 ∧ wr = w ∧ Hid (bval t.data.toList = bval s.data.toList)) (fun v _ => match v with | .string t => t.size | _ => 0)
  case atStart => exact ⟨s, rfl, hs, rfl, Lib.hid rfl⟩
  case round =>
    obtain ⟨t, rfl, ht, rfl, hv⟩ := hrel
    by_cases hlt : 0 < t.size
    · obtain ⟨c, hcc⟩ : ∃ c, (t[0]'hlt).toNat = c := ⟨_, rfl⟩
      have i0 : (0 : Int) < (t.size : Int) := by omega
      by_cases hc : c = 0
      · have hcb : ((c : Int) == 0) = true := by rw [beq_iff_eq]; omega
        go_wp2
        have he : bval (t.extract 1 t.size).data.toList = bval s.data.toList := by
          rw [← hv.out, str_cons t hlt, bval_cons_zero (by omega)]
        have hsz : (t.extract 1 t.size).size = t.size - 1 := by simp
        go_roundw
        case rel => exact ⟨_, rfl, by omega, trivial, Lib.hid he⟩
        case measure => show (t.extract 1 t.size).size < t.size; omega
      · have hcb : ((c : Int) == 0) = false := by rw [beq_eq_false_iff_ne]; omega
        have he : (⟨(beb (bval s.data.toList)).toArray⟩ : ByteArray) = t := by
          rw [← hv.out, str_cons t hlt, beb_head (by omega), ← str_cons t hlt]
        have He := Lib.hid he
        clear he
        go_wp2
        go_ret
        exact ⟨by rw [He.out]; rfl, rfl⟩
    · have i0 : ¬ (0 : Int) < (t.size : Int) := by omega
      have he : (⟨(beb (bval s.data.toList)).toArray⟩ : ByteArray) = t := by
        rcases t with ⟨⟨l⟩⟩
        have : l = [] := List.length_eq_zero_iff.1 (by simp [ByteArray.size] at hlt; simp [hlt])
        subst this
        rw [← hv.out]; rfl
      have He := Lib.hid he
      clear he
      go_wp2
      go_ret
      exact ⟨by rw [He.out]; rfl, rfl⟩

theorem canon_of_head {z : ZI} (h : 0 < z.mag.size) (h0 : (z.mag[0]).toNat ≠ 0) : z = canon (valZ z) := by
  rw [← sameZ_val]
  have h1 : beb (absZ z) = z.mag.data.toList := by
    unfold absZ
    rw [str_cons z.mag h, beb_head h0]
  have h2 : absZ z ≠ 0 := fun h3 => by
    rw [h3, beb_zero] at h1
    have := congrArg List.length h1
    simp at this
    have h4 : z.mag.size = z.mag.data.size := rfl
    omega
  unfold mkZ
  rw [if_neg h2, h1]
end Go.Proofs.Ytlkoiekdafaapaa
