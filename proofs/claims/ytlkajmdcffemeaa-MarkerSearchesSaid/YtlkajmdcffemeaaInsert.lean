/- The walk of marker.Insert. -/
import Derived.Test.YtlkajmdcffemeaaIns
namespace Go.Proofs.Ytlkajmdcffemeaa
open Go.RowKit

theorem trackL_chunks_len (n : Nat) (m : ByteArray) : ∀ f s, (trackL m (chunks n f s)).length ≤ s.size + f * m.size
  | 0, s => by simp [chunks, trackL]
  | f + 1, s => by
    simp only [chunks]
    split
    · simp [trackL]
    · have h := trackL_chunks_len n m f (s.extract n s.size)
      rw [ByteArray.size_extract, Nat.min_self] at h
      have e : trackL m (s.extract 0 n :: chunks n f (s.extract n s.size)) = (s.extract 0 n ++ m).data.toList ++ trackL m (chunks n f (s.extract n s.size)) := rfl
      rw [e, List.length_append, Nat.add_mul]
      have e2 : (s.extract 0 n ++ m).data.toList.length = (s.extract 0 n).size + m.size := by
        rw [Array.length_toList]; exact ByteArray.size_append
      rw [e2, ByteArray.size_extract]
      omega
/-- The error of Insert, and what it returns. -/
def insErr (b : Int) (m s : ByteArray) : Int := if mkErr b m.data.toList s.data.toList ≠ 0 then mkErr b m.data.toList s.data.toList else if s.size % b.toNat ≠ 0 then 11 else if 65536 < s.size / b.toNat * (b.toNat + m.size) then 4 else 0
def insOut (b : Int) (m s : ByteArray) : ByteArray := if insErr b m s = 0 then ⟨(trackL m (chunksW b.toNat s)).toArray⟩ else ⟨#[]⟩

set_option maxRecDepth 100000 in
set_option maxHeartbeats 4000000 in
theorem Insert_any (b : Int) (m s : ByteArray) (hm : m.size ≤ maxLen) (hs : s.size ≤ maxLen) (w : World) :
    Calls Try.prog 15 #[.int .i64 b, .string m, .string s] w fun e w' => e = .returned (.tuple #[.string (insOut b m s), .int .i64 (insErr b m s)]) ∧ Below w.heap.size w w' := by
  have Hc := Lib.hid (check_mk b m s hm hs)
  obtain ⟨E, hE⟩ : ∃ E, mkErr b m.data.toList s.data.toList = E := ⟨_, rfl⟩
  rw [hE] at Hc
  by_cases hz : E = 0
  · have hz2 : (E != 0) = false := by rw [hz]; rfl
    obtain ⟨⟨hb1, hb2⟩, ⟨hm1, hm2⟩, hs2⟩ := mkErr_ok (hE.trans hz)
    obtain ⟨n, rfl⟩ : ∃ n : Nat, b = n := ⟨b.toNat, by omega⟩
    have hie : insErr n m s = if s.size % n ≠ 0 then 11 else if 65536 < s.size / n * (n + m.size) then 4 else 0 := by unfold insErr; rw [hE, if_neg (fun h => h hz)]; rfl
    have hio : insOut n m s = if insErr n m s = 0 then ⟨(trackL m (chunksW n s)).toArray⟩ else ⟨#[]⟩ := by unfold insOut; rw [Int.toNat_natCast]
    by_cases hr : s.size % n = 0
    · have hrI : (((s.size : Int) % (n : Int)) != 0) = false := by rw [bne_eq_false_iff_eq]; omega
      rw [if_neg (fun h => h hr)] at hie
      obtain ⟨q, hq⟩ : ∃ q, s.size / n = q := ⟨_, rfl⟩
      have hqI : (s.size : Int) / (n : Int) = (q : Int) := by rw [← hq]; simp
      have hqle : q ≤ 65536 := by rw [← hq]; exact Nat.le_trans (Nat.div_le_self _ _) hs2
      obtain ⟨t, ht⟩ : ∃ t, q * (n + m.size) = t := ⟨_, rfl⟩
      have htI : (q : Int) * ((n : Int) + (m.size : Int)) = (t : Int) := by rw [← ht]; simp
      have htl : t ≤ 65536 * 32 := by rw [← ht]; exact Nat.mul_le_mul hqle (by omega)
      rw [hq, ht] at hie
      by_cases hbig : 65536 < t
      · rw [if_pos hbig] at hie
        rw [hie, if_neg (by decide)] at hio
        rw [hie, hio]
        have hbI : (65536 : Int) < (t : Int) := by omega
        clear hz hE hm hs hie hio hq ht hr
        go_enter Try.func15, Try.ntmps15
        go_wp2_with (go_at_call 40; go_fit (Hc.out _); rintro e w1 ⟨rfl, hd⟩; have Hd := Lib.hid hd; clear hd)
        go_ret2
        exact ⟨rfl, Drawn.below Hd.out _⟩
      · rw [if_neg hbig] at hie
        rw [hie, if_pos rfl] at hio
        rw [hie, hio]
        have hbI : ¬ (65536 : Int) < (t : Int) := by omega
        have Hcut := Lib.hid (cut_any n s (by omega) (by omega) (by omega) hr)
        have htr : (trackL m (chunksW n s)).length ≤ 1000000000000 := by
          have := trackL_chunks_len n m s.size s
          have h2 : s.size * m.size ≤ 65536 * 16 := Nat.mul_le_mul hs2 hm2
          unfold chunksW
          omega
        have hcl : (chunksW n s).length ≤ 1000000000 := by
          have := chunks_len n (by omega) s.size s
          unfold chunksW
          omega
        have Htr := Lib.hid htr
        clear hz hE hm hs hie hio hq ht hr htr
        go_enter Try.func15, Try.ntmps15
        go_wp2_with (go_at_call 40; go_fit (Hc.out _); rintro e w1 ⟨rfl, hd⟩; have Hd := Lib.hid hd; clear hd)
        refine (Hcut.out _).mono ?_
        rintro e w2 ⟨v, rfl, ho, hb⟩
        obtain ⟨p, c, rfl, _, hX, _⟩ := ho.form
        have HX := Lib.hid hX
        have Hb := Lib.hid hb
        clear ho hX hb
        go_wp2_with (go_at_call 42; go_fit (track_any m (chunksW n s) p c _ HX.out hcl Htr.out); rintro e w3 ⟨rfl, hb3⟩; have Hb3 := Lib.hid hb3; clear hb3)
        go_ret2
        exact ⟨rfl, (Drawn.below Hd.out _).trans ((Hb.out.trans (Hb3.out.mono Hb.out.size)).mono (by rw [Drawn.heap Hd.out]; exact Nat.le_refl _))⟩
    · have hrI : (((s.size : Int) % (n : Int)) != 0) = true := by rw [bne_iff_ne]; omega
      rw [if_pos hr] at hie
      rw [hie, if_neg (by decide)] at hio
      rw [hie, hio]
      clear hz hE hm hs hie hio hr
      go_enter Try.func15, Try.ntmps15
      go_wp2_with (go_at_call 40; go_fit (Hc.out _); rintro e w1 ⟨rfl, hd⟩; have Hd := Lib.hid hd; clear hd)
      go_ret2
      exact ⟨rfl, Drawn.below Hd.out _⟩
  · have hz2 : (E != 0) = true := by rw [bne_iff_ne]; exact hz
    have hie : insErr b m s = E := by unfold insErr; rw [hE, if_pos hz]
    have hio : insOut b m s = ⟨#[]⟩ := by unfold insOut; rw [hie, if_neg hz]
    rw [hie, hio]
    clear hz hE hm hs hie hio
    go_enter Try.func15, Try.ntmps15
    go_wp2_with (go_at_call 40; go_fit (Hc.out _); rintro e w1 ⟨rfl, hd⟩; have Hd := Lib.hid hd; clear hd)
    go_ret2
    exact ⟨rfl, Drawn.below Hd.out _⟩
end Go.Proofs.Ytlkajmdcffemeaa
