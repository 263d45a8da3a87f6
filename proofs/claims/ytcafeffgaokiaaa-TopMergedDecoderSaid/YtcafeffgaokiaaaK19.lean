/- window.many; what the paths of an encoder write, with an input: plain lists. -/
import Derived.Test.YtcafeffgaokiaaaK11
import Derived.Test.YtcafeffgaokiaaaK18
namespace Go.Proofs.Ytcafeffgaokiaaa
open Go.RowKit
/-- What the paths write from a state on, n cells, d done, with the input of the cell number p. -/
def pathL (m : EM) (p : Nat) : Nat → Nat → Nat → ByteArray → Nat → List (ByteArray × Nat)
  | 0, _, _, w, i => [(w, i)]
  | n + 1, d, s, w, i => (List.range (m.L s)).flatMap fun k => pathL m p n (d + 1) (m.T s k).toNat (w ++ m.D s k) (if d = p then k else i)
/-- .. of the first j cells of the state. -/
def pathK (m : EM) (p n d s : Nat) (w : ByteArray) (i j : Nat) : List (ByteArray × Nat) := (List.range j).flatMap fun k => pathL m p n (d + 1) (m.T s k).toNat (w ++ m.D s k) (if d = p then k else i)
theorem pathK_succ (m : EM) (p n d s : Nat) (w : ByteArray) (i j : Nat) : pathK m p n d s w i (j + 1) = pathK m p n d s w i j ++ pathL m p n (d + 1) (m.T s j).toNat (w ++ m.D s j) (if d = p then j else i) := by
  unfold pathK
  rw [List.range_succ, List.flatMap_append]
  simp
/-- All paths of n cells, from the first j states. -/
def pathS (m : EM) (p n j : Nat) : List (ByteArray × Nat) := (List.range j).flatMap fun s => pathL m p n 0 s ByteArray.empty 0
def pathE (m : EM) (p n : Nat) : List (ByteArray × Nat) := pathS m p n m.r
theorem pathS_succ (m : EM) (p n j : Nat) : pathS m p n (j + 1) = pathS m p n j ++ pathL m p n 0 j ByteArray.empty 0 := by
  unfold pathS
  rw [List.range_succ, List.flatMap_append]
  simp
/-- A path by its inputs: what they write, and the input number p. -/
theorem pathL_mem {m : EM} {I B : Nat} (hm : m.Ok I B) {p : Nat} : ∀ n d s w i, s < m.r → ∀ x, x ∈ pathL m p n d s w i ↔ ∃ l : List Nat, l.length = n ∧ (∀ y ∈ l, y < I) ∧ x = ((encW m s l w).1, if d ≤ p then (if p < d + n then l.getD (p - d) 0 else i) else i)
  | 0, d, s, w, i, hs, x => by
    rw [pathL, List.mem_singleton]
    constructor
    · rintro rfl
      refine ⟨[], rfl, (fun y hy => absurd hy (by simp)), ?_⟩
      by_cases h : d ≤ p
      · rw [if_pos h, if_neg (by omega)]; rfl
      · rw [if_neg h]; rfl
    · rintro ⟨l, hl, _, rfl⟩
      obtain rfl := List.eq_nil_of_length_eq_zero hl
      by_cases h : d ≤ p
      · rw [if_pos h, if_neg (by omega)]; rfl
      · rw [if_neg h]; rfl
  | n + 1, d, s, w, i, hs, x => by
    rw [pathL, List.mem_flatMap]
    have key : ∀ k, k < I → ∀ l : List Nat, l.length = n → (if d + 1 ≤ p then (if p < d + 1 + n then l.getD (p - (d + 1)) 0 else (if d = p then k else i)) else (if d = p then k else i)) = (if d ≤ p then (if p < d + (n + 1) then (k :: l).getD (p - d) 0 else i) else i) := by
      intro k hk l hl
      by_cases h1 : d = p
      · subst h1
        rw [if_neg (by omega), if_pos rfl, if_pos (Nat.le_refl _), if_pos (by omega), Nat.sub_self]
        rfl
      · rw [if_neg h1]
        by_cases h2 : d ≤ p
        · rw [if_pos (by omega), if_pos h2]
          by_cases h3 : p < d + 1 + n
          · rw [if_pos h3, if_pos (by omega), show p - d = (p - (d + 1)) + 1 from by omega, List.getD_cons_succ]
          · rw [if_neg h3, if_neg (by omega)]
        · rw [if_neg (by omega), if_neg h2]
    constructor
    · rintro ⟨k, hk, hx⟩
      have hkI : k < I := by rw [← hm.len s hs]; exact List.mem_range.1 hk
      obtain ⟨l, hl, hI, rfl⟩ := (pathL_mem hm n (d + 1) _ _ _ (hm.to1 s k hs hkI) x).1 hx
      refine ⟨k :: l, by simp [hl], fun y hy => ?_, ?_⟩
      · rcases List.mem_cons.1 hy with rfl | h
        · exact hkI
        · exact hI y h
      · rw [key k hkI l hl]; rfl
    · rintro ⟨l, hl, hI, rfl⟩
      cases l with
      | nil => cases hl
      | cons k l =>
        have hkI := hI k List.mem_cons_self
        have hl2 : l.length = n := by simpa using hl
        refine ⟨k, List.mem_range.2 (by rw [hm.len s hs]; exact hkI), (pathL_mem hm n (d + 1) _ _ _ (hm.to1 s k hs hkI) _).2 ⟨l, hl2, fun y hy => hI y (List.mem_cons_of_mem _ hy), ?_⟩⟩
        rw [key k hkI l hl2]; rfl
theorem pathE_mem {m : EM} {I B : Nat} (hm : m.Ok I B) {p n : Nat} (hp : p < n) (x : ByteArray × Nat) : x ∈ pathE m p n ↔ ∃ s l, s < m.r ∧ l.length = n ∧ (∀ y ∈ l, y < I) ∧ x = ((encW m s l ByteArray.empty).1, l.getD p 0) := by
  unfold pathE pathS
  rw [List.mem_flatMap]
  constructor
  · rintro ⟨s, hs, hx⟩
    obtain ⟨l, hl, hI, rfl⟩ := (pathL_mem hm n 0 s _ 0 (List.mem_range.1 hs) x).1 hx
    refine ⟨s, l, List.mem_range.1 hs, hl, hI, ?_⟩
    rw [if_pos (Nat.zero_le _), if_pos (by omega)]; rfl
  · rintro ⟨s, l, hs, hl, hI, rfl⟩
    refine ⟨s, List.mem_range.2 hs, (pathL_mem hm n 0 s _ 0 hs _).2 ⟨l, hl, hI, ?_⟩⟩
    rw [if_pos (Nat.zero_le _), if_pos (by omega)]; rfl
theorem pathL_len {m : EM} {I B : Nat} (hm : m.Ok I B) {p : Nat} : ∀ n d s w i, s < m.r → (pathL m p n d s w i).length = I ^ n
  | 0, _, _, _, _, _ => rfl
  | n + 1, d, s, w, i, hs => by
    rw [pathL, List.length_flatMap, hm.len s hs]
    have key : ∀ L : List Nat, (∀ k ∈ L, k < I) → (L.map fun k => (pathL m p n (d + 1) (m.T s k).toNat (w ++ m.D s k) (if d = p then k else i)).length).sum = L.length * I ^ n := by
      intro L
      induction L with
      | nil => intro _; simp
      | cons k L ih =>
        intro h
        rw [List.map_cons, List.sum_cons, ih fun y hy => h y (List.mem_cons_of_mem _ hy), pathL_len hm n _ _ _ _ (hm.to1 s k hs (h k List.mem_cons_self)), List.length_cons, Nat.add_mul]
        omega
    rw [key _ fun k hk => List.mem_range.1 hk, List.length_range, Nat.pow_succ, Nat.mul_comm]
theorem pathE_len {m : EM} {I B : Nat} (hm : m.Ok I B) (p n : Nat) : (pathE m p n).length = m.r * I ^ n := by
  unfold pathE pathS
  rw [List.length_flatMap]
  have key : ∀ L : List Nat, (∀ k ∈ L, k < m.r) → (L.map fun s => (pathL m p n 0 s ByteArray.empty 0).length).sum = L.length * I ^ n := by
    intro L
    induction L with
    | nil => intro _; simp
    | cons k L ih =>
      intro h
      rw [List.map_cons, List.sum_cons, ih fun y hy => h y (List.mem_cons_of_mem _ hy), pathL_len hm n _ _ _ _ (h k List.mem_cons_self), List.length_cons, Nat.add_mul]
      omega
  rw [key _ fun k hk => List.mem_range.1 hk, List.length_range]
/-- Are there more than 65536 paths of n cells? -/
def manyP (r I n : Nat) : Bool := decide (65536 < r * I ^ n)
set_option maxRecDepth 100000 in
set_option maxHeartbeats 8000000 in
theorem manyW_any (l b : Int) (I : Nat) (m : EM) (p : Option Addr) (c : Nat) (n : Nat) (w : World) (hn : n ≤ 64) (hI1 : 1 ≤ I) (hI : I ≤ 256) (hr : m.r ≤ 64) :
    Calls Try.prog 57 #[.agg #[.int .i64 l, .int .i64 b, .int .i64 (I : Int), .slice p m.r c], .int .i64 (n : Int)] w fun e w' => e = .returned (.bool (manyP m.r I n)) ∧ Below w.heap.size w w' := by
  have HI1 := Lib.hid hI1
  clear hI1
  go_enter Try.func57, Try.ntmps57
  go_wp2
  go_loopw [5, 10] (fun ov kv wr => ∃ (k v : Nat), k ≤ n ∧ ov = .int .i64 (v : Nat) ∧ kv = .int .i64 (k : Nat) ∧ Below (w.heap.size + 1) (w.alloc (.cells #[.int .i64 l, .int .i64 b, .int .i64 (I : Int), .slice p m.r c] 24)) wr ∧ v ≤ 65536 ∧ Hid (v = m.r * I ^ k)) (fun _ kv _ => n - (intOf kv).toNat)
  case atStart => exact ⟨0, m.r, by omega, rfl, rfl, Below.refl _ _, by omega, Lib.hid (by simp)⟩
  case round =>
    obtain ⟨k, v, hk, rfl, rfl, hb, hv, HV⟩ := hrel
    obtain ⟨⟨c0, c1, c2, c3⟩, hsz, hbw⟩ := box4 hb
    have Hb := Lib.hid hb
    have Hbw := Lib.hid hbw
    clear hb hbw
    by_cases hlt : k < n
    · have k1 : (k : Int) < (n : Int) := by omega
      obtain ⟨u, hu⟩ : ∃ u, v * I = u := ⟨_, rfl⟩
      have hub : u ≤ 65536 * 256 := by rw [← hu]; exact Nat.mul_le_mul hv hI
      have hw0 : wrap64 ((v : Int) * (I : Int)) = (u : Int) := by rw [← Int.natCast_mul, hu]; exact IntWalk.wrap64_in _ (by omega)
      have hw2 : IntKind.i64.wrap ((v : Int) * (I : Int)) = (u : Int) := (IntWalk.i64_left _).trans hw0
      have HU : Hid (u = m.r * I ^ (k + 1)) := Lib.hid (by rw [← hu, HV.out, Nat.pow_succ, Nat.mul_assoc])
      clear hu
      by_cases h4 : 65536 < u
      · have h5 : (65536 : Int) < (u : Int) := by omega
        have HR : Hid (true = manyP m.r I n) := Lib.hid (by
          unfold manyP
          refine (decide_eq_true ?_).symm
          have h6 : I ^ (k + 1) ≤ I ^ n := Nat.pow_le_pow_right HI1.out hlt
          have h7 : m.r * I ^ (k + 1) ≤ m.r * I ^ n := Nat.mul_le_mul_left _ h6
          rw [← HU.out] at h7
          omega)
        clear hub
        go_wp2
        go_ret
        exact ⟨ret_bool HR.out, Hbw.out⟩
      · have h5 : ¬ (65536 : Int) < (u : Int) := by omega
        clear hub
        go_wp2
        go_roundw
        case rel => exact ⟨k + 1, u, by omega, rfl, by go_num, Hb.out, by omega, HU⟩
        case measure => simp [intOf]; omega
    · have k1 : ¬ (k : Int) < (n : Int) := by omega
      have hke : k = n := by omega
      have h5 : ¬ (65536 : Int) < (v : Int) := by omega
      have HR : Hid (false = manyP m.r I n) := Lib.hid (by
        unfold manyP
        refine (decide_eq_false ?_).symm
        rw [← hke, ← HV.out]
        omega)
      clear hke
      go_wp2
      go_ret
      exact ⟨ret_bool HR.out, Hbw.out⟩
end Go.Proofs.Ytcafeffgaokiaaa
