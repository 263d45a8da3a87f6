/- The facts of the statement TopDamaged: plain. -/
import Derived.Test.YtcafeffgaokiaaaZ32
namespace Go.Proofs.Ytcafeffgaokiaaa
open Go.RowKit Go.Maps Go.Lib Go.Sort
theorem dam_dec {L B I : Nat} {m : EM} (he : encCheck (L : Int) (B : Int) (I : Int) m = 0) {P F : Nat} (hPF : P + F < 16) {es : List Ent} (hb : Built (pathE m P (P + 1 + F)) es) (hmany : manyP m.r I (P + 1 + F) = false) {s : Nat} (hs : s < m.r) {ls : List Nat} (hls : ∀ x ∈ ls, x < I) (hn : ls.length ≤ 12) {R : List Int} (hR : ((intsN ls).drop P).take (ls.length - P - F) = R) {w2 : ByteArray} (hw : (encW m s ls ByteArray.empty).1 = w2) :
    w2.size ≤ 192 ∧ decErr (L : Int) (B : Int) (I : Int) (P : Int) (F : Int) es w2 = 0 ∧ decOut (L : Int) (B : Int) (I : Int) (P : Int) (F : Int) es w2 = R ∧ R.length = ls.length - P - F ∧ boundErr (L : Int) (B : Int) (I : Int) (P : Int) (F : Int) es = 0 ∧ boundVal (L : Int) (B : Int) (I : Int) (P : Int) (F : Int) es = (P : Int) + 1 + (F : Int) ∧
      ∀ a c : Nat, a < w2.size → c < L → chErr (L : Int) (B : Int) (I : Int) (P : Int) (F : Int) es w2 (a : Int) (c : Int) = 0 ∧ ((chOut (L : Int) (B : Int) (I : Int) (P : Int) (F : Int) es w2 (a : Int) (c : Int)).length : Int) ≤ (P : Int) + 1 + (F : Int) ∧
        ∀ x ∈ chOut (L : Int) (B : Int) (I : Int) (P : Int) (F : Int) es w2 (a : Int) (c : Int), 0 ≤ x ∧ x < (R.length : Int) ∧ x ≤ ((a / B : Nat) : Int) ∧ ((a / B : Nat) : Int) ≤ x + (P : Int) + (F : Int) := by
  obtain ⟨hl, hB, hI, hr, hok, hwd⟩ := encCheck_ok he
  obtain ⟨hck, _⟩ := built_check he hPF hb hmany
  obtain ⟨h1, h2, h3⟩ := built_decode he hPF hb hmany hs hls (by omega)
  rw [hw] at h1 h2 h3
  rw [hR] at h3
  have hz : ls.length * B ≤ 12 * 16 := Nat.mul_le_mul hn (by omega)
  refine ⟨by omega, h2, h3, ?_, ?_, ?_, fun a c ha hc => ?_⟩
  · rw [← hR, List.length_take, List.length_drop, intsN_len]; omega
  · unfold boundErr; rw [if_neg (by rw [hck]; simp)]
  · unfold boundVal; rw [if_neg (by rw [hck]; simp)]
  · have h0 : chErr (L : Int) (B : Int) (I : Int) (P : Int) (F : Int) es w2 (a : Int) (c : Int) = 0 := chErr_zero.2 ⟨h2, ⟨by omega, by omega⟩, by omega, by omega⟩
    refine ⟨h0, chOut_len h0, fun x hx => ?_⟩
    obtain ⟨k1, k2, k3⟩ := chOut_mem h0 hx
    have hx2 := hx
    unfold chOut at hx2
    rw [if_pos h0, h3] at hx2
    obtain ⟨k, rfl, hk, _, _⟩ := diffs_mem hx2
    exact ⟨k1, by omega, k2, k3⟩
theorem ints_sub {W : World} {b off n P F : Nat} {ls : List Nat} (h : IntsAt W (some ⟨b, off, none⟩) (intsN ls)) (hn : ls.length = n) : IntsAt W (some ⟨b, off + P, none⟩) (((intsN ls).drop P).take (n - P - F)) := by
  rcases h with h | ⟨b', off', he, hlt, hc⟩
  · refine .inl ?_
    rw [List.length_take, List.length_drop]
    omega
  · cases he
    refine .inr ⟨b, off + P, rfl, hlt, fun i hi j hj => ?_⟩
    have hj0 : j = 0 := by omega
    subst hj0
    rw [List.length_take, List.length_drop] at hi
    have h1 := hc (P + i) (by omega) 0 (by omega)
    rw [show off + P + i * 1 + 0 = off + (P + i) * 1 + 0 from by omega, h1]
    dsimp only
    congr 2
    rw [List.getD_eq_getElem?_getD, List.getD_eq_getElem?_getD, List.getElem?_take_of_lt (by omega), List.getElem?_drop]
theorem modW (x y : Nat) (hx : x < 256) : (IntKind.i64.wrap (x : Int)).tmod (y : Int) = ((x % y : Nat) : Int) := by
  rw [IntWalk.i64_in _ (by omega)]
  rfl
theorem modN (x y : Nat) : (x : Int).tmod (y : Int) = ((x % y : Nat) : Int) := rfl
theorem modE (x y : Nat) : (x : Int) % (y : Int) = ((x % y : Nat) : Int) := rfl
def dmn (a b : Int) : Int := if b < a then b else a
def dmx (a b : Int) : Int := if b > a then b else a
theorem run_dmn {P : Program} (ts : Array TypeId) (t : TypeId) (w : World) (a b : Int) : (Builtin.min_ ts t #[.int .i64 a, .int .i64 b]).run P w = .ok (.int .i64 (dmn a b)) w := rfl
theorem run_dmx {P : Program} (ts : Array TypeId) (t : TypeId) (w : World) (a b : Int) : (Builtin.max_ ts t #[.int .i64 a, .int .i64 b]).run P w = .ok (.int .i64 (dmx a b)) w := rfl
theorem dmn_12 (n : Nat) : dmn (n : Int) 12 = ((min n 12 : Nat) : Int) := by
  unfold dmn
  split <;> omega
theorem dmx_0 (n P F : Nat) (h : n ≤ 12) (hp : P ≤ 12) (hf : F ≤ 12) : dmx 0 (wrap64 (wrap64 ((n : Int) - (P : Int)) - (F : Int))) = ((n - P - F : Nat) : Int) := by
  rw [IntWalk.wrap64_in ((n : Int) - (P : Int)) (by omega), IntWalk.wrap64_in _ (by omega)]
  unfold dmx
  split <;> omega
/-- l[:k]. -/
theorem slice_front {w : World} {q : Option Addr} {n c k : Nat} (h : k ≤ c) : (Instr.slice 25 (.slice q n c) none (some (.int .i64 (k : Int))) none).run Try.prog w = .ok (.slice q k c) w := by
  have hb : (Instr.sliceBounds true n c none (some (.int .i64 (k : Int))) none).run Try.prog w = .ok (0, k, c) w := by
    have h0 : (Instr.sliceBound (.int .i64 (k : Int)) c .sliceAcap).run Try.prog w = .ok k w := by
      have := run_sliceBound (P := Try.prog) (w := w) .i64 (k : Int) c .sliceAcap (by omega) (by omega)
      simpa using this
    simp [Instr.sliceBounds, Sem.run_bind, h0]
  have hz : (Go.sizeOf 5).run Try.prog w = .ok 1 w := by kernel_rfl
  have hu := run_underlying Try.underlying25 w
  have hq : (if c = 0 then q else q.map fun a => a.add 0) = q := by
    split
    · rfl
    · cases q with
      | none => rfl
      | some a =>
        obtain ⟨b, off, spot⟩ := a
        cases spot <;> simp [Addr.add]
  simp [Instr.slice, Sem.run_bind, hu, hb, hz, hq]
/-- l[P:e] of ints, not empty. -/
theorem slice_mid2 {w : World} {b o n c P e r : Nat} (h1 : P + r = e) (h2 : e ≤ c) (hr : 0 < r) : (Instr.slice 34 (.slice (some ⟨b, o, none⟩) n c) (some (.int .i64 (P : Int))) (some (.int .i64 (e : Int))) none).run Try.prog w = .ok (.slice (some ⟨b, o + P, none⟩) r (c - P)) w := by
  have hb : (Instr.sliceBounds true n c (some (.int .i64 (P : Int))) (some (.int .i64 (e : Int))) none).run Try.prog w = .ok (P, e, c) w := by
    have h0 : (Instr.sliceBound (.int .i64 (e : Int)) c .sliceAcap).run Try.prog w = .ok e w := by
      have := run_sliceBound (P := Try.prog) (w := w) .i64 (e : Int) c .sliceAcap (by omega) (by omega)
      simpa using this
    have h3 : (Instr.sliceBound (.int .i64 (P : Int)) e .sliceB).run Try.prog w = .ok P w := by
      have := run_sliceBound (P := Try.prog) (w := w) .i64 (P : Int) e .sliceB (by omega) (by omega)
      simpa using this
    simp [Instr.sliceBounds, Sem.run_bind, h0, h3]
  have hz : (Go.sizeOf 3).run Try.prog w = .ok 1 w := by kernel_rfl
  have hu := run_underlying Try.underlying34 w
  have hc : ¬ c = P := by omega
  have he : e - P = r := by omega
  simp [Instr.slice, Sem.run_bind, hu, hb, hz, hc, he, Addr.add]
theorem wrapI (x : Int) (h : -1000 ≤ x ∧ x ≤ 1000) : wrap64 x = x := IntWalk.wrap64_in _ (by omega)
theorem sum2W (x P f y1 y2 : Int) (hx : 0 ≤ x ∧ x ≤ 500) (hP : 0 ≤ P ∧ P ≤ 20) (hf : 0 ≤ f ∧ f ≤ 20) (h1 : wrap64 (x + P) = y1) (h2 : wrap64 (y1 + f) = y2) : y2 = x + P + f := by
  rw [wrapI _ (by omega)] at h1
  subst h1
  rw [wrapI _ (by omega)] at h2
  exact h2.symm
theorem bndW {P f : Nat} {q1 q2 BD : Int} (h : P + f ≤ 2) (h1 : wrap64 ((P : Int) + 1) = q1) (h2 : wrap64 (q1 + (f : Int)) = q2) (hB : (P : Int) + 1 + (f : Int) = BD) : (BD != q2) = false := by
  rw [wrapI _ (by omega)] at h1
  subst h1
  rw [wrapI _ (by omega)] at h2
  rw [← h2, ← hB]
  simp
theorem endW {P f D0 : Nat} {x y1 y2 : Int} (hx : 0 ≤ x ∧ x ≤ 500) (hP : P + f ≤ 2) (hD : (D0 : Int) ≤ x + (P : Int) + (f : Int)) (h1 : wrap64 (x + (P : Int)) = y1) (h2 : wrap64 (y1 + (f : Int)) = y2) : ¬ y2 < (D0 : Int) := by
  rw [sum2W x P f y1 y2 hx (by omega) (by omega) h1 h2]
  omega
theorem quoN (a b : Nat) : (a : Int).tdiv (b : Int) = ((a / b : Nat) : Int) := rfl
theorem quoE (a b : Nat) : (a : Int) / (b : Int) = ((a / b : Nat) : Int) := rfl
end Go.Proofs.Ytcafeffgaokiaaa
