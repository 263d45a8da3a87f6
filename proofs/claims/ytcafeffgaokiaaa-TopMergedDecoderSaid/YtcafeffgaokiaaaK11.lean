/- What encoders write: plain lists. -/
import Derived.Test.YtcafeffgaokiaaaK3
import Derived.Test.YtcafeffgaokiaaaK10
namespace Go.Proofs.Ytcafeffgaokiaaa
open Go.RowKit
/-- A valid encoder: rows of I cells, states of the encoder, words of B letters. -/
structure EM.Ok (m : EM) (I B : Nat) : Prop where
  len : ∀ s, s < m.r → m.L s = I
  to0 : ∀ s k, s < m.r → k < I → 0 ≤ m.T s k
  to1 : ∀ s k, s < m.r → k < I → (m.T s k).toNat < m.r
  wd : ∀ s k, s < m.r → k < I → (m.D s k).size = B
/-- What can be written from a state behind a word, n cells on. -/
def wordsL (m : EM) : Nat → Nat → ByteArray → List ByteArray
  | 0, _, w => [w]
  | n + 1, s, w => (List.range (m.L s)).flatMap fun k => wordsL m n (m.T s k).toNat (w ++ m.D s k)
/-- .. of the first j cells of the state. -/
def wordsK (m : EM) (n s : Nat) (w : ByteArray) (j : Nat) : List ByteArray := (List.range j).flatMap fun k => wordsL m n (m.T s k).toNat (w ++ m.D s k)
theorem wordsK_succ (m : EM) (n s : Nat) (w : ByteArray) (j : Nat) : wordsK m n s w (j + 1) = wordsK m n s w j ++ wordsL m n (m.T s j).toNat (w ++ m.D s j) := by
  unfold wordsK
  rw [List.range_succ, List.flatMap_append]
  simp
/-- All written words of n blocks. -/
def wordsE (m : EM) (n : Nat) : List ByteArray := (List.range m.r).flatMap fun s => wordsL m n s ByteArray.empty
def wordsS (m : EM) (n j : Nat) : List ByteArray := (List.range j).flatMap fun s => wordsL m n s ByteArray.empty
theorem wordsS_succ (m : EM) (n j : Nat) : wordsS m n (j + 1) = wordsS m n j ++ wordsL m n j ByteArray.empty := by
  unfold wordsS
  rw [List.range_succ, List.flatMap_append]
  simp
def inF (I : Nat) : Nat → List (List Nat)
  | 0 => [[]]
  | n + 1 => (List.range I).flatMap fun x => (inF I n).map (x :: ·)
/-- What the inputs l write from the state s, and where they end. -/
def encW (m : EM) : Nat → List Nat → ByteArray → ByteArray × Nat
  | s, [], w => (w, s)
  | s, x :: l, w => encW m (m.T s x).toNat l (w ++ m.D s x)
theorem wordsL_enc {m : EM} {I B : Nat} (hm : m.Ok I B) : ∀ n s w, s < m.r → wordsL m n s w = (inF I n).map fun l => (encW m s l w).1
  | 0, _, _, _ => rfl
  | n + 1, s, w, hs => by
    show (List.range (m.L s)).flatMap _ = ((List.range I).flatMap fun x => (inF I n).map (x :: ·)).map _
    rw [hm.len s hs, List.map_flatMap]
    have key : ∀ L : List Nat, (∀ x ∈ L, x < I) → L.flatMap (fun k => wordsL m n (m.T s k).toNat (w ++ m.D s k)) = L.flatMap fun x => ((inF I n).map (x :: ·)).map fun l => (encW m s l w).1 := by
      intro L
      induction L with
      | nil => intro _; rfl
      | cons x L ih =>
        intro h
        rw [List.flatMap_cons, List.flatMap_cons, ih fun y hy => h y (List.mem_cons_of_mem _ hy)]
        congr 1
        rw [wordsL_enc hm n _ _ (hm.to1 s x hs (h x List.mem_cons_self)), List.map_map]
        rfl
    exact key _ fun x hx => List.mem_range.1 hx
/-- The sizes of written words. -/
theorem wordsL_size {m : EM} {I B : Nat} (hm : m.Ok I B) : ∀ n s w, s < m.r → ∀ x ∈ wordsL m n s w, x.size = w.size + n * B
  | 0, _, w, _, x, hx => by
    rw [wordsL, List.mem_singleton] at hx
    rw [hx]; omega
  | n + 1, s, w, hs, x, hx => by
    rw [wordsL, List.mem_flatMap] at hx
    obtain ⟨k, hk, hx⟩ := hx
    have hkI : k < I := by rw [← hm.len s hs]; exact List.mem_range.1 hk
    have h1 := wordsL_size hm n _ _ (hm.to1 s k hs hkI) x hx
    rw [h1, ByteArray.size_append, hm.wd s k hs hkI, Nat.add_mul]
    omega
/-- A valid encoder by what Check finds. -/
theorem encCheck_ok {l b i : Int} {m : EM} (h : encCheck l b i m = 0) : (1 ≤ l ∧ l ≤ 16) ∧ (1 ≤ b ∧ b ≤ 16) ∧ (1 ≤ i ∧ i ≤ 256) ∧ (0 < m.r ∧ m.r ≤ 64) ∧ m.Ok i.toNat b.toNat ∧ ∀ s k, s < m.r → k < m.L s → wordCheck l (m.D s k).data.toList = 0 := by
  unfold encCheck at h
  split at h
  · cases h
  split at h
  · cases h
  split at h
  · cases h
  split at h
  · cases h
  rename_i h1 h2 h3 h4
  have hb0 : ∀ s r, encRowB l b i m s = some r → r ≠ 0 := fun s r hr => by
    unfold encRowB at hr
    split at hr
    · cases hr; decide
    · split at hr
      · cases hr; assumption
      · cases hr
  have hrow := (firstFrom_zero_iff hb0 m.r 0).1 h
  have hrow2 : ∀ s, s < m.r → (m.L s : Int) = i ∧ encRowV l b m s = 0 := fun s hs => by
    have hr := hrow s (Nat.zero_le _) (by omega)
    unfold encRowB at hr
    split at hr
    · cases hr
    · split at hr
      · cases hr
      · rename_i a1 a2
        exact ⟨by omega, by omega⟩
  have hc0 : ∀ s k r, encCellB l b m s k = some r → r ≠ 0 := fun s k r hr => by
    unfold encCellB at hr
    split at hr
    · cases hr; decide
    · split at hr
      · cases hr; decide
      · cases hr
  have hcell : ∀ s k, s < m.r → k < m.L s → (0 ≤ m.T s k ∧ m.T s k < m.r) ∧ ((m.D s k).size : Int) = b ∧ wordCheck l (m.D s k).data.toList = 0 := fun s k hs hk => by
    have hv := (hrow2 s hs).2
    have hr := (firstFrom_zero_iff (hc0 s) (m.L s) 0).1 hv k (Nat.zero_le _) (by omega)
    unfold encCellB at hr
    split at hr
    · cases hr
    · split at hr
      · cases hr
      · rename_i a1 a2
        refine ⟨⟨by omega, by omega⟩, ?_, ?_⟩
        · exact Classical.byContradiction fun hh => a2 (.inl hh)
        · exact Classical.byContradiction fun hh => a2 (.inr hh)
  have hlen : ∀ s, s < m.r → m.L s = i.toNat := fun s hs => by have := (hrow2 s hs).1; omega
  refine ⟨by omega, by omega, by omega, by omega, ⟨hlen, fun s k hs hk => ?_, fun s k hs hk => ?_, fun s k hs hk => ?_⟩, fun s k hs hk => (hcell s k hs hk).2.2⟩
  · exact (hcell s k hs (by rw [hlen s hs]; exact hk)).1.1
  · have := (hcell s k hs (by rw [hlen s hs]; exact hk)).1; omega
  · have := (hcell s k hs (by rw [hlen s hs]; exact hk)).2.1; omega
end Go.Proofs.Ytcafeffgaokiaaa
