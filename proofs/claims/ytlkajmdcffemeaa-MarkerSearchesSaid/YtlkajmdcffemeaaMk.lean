/- Markers: what the functions of the chapter compute, in plain words. No program here. -/
import Derived.Test.YtlkajmdcffemeaaPlain
import Derived.Test.YtlkajmdcffemeaaShelfA
namespace Go.Proofs.Ytlkajmdcffemeaa

/-- Does the marker stand behind a block with a shift? -/
def fitsB (b : Nat) (m w : ByteArray) (s : Int) : Bool := decide (((b : Int) + s).toNat ≤ w.size) && Lib.hasPrefix (w.extract ((b : Int) + s).toNat w.size).data.toList m.data.toList
/-- The shift of the first block; 2 if none fits. -/
def shiftB (b : Nat) (m w : ByteArray) : Int := if fitsB b m w 0 then 0 else if fitsB b m w (-1) then -1 else if fitsB b m w 1 then 1 else 2
theorem shiftB_cases (b : Nat) (m w : ByteArray) : shiftB b m w = 2 ∨ ((shiftB b m w = 0 ∨ shiftB b m w = -1 ∨ shiftB b m w = 1) ∧ fitsB b m w (shiftB b m w) = true) := by
  unfold shiftB
  split
  · exact .inr ⟨.inl rfl, by assumption⟩
  · split
    · exact .inr ⟨.inr (.inl rfl), by assumption⟩
    · split
      · exact .inr ⟨.inr (.inr rfl), by assumption⟩
      · exact .inl rfl
/-- The blocks of a track with their shifts; a last one with the shift 2 if none fits there. -/
def blks (b : Nat) (m : ByteArray) : Nat → ByteArray → List (ByteArray × Int)
  | 0, _ => []
  | f + 1, w => if w.size = 0 then [] else if shiftB b m w = 2 then [(⟨#[]⟩, 2)] else
      (w.extract 0 ((b : Int) + shiftB b m w).toNat, shiftB b m w) :: blks b m f (w.extract (((b : Int) + shiftB b m w).toNat + m.size) w.size)
theorem blks_fuel (b : Nat) (m : ByteArray) (hm : 0 < m.size) : ∀ f g w, w.size ≤ f → w.size ≤ g → blks b m f w = blks b m g w
  | 0, g, w, h, _ => by
    have : w.size = 0 := by omega
    cases g <;> simp [blks, this]
  | f + 1, 0, w, _, h => by
    have : w.size = 0 := by omega
    simp [blks, this]
  | f + 1, g + 1, w, h1, h2 => by
    simp only [blks]
    split
    · rfl
    · split
      · rfl
      · rw [blks_fuel b m hm f g _ (by rw [ByteArray.size_extract]; omega) (by rw [ByteArray.size_extract]; omega)]
def blksW (b : Nat) (m w : ByteArray) : List (ByteArray × Int) := blks b m w.size w
theorem blksW_nil {b : Nat} {m w : ByteArray} (h : w.size = 0) : blksW b m w = [] := by unfold blksW; rw [h]; rfl
theorem blksW_bad {b : Nat} {m w : ByteArray} (h : w.size ≠ 0) (hs : shiftB b m w = 2) : blksW b m w = [(⟨#[]⟩, 2)] := by
  unfold blksW
  obtain ⟨k, hk⟩ : ∃ k, w.size = k + 1 := ⟨w.size - 1, by omega⟩
  rw [hk]; simp only [blks]; rw [if_neg h, if_pos hs]
theorem blksW_step {b : Nat} {m w : ByteArray} (hm : 0 < m.size) (h : w.size ≠ 0) (hs : shiftB b m w ≠ 2) :
    blksW b m w = (w.extract 0 ((b : Int) + shiftB b m w).toNat, shiftB b m w) :: blksW b m (w.extract (((b : Int) + shiftB b m w).toNat + m.size) w.size) := by
  unfold blksW
  obtain ⟨k, hk⟩ : ∃ k, w.size = k + 1 := ⟨w.size - 1, by omega⟩
  rw [show blks b m w.size w = blks b m (k + 1) w from by rw [hk]]
  simp only [blks]
  rw [if_neg h, if_neg hs]
  congr 1
  exact blks_fuel b m hm _ _ _ (by rw [ByteArray.size_extract]; omega) (Nat.le_refl _)
/-- Do all blocks fit? -/
def okB (l : List (ByteArray × Int)) : Bool := l.all fun x => x.2 != 2
end Go.Proofs.Ytlkajmdcffemeaa
