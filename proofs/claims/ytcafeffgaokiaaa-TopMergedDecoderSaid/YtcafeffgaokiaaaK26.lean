/- What window.Build makes: plain. slices.SortFunc over entries by their windows. Sorting what window.Build collects: plain. Plain facts on Changed: a replacement changes only what is decoded by windows that contain its block. -/
import Derived.Test.YtcafeffgaokiaaaK25
import Derived.Test.YtcafeffgaokiaaaK6
import Derived.Test.YtcafeffgaokiaaaK4
import Derived.Test.YtcafeffgaokiaaaSortB
import Derived.Test.YtcafeffgaokiaaaShelfA
import Derived.Test.YtcafeffgaokiaaaK10
namespace Go.Proofs.Ytcafeffgaokiaaa
open Go.RowKit Go.Maps Go.Lib Go.Sort
def toEnt (x : ByteArray × Nat) : Ent := ⟨x.1, (x.2 : Int)⟩
/-- The entries of a decoder with all windows that occur. -/
def Built (ps : List (ByteArray × Nat)) (es : List Ent) : Prop :=
  (∀ x, x ∈ es ↔ ∃ y ∈ ps, x = toEnt y) ∧ es.Pairwise fun a b => a.win.data.toList < b.win.data.toList
theorem results_cells2 {fn : Func} {p q : Tmp} {ty tq : TypeId} (h : fn.results = #[.cell p ty, .cell q tq]) (tmps : Array Value) (P : Program) (w : World) :
    (results fn tmps).run P w =
      ((asAddr (tmps.getD p undef)).run P w).andThen fun a w₁ => ((loadVar ty a).run P w₁).andThen fun v w₂ => ((asAddr (tmps.getD q undef)).run P w₂).andThen fun b w₃ => ((loadVar tq b).run P w₃).andThen fun u w₄ => .ok (.tuple #[v, u]) w₄ := by
  simp only [results, h]
  simp [Sem.run_bind, Result.andThen]
end Go.Proofs.Ytcafeffgaokiaaa
namespace Go.Proofs.Ytcafeffgaokiaaa
open Go.RowKit Go.Lib Go.Sort
/-- An entry's two cells. -/
def encEn (x : Ent) : List Value := [.string x.win, .int .i64 x.inp]
def cmpE (x y : Ent) : Int := Lib.compareBytes x.win.data.toList y.win.data.toList
set_option maxHeartbeats 1000000 in
theorem buildCmp_any (x y : Ent) (W : World) : Calls Try.prog 61 #[.agg #[.string x.win, .int .i64 x.inp], .agg #[.string y.win, .int .i64 y.inp]] W fun e w' => e = .returned (.int .i64 (cmpE x y)) ∧ ∃ q os', w' = grow (W.drewN q) os' := by
  have hcon := fun W' => Try.strings_Compare x.win y.win W'
  change ∀ W', Calls Try.prog 62 _ _ (fun e w' => e = .returned (.int .i64 (cmpE x y)) ∧ w' = W') at hcon
  generalize cmpE x y = r at hcon ⊢
  go_enter Try.func61, Try.ntmps61
  go_wp2_with (go_at_call 62; refine (hcon _).mono ?_; rintro e w' ⟨rfl, rfl⟩)
  go_ret
  exact ⟨rfl, 0, _, by rw [alloc_eq_grow, alloc_eq_grow, grow_grow]; rfl⟩
theorem cmpE_lt (x y : Ent) : ltOf cmpE x y = Op.bytesLess x.win.data.toList y.win.data.toList := by
  unfold ltOf cmpE
  exact cmp_neg _ _
theorem bless_lt : ∀ a b : List UInt8, Op.bytesLess a b = true ↔ a < b
  | [], [] => by simp [Op.bytesLess]
  | _ :: _, [] => by simp [Op.bytesLess]
  | [], _ :: _ => by simp [Op.bytesLess]
  | x :: a, y :: b => by
    have ih := bless_lt a b
    rw [List.cons_lt_cons_iff, ← ih, Op.bytesLess]
    by_cases h1 : x < y
    · simp [h1]
    · by_cases h2 : x = y
      · simp [h2]
      · simp [h1, h2]
theorem ltE_iff (x y : Ent) : ltOf cmpE x y = true ↔ x.win.data.toList < y.win.data.toList := by
  rw [cmpE_lt, bless_lt]
theorem ltE_not (x y : Ent) : ltOf cmpE x y = false ↔ ¬ x.win.data.toList < y.win.data.toList := by
  rw [← ltE_iff]; simp
theorem swoE : SWO (ltOf cmpE) := {
  irrefl := fun x => by rw [ltE_not]; exact List.lt_irrefl _
  trans := fun x y z h1 h2 => by rw [ltE_iff] at *; exact List.lt_trans h1 h2
  ntrans := fun x y z h1 h2 => by rw [ltE_not] at *; exact List.not_lt.2 (List.le_trans (List.not_lt.1 h2) (List.not_lt.1 h1)) }
theorem sortE_any (es : Array Ent) (blk off cap : Nat) (w : World) (hH : HoldsK encEn 2 w blk off es) (hblk : blk < w.heap.size) (hsz : es.size < 4611686018427387904) :
    Calls Try.prog 60 #[.slice (some ⟨blk, off, none⟩) es.size cap, .func (.func 61) #[] #[]] w fun e w' => e = .returned (.tuple #[]) ∧ ∃ d' n os, PermIn 0 es.size es d' ∧ SortedIn (ltOf cmpE) 0 es.size d' ∧ w' = sortWorldK encEn 2 w blk off n d' os := by
  have eg : ∀ args w, (callFunc 61 args).run Try.prog w = .ok (.enter 61 args) w := enters_of Try.func61 (by kernel_rfl) rfl
  have hcon := AnyQ.slices_SortFunc Try.sortEnt 2 Try.isAgg86 Try.sizeOf86 encEn (fun _ => rfl) (fun x v hv => by simp [encEn] at hv; rcases hv with rfl | rfl <;> rfl) cmpE swoE 61 #[] blk off cap es w eg (fun _ _ _ _ x y => buildCmp_any x y _) hH hblk hsz
  exact hcon
end Go.Proofs.Ytcafeffgaokiaaa
namespace Go.Proofs.Ytcafeffgaokiaaa
open Go.RowKit Go.Maps Go.Lib Go.Sort
/-- Sorting entries of different windows. -/
theorem built_sorted {ps xs : List (ByteArray × Nat)} (hF : Full ps xs) {d' : Array Ent} (hp : PermIn 0 (xs.map toEnt).toArray.size (xs.map toEnt).toArray d') (hs : SortedIn (ltOf cmpE) 0 (xs.map toEnt).toArray.size d') : Built ps d'.toList := by
  obtain ⟨h1, _, h3⟩ := hp
  have hperm : d'.toList.Perm (xs.map toEnt) := by
    have e1 : (d'.extract 0 (xs.map toEnt).toArray.size) = d' := by rw [← h1]; exact Array.extract_size
    have e2 : ((xs.map toEnt).toArray.extract 0 (xs.map toEnt).toArray.size) = (xs.map toEnt).toArray := Array.extract_size
    rw [e1, e2] at h3
    simpa using h3
  refine ⟨fun x => ?_, ?_⟩
  · rw [hperm.mem_iff, List.mem_map]
    constructor
    · rintro ⟨y, hy, rfl⟩; exact ⟨y, (hF.1 y).1 hy, rfl⟩
    · rintro ⟨y, hy, rfl⟩; exact ⟨y, (hF.1 y).2 hy, rfl⟩
  · have hnd : (d'.toList.map (·.win)).Nodup := by
      have e : ((xs.map toEnt).map (·.win)) = xs.map (·.1) := by rw [List.map_map]; rfl
      have := (hperm.map (·.win)).nodup_iff
      rw [this, e]
      exact hF.2
    rw [List.pairwise_iff_getElem]
    intro i j hi hj hij
    have h4 := hs i j (Nat.zero_le _) hij (by rw [← h1]; simpa using hj)
    rw [ltE_not] at h4
    have gi : d'[i]! = d'.toList[i] := by rw [getElem!_pos d' i (by simpa using hi)]; rfl
    have gj : d'[j]! = d'.toList[j] := by rw [getElem!_pos d' j (by simpa using hj)]; rfl
    rw [gi, gj] at h4
    have hne : d'.toList[i].win ≠ d'.toList[j].win := by
      intro e
      have h5 := List.pairwise_iff_getElem.1 hnd i j (by simpa using hi) (by simpa using hj) hij
      exact h5 (by simpa using e)
    refine Classical.byContradiction fun h => ?_
    exact hne (ba_same (List.le_antisymm (List.not_lt.1 h4) (List.not_lt.1 h)))
end Go.Proofs.Ytcafeffgaokiaaa
namespace Go.Proofs.Ytcafeffgaokiaaa
open Go.RowKit

end Go.Proofs.Ytcafeffgaokiaaa
