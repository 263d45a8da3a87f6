/- encoder.Encode at a valid encoder. Slices of bytes that read. What every law's frame needs. Arguments opened: structs of one-cell fields, slices of them; what every law's frame needs. An encoder that came in. A slice of bytes that came in. -/
import Derived.Test.YtcafeffgaokiaaaJ44
import Derived.Test.YtcafeffgaokiaaaJ0
import Derived.Test.YtcafeffgaokiaaaRows
import Derived.ProofKit
import Derived.OpenShut
import Derived.SizedLaws
import Derived.Deep.Slices
import Derived.Deep.Fields
import Derived.Carry
import Derived.Test.YtcafeffgaokiaaaJ1
import Derived.Deep.SlicePairs
namespace Go.Proofs.Ytcafeffgaokiaaa
open Go.RowKit
set_option maxRecDepth 100000 in
theorem encOut_any (x I : Nat) (hx : x < I) (hI : I ≤ 256) (g : Nat) (W : World) (hc : W.cell? ⟨g, 2, none⟩ = some (.int .i64 (I : Int))) :
    Calls Try.prog 33 #[.int .i64 (x : Int), .pointer (some ⟨g, 0, none⟩)] W (RetB false W) := by
  have x0 : ¬ (x : Int) < 0 := by omega
  have x1 : ¬ (I : Int) ≤ (x : Int) := by omega
  go_enter Try.func33, Try.ntmps33
  go_wp2
  go_ret
  exact ⟨by first | rfl | (have y0 : decide ((x : Int) < 0) = false := decide_eq_false x0; have y1 : decide (I ≤ x) = false := decide_eq_false (by omega); simp [y0, y1]), Below.refl _ _⟩
set_option maxRecDepth 100000 in
set_option maxHeartbeats 8000000 in
theorem encode_any (l b i : Int) (m : EM) (p : Option Addr) (c : Nat) (s : Nat) (q : Option Addr) (cq : Nat) (ls : List Nat) (w : World) (hA : m.At w p) (hf : m.Fit) (he : encCheck l b i m = 0) (hs : s < m.r) (hq : IntsAt w q (intsN ls)) (hl : ∀ x ∈ ls, (x : Int) < i) (hn : ls.length ≤ 16) :
    Calls Try.prog 10 #[.agg #[.int .i64 l, .int .i64 b, .int .i64 i, .slice p m.r c], .int .i64 (s : Int), .slice q ls.length cq] w fun e w' =>
      e = .returned (.tuple #[.string (encW m s ls ByteArray.empty).1, .int .i64 ((encW m s ls ByteArray.empty).2 : Int), .int .i64 0]) ∧ Below w.heap.size w w' := by
  obtain ⟨⟨l1, l2⟩, ⟨b1, b2⟩, ⟨i1, i2⟩, ⟨r1, r2⟩, hok, _⟩ := encCheck_ok he
  obtain ⟨B, rfl⟩ : ∃ B : Nat, b = B := ⟨b.toNat, by omega⟩
  obtain ⟨I, rfl⟩ : ∃ I : Nat, i = I := ⟨i.toNat, by omega⟩
  rw [Int.toNat_natCast, Int.toNat_natCast] at hok
  have HOk := Lib.hid hok
  have HE := Lib.hid hA
  have HQ := Lib.hid hq
  have HL : Hid (∀ x ∈ ls, x < I) := Lib.hid (fun x hx => by have := hl x hx; omega)
  have hC := Lib.hid (fun (W : World) (h : Below w.heap.size w W) => encCheck_any l (B : Int) (I : Int) m p c W (hA.below (Nat.le_refl _) h) hf)
  rw [he] at hC
  clear hA hq hl he hok hf
  have s0 : (0 : Int) ≤ (s : Int) := by omega
  have s1 : (s : Int) < (m.r : Int) := by omega
  have s2 : ¬ (s : Int) < 0 := by omega
  have s3 : ¬ (m.r : Int) ≤ (s : Int) := by omega
  have s4 : decide (m.r ≤ s) = false := decide_eq_false (by omega)
  have s5 : decide ((s : Int) < 0) = false := decide_eq_false (by omega)
  obtain ⟨NB, hNB⟩ : ∃ NB, ls.length * B = NB := ⟨_, rfl⟩
  have hNB2 : NB ≤ 256 := by rw [← hNB]; exact Nat.le_trans (Nat.mul_le_mul hn (show B ≤ 16 by omega)) (by decide)
  have hw1 : wrap64 ((ls.length : Int) * (B : Int)) = (NB : Int) := by rw [← Int.natCast_mul, hNB]; exact IntWalk.wrap64_in _ (by omega)
  have hw2 : IntKind.i64.wrap ((ls.length : Int) * (B : Int)) = (NB : Int) := (IntWalk.i64_left _).trans hw1
  have hw3 : ¬ (65536 : Int) < (NB : Int) := by omega
  obtain ⟨⟨x0, x1, x2, x3⟩, _, hb0⟩ := box4 (Below.refl (w.heap.size + 1) (w.alloc (.cells #[.int .i64 l, .int .i64 (B : Int), .int .i64 (I : Int), .slice p m.r c] 24)))
  have Hb0 := Lib.hid hb0
  clear hNB hb0
  go_enter Try.func10, Try.ntmps10
  go_wp2_with fail
  refine (hC.out _ Hb0.out).mono ?_; rintro e V1 ⟨rfl, hb⟩
  have HB1 : Hid (Below (w.heap.size + 1) (w.alloc (.cells #[.int .i64 l, .int .i64 (B : Int), .int .i64 (I : Int), .slice p m.r c] 24)) V1) := Lib.hid (hb.mono (by simp))
  clear hb x0 x1 x2 x3
  obtain ⟨⟨x0, x1, x2, x3⟩, hsz1, hbw1⟩ := box4 HB1.out
  have Hbw1 := Lib.hid hbw1
  have hbv : ∀ W, Below V1.heap.size V1 W → W.cell? ⟨w.heap.size, 2, none⟩ = some (.int .i64 (I : Int)) := fun W hW => (hW.cell (p := ⟨w.heap.size, 2, none⟩) hsz1).trans x2
  have hcf := containsFn_i ls.length q cq (fun k => (intsN ls).getD k 0) 33 #[.pointer (some ⟨w.heap.size, 0, none⟩)] (fun _ => false) V1 (enters_of Try.func33 (by kernel_rfl) rfl) (by omega)
    (by have h := HQ.out.below (Nat.le_refl _) hbw1; unfold IntsAt at h; rw [intsN_len] at h; exact h)
    (fun k W hk hW => by
      show Calls _ _ #[.int .i64 ((intsN ls).getD k 0), .pointer (some ⟨w.heap.size, 0, none⟩)] W _
      rw [intsN_get hk]
      exact encOut_any _ I (HL.out _ (by rw [List.getD_eq_getElem?_getD, List.getElem?_eq_getElem hk]; exact List.getElem_mem hk)) (by omega) _ W (hbv W hW))
  have hany : anyN (fun _ => false) ls.length = false := anyN_false.2 (fun _ _ => rfl)
  rw [hany] at hcf
  have HCf := Lib.hid hcf
  clear hbw1 hC hcf hany hbv
  go_wp2_with fail
  refine HCf.out.mono ?_; rintro e V2 ⟨rfl, hb⟩
  have HB2 : Hid (Below (w.heap.size + 1) (w.alloc (.cells #[.int .i64 l, .int .i64 (B : Int), .int .i64 (I : Int), .slice p m.r c] 24)) V2) := Lib.hid (HB1.out.trans (hb.mono (by omega)))
  clear hb x0 x1 x2 x3 HCf
  obtain ⟨⟨x0, x1, x2, x3⟩, hsz2, hbw2⟩ := box4 HB2.out
  have Hbw2 := Lib.hid hbw2
  clear hbw2
  have hsb : w.heap.size + 1 ≤ V2.heap.size := hsz2
  have hwr : IsWr (w.heap.size + 1) V2.heap.size l (B : Int) (I : Int) (.slice p m.r c) (s : Int) [] (V2.alloc (.cells #[.int .i64 l, .int .i64 (B : Int), .int .i64 (I : Int), .slice p m.r c, .int .i64 (s : Int), .pointer none, .slice none 0 0] 73)) :=
    .inl ⟨hsb, .slice none 0 0, World.alloc_heap_new V2 _, World.ownsRow_nil _ _ _ _, by simp [Value.ownBlock], fun _ => rfl⟩
  have HB3 : Hid (Below (w.heap.size + 1) (w.alloc (.cells #[.int .i64 l, .int .i64 (B : Int), .int .i64 (I : Int), .slice p m.r c] 24)) (V2.alloc (.cells #[.int .i64 l, .int .i64 (B : Int), .int .i64 (I : Int), .slice p m.r c, .int .i64 (s : Int), .pointer none, .slice none 0 0] 73))) := Lib.hid (HB2.out.alloc hsb _)
  have HWr := Lib.hid hwr
  clear hwr HB1 Hbw1 Hbw2 HB2
  obtain ⟨g, hg⟩ : ∃ g, V2.heap.size = g := ⟨_, rfl⟩
  go_upto_region 11 with (fail)
  rw [hg] at HWr hsb
  clear hg x0 x1 x2 x3
  generalize V2.alloc (.cells #[.int .i64 l, .int .i64 (B : Int), .int .i64 (I : Int), .slice p m.r c, .int .i64 (s : Int), .pointer none, .slice none 0 0] 73) = V3 at *
  go_wp2
  go_loopw [46] (fun jv wr => ∃ j : Nat, ∃ t : Nat, ∃ d : ByteArray, j ≤ ls.length ∧ jv = .int .i64 (j : Nat) ∧ Hid (encW m s (ls.take j) ByteArray.empty = (d, t)) ∧ Hid (IsWr (w.heap.size + 1) g l (B : Int) (I : Int) (.slice p m.r c) (t : Int) d.data.toList wr) ∧ Hid (Below (w.heap.size + 1) (w.alloc (.cells #[.int .i64 l, .int .i64 (B : Int), .int .i64 (I : Int), .slice p m.r c] 24)) wr)) (fun jv _ => ls.length - (intOf jv).toNat)
  case atStart => exact ⟨0, s, ByteArray.empty, by omega, by go_num, Lib.hid rfl, HWr, HB3⟩
  case round =>
    clear HWr HB3
    obtain ⟨j, t, d, hj, rfl, Hd, HWr, HB3⟩ := hrel
    obtain ⟨_, hsz3, hbw3⟩ := box4 HB3.out
    have Hbw3 := Lib.hid hbw3
    clear hbw3
    have hlw := encW_lt HOk.out (ls.take j) s ByteArray.empty (by omega) (fun y hy => HL.out y (List.mem_of_mem_take hy))
    rw [Hd.out] at hlw
    have htr : t < m.r := hlw.1
    have hds : d.size = 0 + (ls.take j).length * B := hlw.2
    have hds2 : d.data.toList.length ≤ 256 := by
      have : d.data.toList.length = d.size := by simp
      rw [this, hds, List.length_take, Nat.zero_add]
      exact Nat.le_trans (Nat.mul_le_mul (show min j ls.length ≤ 16 by omega) (show B ≤ 16 by omega)) (by decide)
    clear hlw hds
    by_cases hltj : j < ls.length
    · obtain ⟨ab, ao, rfl, hab, hca⟩ := IntsAt.cells (HQ.out.below (Nat.le_refl _) Hbw3.out) (k := j) (by rw [intsN_len]; exact hltj)
      have hxa := hca j (by rw [intsN_len]; exact hltj)
      rw [intsN_get hltj] at hxa
      have hxI := HL.out _ (show ls.getD j 0 ∈ ls from by rw [List.getD_eq_getElem?_getD, List.getElem?_eq_getElem hltj]; exact List.getElem_mem hltj)
      have hNx := encW_snoc m ls s ByteArray.empty hltj
      rw [Hd.out] at hNx
      obtain ⟨x, hx⟩ : ∃ x, ls.getD j 0 = x := ⟨_, rfl⟩
      rw [hx] at hxa hxI hNx
      have HNx := Lib.hid hNx
      have HPut := Lib.hid (put_any (w.heap.size + 1) g l (B : Int) (I : Int) m (some ⟨ab, ao, none⟩) c I B t x d.data.toList wr)
      clear HPut
      have HPut := Lib.hid (put_any (w.heap.size + 1) g l (B : Int) (I : Int) m p c I B t x d.data.toList wr HWr.out (HE.out.below (Nat.le_refl _) Hbw3.out) HOk.out htr hxI (by omega) (by omega) r2 (by omega) (by omega))
      have j0 : (0 : Int) ≤ (j : Int) := by omega
      have j1 : (j : Int) < (ls.length : Int) := by omega
      clear hca hx hNx htr hxI hds2 HWr
      go_wp2_with fail
      refine HPut.out.mono ?_
      rintro e W9 ⟨rfl, hw9, hb9⟩
      have HW9 : Hid (IsWr (w.heap.size + 1) g l (B : Int) (I : Int) (.slice p m.r c) (((m.T t x).toNat : Nat) : Int) (d ++ m.D t x).data.toList W9) := Lib.hid (by rw [ByteArray.data_append, Array.toList_append]; exact hw9)
      have HB9 := Lib.hid (HB3.out.trans hb9)
      clear hw9 hb9 HPut
      go_wp2
      go_roundw
      case rel => exact ⟨j + 1, (m.T t x).toNat, d ++ m.D t x, by omega, by go_num, HNx, HW9, HB9⟩
      case measure => simp [intOf]; omega
    · have j1 : ¬ (j : Int) < (ls.length : Int) := by omega
      have Hje := Lib.hid (show encW m s ls ByteArray.empty = (d, t) by rw [← Hd.out, List.take_of_length_le (by omega)])
      have hgl := HWr.out.lt
      obtain ⟨_, c4, _⟩ := HWr.out.cells
      have HSt := Lib.hid (stringW (w.heap.size + 1) g l (B : Int) (I : Int) (.slice p m.r c) (t : Int) d.data.toList wr.drew HWr.out.drew)
      clear hds2 htr
      go_upto_region 16 with (fail)
      refine wp_region_held_drew (S := fun W => W.cell? ⟨g, 4, none⟩ = some (.int .i64 (t : Int))) (by kernel_rfl) c4 (fun hSS => ?_)
      refine wpAnyH_take (i := 0) (v := ?_) rfl (by kernel_rfl) (by kernel_rfl) (by kernel_rfl) (fun _ _ _ h => h) (Or.inl ⟨by rfl, ?_⟩) hSS ?_
      rotate_left 1
      next => intro w hSw; have s1 := hSw; go_simp; try with_reducible rfl
      try simp only [Act.put, List.getElem_toArray, List.getElem_cons_zero, List.getElem_cons_succ, List.setIfInBounds_toArray, List.set_cons_zero, List.set_cons_succ]
      refine wpAnyH_take (i := 1) (v := ?_) rfl (by kernel_rfl) (by kernel_rfl) (by kernel_rfl) (fun _ _ _ h => h) (Or.inl ⟨by rfl, ?_⟩) hSS ?_
      rotate_left 1
      next => intro w hSw; have s1 := hSw; go_simp; try with_reducible rfl
      try simp only [Act.put, List.getElem_toArray, List.getElem_cons_zero, List.getElem_cons_succ, List.setIfInBounds_toArray, List.set_cons_zero, List.set_cons_succ]
      refine wpAnyH_take (i := 2) (v := ?_) rfl (by kernel_rfl) (by kernel_rfl) (by kernel_rfl) (fun _ _ _ h => h) (Or.inl ⟨by rfl, ?_⟩) hSS ?_
      rotate_left 1
      next => intro w hSw; have s1 := hSw; go_simp; try with_reducible rfl
      try simp only [Act.put, List.getElem_toArray, List.getElem_cons_zero, List.getElem_cons_succ, List.setIfInBounds_toArray, List.set_cons_zero, List.set_cons_succ]
      refine wpAnyH_take (i := 4) (v := ?_) rfl (by kernel_rfl) (by kernel_rfl) (by kernel_rfl) (fun _ _ _ h => h) (Or.inl ⟨by rfl, ?_⟩) hSS ?_
      rotate_left 1
      next => intro w hSw; have s1 := hSw; go_simp; try with_reducible rfl
      try simp only [Act.put, List.getElem_toArray, List.getElem_cons_zero, List.getElem_cons_succ, List.setIfInBounds_toArray, List.set_cons_zero, List.set_cons_succ]
      refine wpAnyH_take (i := 5) (v := ?_) rfl (by kernel_rfl) (by kernel_rfl) (by kernel_rfl) (fun _ _ _ h => h) (Or.inl ⟨by rfl, ?_⟩) hSS ?_
      rotate_left 1
      next => intro w hSw; have s1 := hSw; go_simp; try with_reducible rfl
      try simp only [Act.put, List.getElem_toArray, List.getElem_cons_zero, List.getElem_cons_succ, List.setIfInBounds_toArray, List.set_cons_zero, List.set_cons_succ]
      refine wpAnyH_take (i := 6) (v := ?_) rfl (by kernel_rfl) (by kernel_rfl) (by kernel_rfl) (fun _ _ _ h => h) (Or.inl ⟨by rfl, ?_⟩) hSS ?_
      rotate_left 1
      next => intro w hSw; have s1 := hSw; go_simp; try with_reducible rfl
      try simp only [Act.put, List.getElem_toArray, List.getElem_cons_zero, List.getElem_cons_succ, List.setIfInBounds_toArray, List.set_cons_zero, List.set_cons_succ]
      refine wpAnyH_take (i := 7) (v := ?_) rfl (by kernel_rfl) (by kernel_rfl) (by kernel_rfl) (fun _ _ _ h => h) (Or.inl ⟨by rfl, ?_⟩) hSS ?_
      rotate_left 1
      next => intro w hSw; have s1 := hSw; go_simp; try with_reducible rfl
      try simp only [Act.put, List.getElem_toArray, List.getElem_cons_zero, List.getElem_cons_succ, List.setIfInBounds_toArray, List.set_cons_zero, List.set_cons_succ]
      refine wpAnyH_ready (rs := [3]) (by kernel_rfl) (by simp) ?_
      refine AllReadyH.cons rfl (fun K hK => ?_) AllReadyH.nil
      go_simp
      refine HSt.out.mono ?_
      rintro e W9 ⟨rfl, hb9, hc9⟩
      dsimp only
      have Hb9 : Hid (Below w.heap.size w W9) := Lib.hid ((box4 (HB3.out.trans ((Below.drew (Below.refl _ wr)).trans hb9))).2.2)
      refine hK.out _ _ hc9 (fun _ => ?_)
      clear hK K hb9
      refine wpAnyH_take (i := 8) (v := ?_) rfl (by kernel_rfl) (by kernel_rfl) (by kernel_rfl) (fun _ _ _ h => h) (Or.inl ⟨by rfl, ?_⟩) hc9 ?_
      rotate_left 1
      next => intro w hSw; have s1 := hSw; go_simp; try with_reducible rfl
      try simp only [Act.put, List.getElem_toArray, List.getElem_cons_zero, List.getElem_cons_succ, List.setIfInBounds_toArray, List.set_cons_zero, List.set_cons_succ]
      refine wpAnyH_take (i := 9) (v := ?_) rfl (by kernel_rfl) (by kernel_rfl) (by kernel_rfl) (fun _ _ _ h => h) (Or.inl ⟨by rfl, ?_⟩) hc9 ?_
      rotate_left 1
      next => intro w hSw; have s1 := hSw; go_simp; try with_reducible rfl
      try simp only [Act.put, List.getElem_toArray, List.getElem_cons_zero, List.getElem_cons_succ, List.setIfInBounds_toArray, List.set_cons_zero, List.set_cons_succ]
      refine wpAnyH_take (i := 10) (v := ?_) rfl (by kernel_rfl) (by kernel_rfl) (by kernel_rfl) (fun _ _ _ h => h) (Or.inl ⟨by rfl, ?_⟩) hc9 ?_
      rotate_left 1
      next => intro w hSw; have s1 := hSw; go_simp; try with_reducible rfl
      try simp only [Act.put, List.getElem_toArray, List.getElem_cons_zero, List.getElem_cons_succ, List.setIfInBounds_toArray, List.set_cons_zero, List.set_cons_succ]
      refine wpAnyH_done (by kernel_rfl) ?_ _
      go_wp2
      go_ret3
      exact ⟨by rw [Hje.out]; rfl, Hb9.out⟩
end Go.Proofs.Ytcafeffgaokiaaa
namespace Go.Proofs.Ytcafeffgaokiaaa
open Go.RowKit
/-- A slice header at p reads as these bytes. -/
def ByteAt (w : World) (p : Option Addr) (xs : List Nat) : Prop := SlAt 1 w p xs.length (fun i _ => .int .u8 (xs.getD i 0 : Nat))
theorem ByteAt.below {w w' : World} {p : Option Addr} {xs : List Nat} (h : ByteAt w p xs) {B : Nat} (hB : w.heap.size ≤ B) (hb : Below B w w') : ByteAt w' p xs := h.mono hB hb
theorem ByteAt.cells {w : World} {p : Option Addr} {xs : List Nat} (h : ByteAt w p xs) {k : Nat} (hk : k < xs.length) :
    ∃ b off, p = some ⟨b, off, none⟩ ∧ b < w.heap.size ∧ ∀ i, i < xs.length → w.cell? ⟨b, off + i, none⟩ = some (.int .u8 (xs.getD i 0 : Nat)) := by
  rcases h with h | ⟨b, off, rfl, hlt, hc⟩
  · omega
  · exact ⟨b, off, rfl, hlt, fun i hi => by simpa using hc i hi 0 (by omega)⟩
end Go.Proofs.Ytcafeffgaokiaaa
namespace Go.Proofs.Ytcafeffgaokiaaa
open Go.RowKit Go.ChangeShapes Go.WideShapes Go.ChangeAt Go.Deep

theorem own : ownKnob Try.prog.godebug = none := by kernel_rfl
theorem laidOut : laidOutB Try.prog = true := by kernel_rfl

section
variable {H : Type} {enc : TypeId × Value → H} {P : Program} {w : World} {base : Nat} {spare : Nat → Bool} {held : Bool}

/-- A struct whose fields are of one cell each, opened field by field. -/
theorem struct_fields {t : TypeId} {fs : Array Field} {fuel : Nat} {cs : List Value} {x : DataW H × List MemPlace} (ht : P.underlying t = some (.struct fs)) (hone : oneCellFields P fs = true) (hC : P.cellsOf t = fs.size)
    (h : DataW.trod enc P w base spare held fuel t cs = some x) :
    ∃ (ys : List (DataW H × List MemPlace)) (n : Nat), x = (.agg (ys.map (·.1)), ys.flatMap (·.2)) ∧ cs.length = fs.size ∧ ys.length = fs.size ∧
      ∀ (j : Nat) (f : Field), fs[j]? = some f → ∃ v y, cs[j]? = some v ∧ ys[j]? = some y ∧ DataW.trod enc P w base spare held n f.type [v] = some y := by
  obtain ⟨ys, n, _, hx, hlen, hyl, hf⟩ := DataW.trod_struct ht h
  rw [hC] at hlen
  refine ⟨ys, n, hx, hlen, hyl, fun j f hj => ?_⟩
  obtain ⟨ho, hk⟩ := hone_of hone j f hj
  have hjl : j < fs.size := (Array.getElem?_eq_some_iff.1 hj).1
  have h1 := hf j f hj
  rw [ho, hk, List.drop_eq_getElem_cons (by omega), List.take_succ_cons, List.take_zero] at h1
  have hys : ys[j]? = some (ys[j]'(by omega)) := List.getElem?_eq_getElem (by omega)
  exact ⟨cs[j]'(by omega), ys[j]'(by omega), List.getElem?_eq_getElem (by omega), hys, h1.trans hys⟩

/-- Every argument reads as it did where nothing below the old heap's end has turned. -/
theorem trodAll_below (hl : laidOutB P = true) {W W' : World} (hb : Below W.heap.size W W') : ∀ (ts : List TypeId) (vs : List Value) (ds : List (DataW H)) (ps : List MemPlace),
    (ts.all fun t => P.readableRec t && decide (t < P.types.size)) = true → DataW.TrodAll enc P W 0 (fun _ => true) true ts vs ds ps →
    DataW.TrodAll enc P W' 0 (fun b => decide (b < W.heap.size)) true ts vs ds ps
  | [], vs, ds, ps, _, h => by
    obtain ⟨rfl, rfl, rfl⟩ := trodAll_nil h
    exact trodAll_mk0
  | t :: ts, vs, ds, ps, hr, h => by
    obtain ⟨v, vs', d, ds', p, q, rfl, rfl, rfl, h0, r0⟩ := trodAll_cons h
    simp only [List.all_cons, Bool.and_eq_true, decide_eq_true_eq] at hr
    have lt : ∀ x ∈ p, x.block < W.heap.size := by obtain ⟨m, hm⟩ := h0; exact DataW.trod_lt m _ _ _ hm
    exact trodAll_cons_mk (Below.trod hl hr.1.1 hr.1.2 h0 hb lt) (trodAll_below hl hb ts vs' ds' q hr.2 r0)
end
end Go.Proofs.Ytcafeffgaokiaaa
namespace Go.Proofs.Ytcafeffgaokiaaa
open Go.RowKit Go.ChangeShapes Go.WideShapes Go.ChangeAt Go.Deep

section
variable {H : Type} {enc : TypeId × Value → H} {w : World}

set_option maxRecDepth 100000 in
/-- A slice of entries that came in. -/
theorem open_ents {fuel : Nat} {cs : List Value} {x : DataW H × List MemPlace} (h : DataW.trod enc Try.prog w 0 (fun _ => true) true fuel 28 cs = some x) :
    ∃ a c es, cs = [.slice a es.length c] ∧ EntsAt w a es ∧ WinsFit es ∧ es.length * 24 ∈ 0 :: (x.1.weights Try.prog 28).map (fun k => min k (es.length * 24)) := by
  rcases open_slice Try.underlying28 h with ⟨hcs, hx⟩ | ⟨a, len, cap, m, n, D, Pl, hcs, _, hl, hm, hmm, hx, hi⟩
  · exact ⟨none, 0, [], hcs, .inl rfl, (fun x hx => by cases hx), by simp⟩
  · have hC : Try.prog.cellsOf 86 = 2 := by kernel_rfl
    have hB : Try.prog.bytesOf 86 = 24 := by kernel_rfl
    simp only [if_true] at hmm
    rw [hmm] at hi
    have he : ∀ i, i < cap → ∃ e : Ent, w.cell? (a.add (i * 2)) = some (.string e.win) ∧ w.cell? (a.add (i * 2 + 1)) = some (.int .i64 e.inp) ∧ e.win.size ≤ 9223372036854775807 := by
      intro i hil
      obtain ⟨cs', hc, ht'⟩ := hi i hil
      rw [hC] at hc
      obtain ⟨ys, n', _, hlen, _, hf⟩ := struct_fields (fs := _) Try.underlying86 (by kernel_rfl) (by rw [hC]; rfl) ht'
      obtain ⟨_, _, hat⟩ := World.cells?_some hc
      obtain ⟨v0, y0, hv0, _, t0⟩ := hf 0 _ rfl
      obtain ⟨v1, y1, hv1, _, t1⟩ := hf 1 _ rfl
      obtain ⟨s, e0, _, hs⟩ := DataW.trod_string Try.underlying9 t0
      obtain ⟨k, e1, _, _⟩ := DataW.trod_int Try.underlying3 t1
      simp at e0 e1
      subst e0 e1
      have a0 := hat 0 (by omega)
      have a1 := hat 1 (by omega)
      rw [add_add, hv0] at a0
      rw [add_add, hv1] at a1
      exact ⟨⟨s, k⟩, a0, a1, by unfold maxLen at hs; omega⟩
    obtain ⟨E, hE⟩ := choose_lt he
    have hlen : ((List.range len).map E).length = len := by simp
    have hget : ∀ i, i < len → ((List.range len).map E).getD i default = E i := fun i hi => by
      rw [List.getD_eq_getElem?_getD, List.getElem?_map, List.getElem?_range hi]; rfl
    refine ⟨some a, cap, (List.range len).map E, by rw [hlen]; exact hcs, ?_, ?_, ?_⟩
    · unfold EntsAt
      rw [hlen]
      rcases Nat.eq_zero_or_pos len with h0 | h0
      · exact .inl h0
      · obtain ⟨b, off, spot⟩ := a
        have h00 := (hE 0 (by omega)).1
        have hspot : spot = none := by simpa [Addr.add] using World.cell?_spot h00
        subst hspot
        refine .inr ⟨b, off, rfl, ?_, fun i hi j hj => ?_⟩
        · exact World.block_lt_of_cell? w _ (by simpa [Addr.add] using h00)
        · have hc := hE i (by omega)
          rw [Addr.add_lit, Addr.add_lit] at hc
          unfold entC
          rw [hget i hi]
          have : j = 0 ∨ j = 1 := by omega
          rcases this with rfl | rfl
          · simpa using hc.1
          · simpa [Nat.add_assoc] using hc.2.1
    · intro x hx
      obtain ⟨i, hi, rfl⟩ := List.mem_map.1 hx
      exact (hE i (by have := List.mem_range.1 hi; omega)).2.2
    · rw [hlen, hx, hmm]
      simp only [DataW.weights, Try.underlying28, hB, List.map_cons, List.length_map, List.length_range]
      refine List.mem_cons_of_mem _ (List.mem_cons.2 (.inl ?_))
      omega

set_option maxRecDepth 100000 in
/-- A decoder that came in. -/
theorem open_dec {v : Value} {d : DataW H} {p : List MemPlace} {bb : Nat} (hv : Value.okWide Try.prog w .any bb 30 v) (h : DataW.Trod enc Try.prog w 0 (fun _ => true) true 30 v d p)
    (hw : ∀ n ∈ d.weights Try.prog 30, n ≤ reachBytes) :
    ∃ (l b i q f : Int) (a : Option Addr) (c : Nat) (es : List Ent), v = .agg #[.int .i64 l, .int .i64 b, .int .i64 i, .int .i64 q, .int .i64 f, .slice a es.length c] ∧ EntsAt w a es ∧ WinsFit es ∧ es.length ≤ 100000000000000 := by
  have hC : Try.prog.cellsOf 30 = 6 := by kernel_rfl
  obtain ⟨cs, rfl, hsz⟩ := okWide_struct Try.underlying30 hv
  obtain ⟨fuel, hf⟩ := h
  obtain ⟨ys, n, hx, hlen, hyl, hg⟩ := struct_fields (fs := _) Try.underlying30 (by kernel_rfl) (by rw [hC]; rfl) hf
  obtain ⟨v0, y0, hv0, _, t0⟩ := hg 0 _ rfl
  obtain ⟨v1, y1, hv1, _, t1⟩ := hg 1 _ rfl
  obtain ⟨v2, y2, hv2, _, t2⟩ := hg 2 _ rfl
  obtain ⟨v3, y3, hv3, _, t3⟩ := hg 3 _ rfl
  obtain ⟨v4, y4, hv4, _, t4⟩ := hg 4 _ rfl
  obtain ⟨v5, y5, hv5, hy5, t5⟩ := hg 5 _ rfl
  obtain ⟨l, e0, _, _⟩ := DataW.trod_int Try.underlying3 t0
  obtain ⟨b, e1, _, _⟩ := DataW.trod_int Try.underlying3 t1
  obtain ⟨i, e2, _, _⟩ := DataW.trod_int Try.underlying3 t2
  obtain ⟨q, e3, _, _⟩ := DataW.trod_int Try.underlying3 t3
  obtain ⟨f, e4, _, _⟩ := DataW.trod_int Try.underlying3 t4
  obtain ⟨a, c, es, e5, hE, hW, hwt⟩ := open_ents t5
  simp only [List.cons.injEq, and_true] at e0 e1 e2 e3 e4 e5
  subst e0 e1 e2 e3 e4 e5
  simp only [Value.cells] at hv0 hv1 hv2 hv3 hv4 hv5 hlen
  refine ⟨l, b, i, q, f, a, c, es, ?_, hE, hW, ?_⟩
  · obtain ⟨cl⟩ := cs
    simp only [List.getElem?_toArray, List.size_toArray] at *
    match cl, hsz.trans hC with
    | [c0, c1, c2, c3, c4, c5], _ =>
      simp at hv0 hv1 hv2 hv3 hv4 hv5
      subst hv0 hv1 hv2 hv3 hv4 hv5
      rfl
  · simp only [Prod.mk.injEq] at hx
    rw [hx.1] at hw
    rcases List.mem_cons.1 hwt with h0 | h0
    · omega
    · obtain ⟨k, hk, hke⟩ := List.mem_map.1 h0
      have : k ≤ reachBytes := hw k (by
        simp only [DataW.weights, Try.underlying30]
        exact DataW.weights_mem_each (j := 5) (t := 28) (d := y5.1) rfl (by rw [List.getElem?_map, hy5]; rfl) k hk)
      unfold reachBytes at this
      omega
end
end Go.Proofs.Ytcafeffgaokiaaa
namespace Go.Proofs.Ytcafeffgaokiaaa
open Go Go.RowKit Go.ChangeShapes Go.WideShapes Go.ChangeAt Go.Deep
section
variable {H : Type} {enc : TypeId × Value → H} {w : World}
set_option maxRecDepth 100000 in
theorem open_crow {fuel : Nat} {cs : List Value} {x : DataW H × List MemPlace} (h : DataW.trod enc Try.prog w 0 (fun _ => true) true fuel 82 cs = some x) :
    ∃ (q : Option Addr) (n c : Nat) (T : Nat → Int) (D : Nat → ByteArray), cs = [.slice q n c] ∧ SlAt 2 w q n (fun k j => if j = 0 then .int .i64 (T k) else .string (D k)) ∧ n ≤ c ∧ c ≤ maxLen ∧ ∀ k, k < n → (D k).size ≤ maxLen := by
  rcases open_slice_pairs Try.underlying82 Try.underlying84 (by kernel_rfl) (by rfl) (by rfl) (by kernel_rfl) (by kernel_rfl) h with ⟨hcs, _⟩ | ⟨a, len, cap, m, n, V0, V1, D0, D1, P0, P1, hcs, _, hl, hm, hmm, _, hi⟩
  · exact ⟨none, 0, 0, fun _ => 0, fun _ => ⟨#[]⟩, hcs, .inl rfl, Nat.le_refl _, by decide, fun k hk => by omega⟩
  · simp only [if_true] at hmm
    rw [hmm] at hi
    have he : ∀ i, i < cap → ∃ z : Int × ByteArray, w.cell? (a.add (i * 2)) = some (.int .i64 z.1) ∧ w.cell? (a.add (i * 2 + 1)) = some (.string z.2) ∧ z.2.size ≤ maxLen := by
      intro i hil
      obtain ⟨c0, c1, t0, t1⟩ := hi i hil
      obtain ⟨b, e0, _, _⟩ := DataW.trod_int Try.underlying3 t0
      obtain ⟨s, e1, _, hs⟩ := DataW.trod_string Try.underlying9 t1
      simp only [List.cons.injEq, and_true] at e0 e1
      rw [e0] at c0
      rw [e1] at c1
      exact ⟨(b, s), c0, c1, hs⟩
    haveI : Inhabited (Int × ByteArray) := ⟨(0, ⟨#[]⟩)⟩
    obtain ⟨E, hE⟩ := choose_lt he
    refine ⟨some a, len, cap, fun i => (E i).1, fun i => (E i).2, hcs, ?_, hl, hm, fun k hk => (hE k (by omega)).2.2⟩
    rcases Nat.eq_zero_or_pos len with h0 | h0
    · exact .inl h0
    · obtain ⟨b, off, spot⟩ := a
      have h00 := (hE 0 (by omega)).1
      have hspot : spot = none := by simpa [Addr.add] using World.cell?_spot h00
      subst hspot
      refine .inr ⟨b, off, rfl, World.block_lt_of_cell? w _ (by simpa [Addr.add] using h00), fun i hi' j hj => ?_⟩
      have hc := hE i (by omega)
      rw [Addr.add_lit, Addr.add_lit] at hc
      have : j = 0 ∨ j = 1 := by omega
      rcases this with rfl | rfl
      · simpa using hc.1
      · simpa [Nat.add_assoc] using hc.2.1
set_option maxRecDepth 100000 in
theorem open_crows {fuel : Nat} {cs : List Value} {x : DataW H × List MemPlace} (hf : DataW.trod enc Try.prog w 0 (fun _ => true) true fuel 22 cs = some x) :
    ∃ (q : Option Addr) (c : Nat) (m : EM), cs = [.slice q m.r c] ∧ m.At w q ∧ m.r ≤ maxLen ∧ ∀ i, i < m.r → m.L i ≤ maxLen ∧ ∀ k, k < m.L i → (m.D i k).size ≤ maxLen := by
  rcases open_slice1 Try.underlying22 (by kernel_rfl) hf with ⟨hcs, hx⟩ | ⟨a, len, cap, m, n, V, D, Pl, hcs, _, hl, hm, hmm, hx, hi⟩
  · refine ⟨none, 0, ⟨0, fun _ => 0, fun _ _ => 0, fun _ _ => ⟨#[]⟩⟩, hcs, ⟨fun _ => (none, 0), .inl rfl, fun i hi => ?_⟩, by decide, fun i hi => ?_⟩
    · exact absurd hi (Nat.not_lt_zero _)
    · exact absurd hi (Nat.not_lt_zero _)
  · simp only [if_true] at hmm
    rw [hmm] at hi
    have he : ∀ i, i < cap → ∃ z : (Option Addr × Nat × Nat) × ((Nat → Int) × (Nat → ByteArray)), w.cell? (a.add i) = some (.slice z.1.1 z.1.2.1 z.1.2.2) ∧ SlAt 2 w z.1.1 z.1.2.1 (fun k j => if j = 0 then .int .i64 (z.2.1 k) else .string (z.2.2 k)) ∧ z.1.2.1 ≤ maxLen ∧ ∀ k, k < z.1.2.1 → (z.2.2 k).size ≤ maxLen := by
      intro i hil
      obtain ⟨c0, t0⟩ := hi i hil
      obtain ⟨q, n, c, T, D, e0, hr, h1, h2, h3⟩ := open_crow t0
      simp only [List.cons.injEq, and_true] at e0
      rw [e0] at c0
      exact ⟨((q, n, c), (T, D)), c0, hr, Nat.le_trans h1 h2, h3⟩
    haveI : Inhabited ((Option Addr × Nat × Nat) × ((Nat → Int) × (Nat → ByteArray))) := ⟨((none, 0, 0), (fun _ => 0, fun _ => ⟨#[]⟩))⟩
    obtain ⟨E, hE⟩ := choose_lt he
    refine ⟨some a, cap, ⟨len, fun i => (E i).1.2.1, fun i => (E i).2.1, fun i => (E i).2.2⟩, hcs, ⟨fun i => ((E i).1.1, (E i).1.2.2), ?_, fun i hi' => (hE i (Nat.lt_of_lt_of_le hi' hl)).2.1⟩, Nat.le_trans hl hm, fun i hi' => (hE i (Nat.lt_of_lt_of_le hi' hl)).2.2⟩
    rcases Nat.eq_zero_or_pos len with h0 | h0
    · exact .inl h0
    · obtain ⟨b, off, spot⟩ := a
      have h00 := (hE 0 (by omega)).1
      have hspot : spot = none := by simpa [Addr.add] using World.cell?_spot h00
      subst hspot
      refine .inr ⟨b, off, rfl, World.block_lt_of_cell? w _ (by simpa [Addr.add] using h00), fun i hi' j hj => ?_⟩
      have hc := (hE i (Nat.lt_of_lt_of_le hi' hl)).1
      rw [Addr.add_lit] at hc
      have : j = 0 := by omega
      subst this
      simpa using hc
set_option maxRecDepth 100000 in
/-- An encoder that came in. -/
theorem open_enc {v : Value} {d : DataW H} {p : List MemPlace} {bb : Nat} (hv : Value.okWide Try.prog w .any bb 24 v) (h : DataW.Trod enc Try.prog w 0 (fun _ => true) true 24 v d p) :
    ∃ (l b i : Int) (a : Option Addr) (c : Nat) (m : EM), v = .agg #[.int .i64 l, .int .i64 b, .int .i64 i, .slice a m.r c] ∧ m.At w a ∧ m.Fit := by
  have hC : Try.prog.cellsOf 24 = 4 := by kernel_rfl
  obtain ⟨cs, rfl, hsz⟩ := okWide_struct Try.underlying24 hv
  obtain ⟨fuel, hf⟩ := h
  obtain ⟨ys, n, hx, hlen, hyl, hg⟩ := struct_fields (fs := _) Try.underlying24 (by kernel_rfl) (by rw [hC]; rfl) hf
  obtain ⟨v0, y0, hv0, _, t0⟩ := hg 0 _ rfl
  obtain ⟨v1, y1, hv1, _, t1⟩ := hg 1 _ rfl
  obtain ⟨v2, y2, hv2, _, t2⟩ := hg 2 _ rfl
  obtain ⟨v3, y3, hv3, _, t3⟩ := hg 3 _ rfl
  obtain ⟨l, e0, _, _⟩ := DataW.trod_int Try.underlying3 t0
  obtain ⟨b, e1, _, _⟩ := DataW.trod_int Try.underlying3 t1
  obtain ⟨i, e2, _, _⟩ := DataW.trod_int Try.underlying3 t2
  obtain ⟨a, c, m, e3, hA, h1, h2⟩ := open_crows t3
  simp only [List.cons.injEq, and_true] at e0 e1 e2 e3
  subst e0 e1 e2 e3
  simp only [Value.cells] at hv0 hv1 hv2 hv3 hlen
  refine ⟨l, b, i, a, c, m, ?_, hA, by unfold maxLen at h1; omega, fun i hi => ⟨by have := (h2 i hi).1; unfold maxLen at this; omega, fun k hk => by have := (h2 i hi).2 k hk; unfold maxLen at this; omega⟩⟩
  obtain ⟨cl⟩ := cs
  simp only [List.getElem?_toArray, List.size_toArray] at *
  match cl, hsz.trans hC with
  | [c0, c1, c2, c3], _ =>
    simp at hv0 hv1 hv2 hv3
    subst hv0 hv1 hv2 hv3
    rfl
end
end Go.Proofs.Ytcafeffgaokiaaa
namespace Go.Proofs.Ytcafeffgaokiaaa
open Go Go.RowKit Go.ChangeShapes Go.WideShapes Go.ChangeAt Go.Deep
section
variable {H : Type} {enc : TypeId × Value → H} {w : World}
set_option maxRecDepth 100000 in
theorem open_bytes {v : Value} {d : DataW H} {p : List MemPlace} {bb : Nat} (hv : Value.okWide Try.prog w .any bb 25 v) (h : DataW.Trod enc Try.prog w 0 (fun _ => true) true 25 v d p) :
    ∃ (q : Option Addr) (c : Nat) (xs : List Nat), v = .slice q xs.length c ∧ ByteAt w q xs ∧ (∀ x ∈ xs, x < 256) ∧ xs.length ≤ maxLen := by
  obtain ⟨a0, l0, c0, rfl⟩ := okWide_slice Try.underlying25 hv
  obtain ⟨fuel, hf⟩ := h
  rcases open_ints Try.underlying25 Try.underlying5 (by kernel_rfl) hf with ⟨hcs, _⟩ | ⟨a, len, cap, zs, hcs, _, hl, hm, hz, _, hc, hwf⟩
  · exact ⟨none, 0, [], by simpa [Value.cells] using hcs, .inl rfl, (fun x hx => by cases hx), by decide⟩
  · simp only [if_true] at hz
    have hlz : len ≤ zs.length := by omega
    have hlen : ((zs.take len).map Int.toNat).length = len := by rw [List.length_map, List.length_take]; omega
    have hwf2 : ∀ n ∈ zs, 0 ≤ n ∧ n ≤ 255 := fun n hn => by
      have := hwf n hn
      simpa [Lit.wf, IntKind.min, IntKind.max, IntKind.signed, IntKind.bits] using this
    refine ⟨some a, cap, (zs.take len).map Int.toNat, by rw [hlen]; simpa [Value.cells] using hcs, ?_, ?_, by rw [hlen]; omega⟩
    · unfold ByteAt
      rw [hlen]
      rcases Nat.eq_zero_or_pos len with h0 | h0
      · exact .inl h0
      · obtain ⟨b, off, spot⟩ := a
        have h00 := hc 0 (by omega)
        have hspot : spot = none := by simpa [Addr.add] using World.cell?_spot h00
        subst hspot
        refine .inr ⟨b, off, rfl, World.block_lt_of_cell? w _ (by simpa [Addr.add] using h00), fun i hi j hj => ?_⟩
        have hj0 : j = 0 := by omega
        subst hj0
        have hci := hc i (by omega)
        have hzi : 0 ≤ zs.getD i 0 := by
          rw [List.getD_eq_getElem?_getD, List.getElem?_eq_getElem (show i < zs.length by omega)]
          exact (hwf2 _ (List.getElem_mem _)).1
        have e : (((zs.take len).map Int.toNat).getD i 0 : Int) = zs.getD i 0 := by
          rw [List.getD_eq_getElem?_getD, List.getElem?_map, List.getElem?_take_of_lt hi, List.getElem?_eq_getElem (show i < zs.length by omega)]
          rw [List.getD_eq_getElem?_getD, List.getElem?_eq_getElem (show i < zs.length by omega)] at hzi ⊢
          simp only [Option.map_some, Option.getD_some] at hzi ⊢
          omega
        show w.cell? ⟨b, off + i * 1 + 0, none⟩ = some (.int .u8 ((((zs.take len).map Int.toNat).getD i 0 : Nat) : Int))
        rw [e, ← hci]
        rcases i with _ | i <;> simp [Addr.add]
    · intro x hx
      obtain ⟨n, hn, rfl⟩ := List.mem_map.1 hx
      have := hwf2 n (List.mem_of_mem_take hn)
      omega
end
end Go.Proofs.Ytcafeffgaokiaaa
