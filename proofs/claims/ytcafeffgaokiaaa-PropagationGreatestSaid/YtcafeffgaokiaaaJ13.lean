/- The walks of the inner functions of package integer: trim, digits, number, compare. Digits that a call makes in a block of its own; the walk of integer.digits. The walk of integer.digits. The walk of integer.number: digits become an integer. Plain laws of digits: sums, differences, products, short division. The walk of integer.add. The walk of integer.subtract. -/
import Derived.Test.YtcafeffgaokiaaaRows
import Derived.Test.YtcafeffgaokiaaaJ0
import Derived.Test.YtcafeffgaokiaaaJ12
import Derived.WalkKit
import Derived.WalkSpells
import Derived.WalkLawsBesides
import Derived.OwnWalk
import Derived.KernelRfl
import Derived.Deep.OwnRows
import Derived.Deep.QuietTactic
import Derived.BigQuiet
import Derived.Lib.Hide
import Derived.RegionTactic
import Derived.ChangeAlike
import Derived.Laws.BitsAllLaws
import Derived.Laws.IdiomStrings
import Derived.Deep.CutRange
namespace Go.Proofs.Ytcafeffgaokiaaa
open Go.RowKit

/-- A slice header at p reads as these digits. -/
def NatsAt (w : World) (p : Option Addr) (xs : List Nat) : Prop := SlAt 1 w p xs.length (fun i _ => .int .u32 (xs.getD i 0 : Nat))
theorem NatsAt.below {w w' : World} {p : Option Addr} {xs : List Nat} (h : NatsAt w p xs) {B : Nat} (hB : w.heap.size ≤ B) (hb : Below B w w') : NatsAt w' p xs := h.mono hB hb
theorem NatsAt.cells {w : World} {p : Option Addr} {xs : List Nat} (h : NatsAt w p xs) {k : Nat} (hk : k < xs.length) :
    ∃ b off, p = some ⟨b, off, none⟩ ∧ b < w.heap.size ∧ ∀ i, i < xs.length → w.cell? ⟨b, off + i, none⟩ = some (.int .u32 (xs.getD i 0 : Nat)) := by
  rcases h with h | ⟨b, off, rfl, hlt, hc⟩
  · omega
  · exact ⟨b, off, rfl, hlt, fun i hi => by simpa using hc i hi 0 (by omega)⟩
theorem NatsAt.take {w : World} {p : Option Addr} {xs : List Nat} (h : NatsAt w p xs) (k : Nat) : NatsAt w p (xs.take k) := by
  rcases h with h | ⟨b, off, rfl, hlt, hc⟩
  · exact .inl (by rw [List.length_take]; omega)
  · refine .inr ⟨b, off, rfl, hlt, fun i hi j hj => ?_⟩
    rw [List.length_take] at hi
    rw [hc i (by omega) j hj]
    show some (Value.int .u32 ((xs.getD i 0 : Nat) : Int)) = some (Value.int .u32 (((xs.take k).getD i 0 : Nat) : Int))
    rw [List.getD_eq_getElem?_getD, List.getD_eq_getElem?_getD, List.getElem?_take_of_lt (by omega)]

set_option maxHeartbeats 1000000 in
theorem trim_any (xs : List Nat) (p : Option Addr) (c : Nat) (w : World) (hX : NatsAt w p xs) (hc : xs.length ≤ c) (hcm : c ≤ 9223372036854775807) :
    Calls Try.prog 106 #[.slice p xs.length c] w fun e w' => e = .returned (.slice p (tl xs xs.length) c) ∧ w = w' := by
  have HX := Lib.hid hX
  clear hX
  go_enter Try.func106, Try.ntmps106
  go_wp2
  go_loop [0] (fun v => ∃ k : Nat, k ≤ xs.length ∧ v = .slice p k c ∧ Hid (tl xs xs.length = tl xs k)) (fun v => match v with | .slice _ k _ => k | _ => 0)
  case atStart => exact ⟨xs.length, Nat.le_refl _, rfl, Lib.hid rfl⟩
  case round =>
    obtain ⟨k, hk, rfl, hr⟩ := hrel
    by_cases h0 : 0 < k
    · obtain ⟨b, off, rfl, hb, hcell⟩ := NatsAt.cells HX.out (k := k - 1) (by omega)
      have hx := hcell (k - 1) (by omega)
      obtain ⟨x, hxe⟩ : ∃ x, xs.getD (k - 1) 0 = x := ⟨_, rfl⟩
      rw [hxe] at hx
      obtain ⟨j, rfl⟩ : ∃ j, k = j + 1 := ⟨k - 1, by omega⟩
      rw [Nat.add_sub_cancel] at hx hxe
      have i0 : (0 : Int) ≤ ((j + 1 : Nat) : Int) - 1 := by omega
      have i1 : ((j + 1 : Nat) : Int) - 1 < ((j + 1 : Nat) : Int) := by omega
      have i2 : (((j + 1 : Nat) : Int) - 1).toNat = j := by omega
      have Hxe := Lib.hid hxe
      clear hcell hxe
      by_cases hz : x = 0
      · have hz' : ((x : Int) == 0) = true := by rw [beq_iff_eq]; omega
        have hv : tl xs xs.length = tl xs j := by rw [hr.out, tl, if_pos (by rw [Hxe.out]; exact hz)]
        have Hv := Lib.hid hv
        clear hv hz
        go_wp2
        go_round
        case rel => exact ⟨j, by omega, rfl, Hv⟩
        case measure => simp
      · have hz' : ((x : Int) == 0) = false := by rw [beq_eq_false_iff_ne]; omega
        have hv : tl xs xs.length = j + 1 := by rw [hr.out, tl, if_neg (by rw [Hxe.out]; exact hz)]
        have Hv := Lib.hid hv
        clear hv hz
        go_wp2
        go_ret
        exact ⟨by rw [Hv.out]; rfl, rfl⟩
    · obtain rfl : k = 0 := by omega
      go_wp2
      go_ret
      exact ⟨by rw [hr.out]; rfl, rfl⟩

/-- Three-way comparison. -/
def cmpN (m n : Nat) : Int := if m < n then -1 else if n < m then 1 else 0

set_option maxHeartbeats 2000000 in
theorem compare_any (m n : Nat) (pa pb : Option Addr) (ca cb : Nat) (w : World) (hA : NatsAt w pa (digs m)) (hB : NatsAt w pb (digs n)) (hla : (digs m).length ≤ 100000000) (_hlb : (digs n).length ≤ 100000000) :
    Calls Try.prog 131 #[.slice pa (digs m).length ca, .slice pb (digs n).length cb] w fun e w' => e = .returned (.int .i64 (cmpN m n)) ∧ Drawn w w' := by
  have hda := dg_digs m
  have hdb := dg_digs n
  have hva := val_digs m
  have hvb := val_digs n
  by_cases hl : (digs m).length = (digs n).length
  case neg =>
    have hl1 : (((digs m).length : Int) != ((digs n).length : Int)) = true := by rw [bne_iff_ne]; omega
    by_cases hlt : (digs m).length < (digs n).length
    · have hv : cmpN m n = -1 := by unfold cmpN; rw [if_pos (digs_lt hlt)]
      have Hv := Lib.hid hv
      clear hv hda hdb hva hvb hl
      generalize digs m = xs at *
      generalize digs n = ys at *
      go_enter Try.func131, Try.ntmps131
      go_wp2
      go_ret
      exact ⟨ret_int Hv.out.symm, Drawn.refl _⟩
    · have hv : cmpN m n = 1 := by
        have := digs_lt (show (digs n).length < (digs m).length by omega)
        unfold cmpN; rw [if_neg (by omega), if_pos this]
      have Hv := Lib.hid hv
      clear hv hda hdb hva hvb hl
      generalize digs m = xs at *
      generalize digs n = ys at *
      go_enter Try.func131, Try.ntmps131
      go_wp2
      go_ret
      exact ⟨ret_int Hv.out.symm, Drawn.refl _⟩
  have hl1 : (((digs m).length : Int) != ((digs n).length : Int)) = false := by rw [bne_eq_false_iff_eq]; omega
  have HA := Lib.hid hA
  have HB := Lib.hid hB
  have HL := Lib.hid hl
  have Hda := Lib.hid hda
  have Hdb := Lib.hid hdb
  have Hva := Lib.hid hva
  have Hvb := Lib.hid hvb
  clear hA hB hl hda hdb hva hvb
  generalize digs m = xs at *
  generalize digs n = ys at *
  go_enter Try.func131, Try.ntmps131
  go_wp2
  go_loopw [5] (fun v wr => ∃ k : Nat, k ≤ xs.length ∧ v = .int .i64 ((k : Int) - 1) ∧ Drawn w wr ∧ Hid (xs.drop k = ys.drop k)) (fun v _ => (intOf v + 1).toNat)
  case atStart => exact ⟨xs.length, Nat.le_refl _, rfl, Drawn.refl _, Lib.hid (by rw [List.drop_of_length_le (Nat.le_refl _), List.drop_of_length_le (by have := HL.out; omega)])⟩
  case round =>
    obtain ⟨k, hk, rfl, hd, hr⟩ := hrel
    by_cases h0 : 0 < k
    · obtain ⟨j, rfl⟩ : ∃ j, k = j + 1 := ⟨k - 1, by omega⟩
      have hjb : j < ys.length := by have := HL.out; omega
      obtain ⟨ab, ao, rfl, hab, hca⟩ := NatsAt.cells HA.out (k := j) (by omega)
      obtain ⟨bb, bo, rfl, hbb, hcb⟩ := NatsAt.cells HB.out hjb
      have hxa := hca j (by omega)
      have hxb := hcb j hjb
      rw [← hd.cell] at hxa hxb
      obtain ⟨x, hx⟩ : ∃ x, xs.getD j 0 = x := ⟨_, rfl⟩
      obtain ⟨y, hy⟩ : ∃ y, ys.getD j 0 = y := ⟨_, rfl⟩
      rw [hx] at hxa
      rw [hy] at hxb
      have i0 : (0 : Int) ≤ ((j + 1 : Nat) : Int) - 1 := by omega
      have i1 : ((j + 1 : Nat) : Int) - 1 < (xs.length : Int) := by omega
      have i2 : (((j + 1 : Nat) : Int) - 1).toNat = j := by omega
      have i3 : ((j + 1 : Nat) : Int) - 1 < (ys.length : Int) := by omega
      have Hd := Lib.hid hd
      have Hx := Lib.hid hx
      have Hy := Lib.hid hy
      clear hca hcb hd hx hy
      rcases Nat.lt_trichotomy x y with hlt | heq | hgt
      · have hne : ((x : Int) != (y : Int)) = true := by rw [bne_iff_ne]; omega
        have hlt' : decide ((x : Int) < (y : Int)) = true := by simpa using hlt
        have hv : cmpN m n = -1 := by
          unfold cmpN
          rw [← Hva.out, ← Hvb.out, if_pos (val_cmp Hda.out (by omega) hjb hr.out (by rw [Hx.out, Hy.out]; exact hlt))]
        have Hv := Lib.hid hv
        clear hv
        go_wp2_with fail
        go_quiet (fail)
        go_wp2_with fail
        go_quiet (fail)
        go_wp2
        go_ret
        exact ⟨ret_int Hv.out.symm, by repeat (first | exact Hd.out | refine Drawn.drewN ?_ _)⟩
      · subst heq
        have hne : ((x : Int) != (x : Int)) = false := by simp
        have hr2 : xs.drop j = ys.drop j := by
          rw [List.drop_eq_getElem_cons (by omega), List.drop_eq_getElem_cons hjb, hr.out]
          have h1 := Hx.out
          have h2 := Hy.out
          rw [List.getD_eq_getElem?_getD, List.getElem?_eq_getElem (by omega)] at h1
          rw [List.getD_eq_getElem?_getD, List.getElem?_eq_getElem hjb] at h2
          simp at h1 h2
          rw [h1, h2]
        have Hr2 := Lib.hid hr2
        clear hr2
        go_wp2_with fail
        go_quiet (fail)
        go_wp2
        go_roundw
        case rel => exact ⟨j, by omega, by go_num, Hd.out.drewN _, Hr2⟩
        case measure => simp [intOf]
      · have hne : ((x : Int) != (y : Int)) = true := by rw [bne_iff_ne]; omega
        have hlt' : decide ((x : Int) < (y : Int)) = false := by simpa using Nat.le_of_lt hgt
        have hv : cmpN m n = 1 := by
          unfold cmpN
          have := val_cmp Hdb.out hjb (show j < xs.length by omega) hr.out.symm (by rw [Hx.out, Hy.out]; exact hgt)
          rw [← Hva.out, ← Hvb.out, if_neg (by omega), if_pos this]
        have Hv := Lib.hid hv
        clear hv
        go_wp2_with fail
        go_quiet (fail)
        go_wp2_with fail
        go_quiet (fail)
        go_wp2
        go_ret
        exact ⟨ret_int Hv.out.symm, by repeat (first | exact Hd.out | refine Drawn.drewN ?_ _)⟩
    · obtain rfl : k = 0 := by omega
      have hv : cmpN m n = 0 := by
        have := hr.out
        rw [List.drop_zero, List.drop_zero] at this
        unfold cmpN
        rw [← Hva.out, ← Hvb.out, this, if_neg (by omega), if_neg (by omega)]
      have Hv := Lib.hid hv
      clear hv
      go_wp2
      go_ret
      exact ⟨ret_int Hv.out.symm, hd⟩
end Go.Proofs.Ytcafeffgaokiaaa

namespace Go.Proofs.Ytcafeffgaokiaaa
open Go.RowKit

/-- The cells of n digits, digit j being F j. -/
def digCells (F : Nat → Nat) (n : Nat) : Array Value := ((List.range n).map fun j => Value.int .u32 (F j : Nat)).toArray
/-- Block g is just these digits. -/
def DigBlk (w : World) (g : Nat) (F : Nat → Nat) (n : Nat) : Prop := w.heap[g]? = some (.cells (digCells F n) 133 (0, 0))
theorem DigBlk.lt {w : World} {g n : Nat} {F : Nat → Nat} (h : DigBlk w g F n) : g < w.heap.size := (Array.getElem?_eq_some_iff.1 h).1
theorem DigBlk.cell {w : World} {g n : Nat} {F : Nat → Nat} (h : DigBlk w g F n) {j : Nat} (hj : j < n) : w.cell? ⟨g, j, none⟩ = some (.int .u32 (F j : Nat)) := by
  rw [cell_of_row w g j _ _ _ h]
  simp [digCells, hj]
theorem DigBlk.frozen {w : World} {g n : Nat} {F : Nat → Nat} (h : DigBlk w g F n) (j : Nat) : w.frozen? ⟨g, j, none⟩ = false := by
  unfold DigBlk at h
  simp [World.frozen?, h]
theorem DigBlk.below {w w' : World} {g n B : Nat} {F : Nat → Nat} (h : DigBlk w g F n) (hb : Below B w w') (hg : g < B) : DigBlk w' g F n := (hb.block g hg).trans h
theorem DigBlk.drewN {w : World} {g n : Nat} {F : Nat → Nat} (h : DigBlk w g F n) (k : Nat) : DigBlk (w.drewN k) g F n := h
theorem DigBlk.drew {w : World} {g n : Nat} {F : Nat → Nat} (h : DigBlk w g F n) : DigBlk w.drew g F n := h
theorem DigBlk.new (w : World) (n : Nat) : DigBlk (w.alloc (.cells (madeCells #[.int .u32 0] n) 133)) w.heap.size (fun _ => 0) n := by
  unfold DigBlk
  rw [heap_alloc_new]
  congr 2
  apply Array.ext'
  simp [digCells, madeCells, Nat.mod_one, List.map_const']
theorem DigBlk.set {w : World} {g n : Nat} {F : Nat → Nat} (h : DigBlk w g F n) {j : Nat} (v : Nat) : DigBlk (w.setCell ⟨g, j, none⟩ (.int .u32 v)) g (fun i => if i = j then v else F i) n := by
  unfold DigBlk at h ⊢
  simp only [World.setCell, Array.getElem?_modify, h]
  simp only [if_true, Option.map_some, Option.isSome_none, Bool.false_eq_true, if_false]
  congr 2
  apply Array.ext'
  apply List.ext_getElem?
  intro i
  simp only [digCells, Array.toList_setIfInBounds, List.getElem?_set, List.getElem?_map, List.length_map, List.length_range]
  by_cases hi : i < n
  · by_cases hij : j = i
    · subst hij; simp [hi]
    · rw [if_neg hij]; simp [hi, Ne.symm hij]
  · by_cases hij : j = i
    · subst hij; simp [hi]
    · rw [if_neg hij]; simp [hi]
theorem DigBlk.congr {w : World} {g n : Nat} {F G : Nat → Nat} (h : DigBlk w g F n) (e : ∀ j, j < n → F j = G j) : DigBlk w g G n := by
  unfold DigBlk at h ⊢
  rw [h]
  congr 2
  unfold digCells
  congr 1
  exact List.map_congr_left fun j hj => by rw [e j (List.mem_range.1 hj)]
/-- The digits as a list. -/
def digList (F : Nat → Nat) (n : Nat) : List Nat := (List.range n).map F
theorem digList_len (F : Nat → Nat) (n : Nat) : (digList F n).length = n := by simp [digList]
theorem digList_getD (F : Nat → Nat) {n j : Nat} (h : j < n) : (digList F n).getD j 0 = F j := by
  unfold digList; rw [List.getD_eq_getElem?_getD, List.getElem?_map, List.getElem?_range h]; rfl
theorem digList_dg {F : Nat → Nat} {n : Nat} (h : ∀ j, j < n → F j < 4294967296) : Dg (digList F n) := by
  intro x hx
  obtain ⟨j, hj, rfl⟩ := List.mem_map.1 hx
  exact h j (List.mem_range.1 hj)
theorem DigBlk.nats {w : World} {g n : Nat} {F : Nat → Nat} (h : DigBlk w g F n) : NatsAt w (some ⟨g, 0, none⟩) (digList F n) := by
  refine .inr ⟨g, 0, rfl, h.lt, fun i hi j hj => ?_⟩
  rw [digList_len] at hi
  have : j = 0 := by omega
  subst this
  show w.cell? ⟨g, 0 + i * 1 + 0, none⟩ = some (.int .u32 (((digList F n).getD i 0 : Nat) : Int))
  rw [digList_getD F hi, ← h.cell hi]
  simp

theorem natInfo : (Try.prog.info? 133).map (fun i => (i.zero, i.size, i.bytes)) = some (some (.int .u32 0), 1, 4) := by kernel_rfl
/-- make(natural, n). -/
theorem make_nats (kl kc : IntKind) (n : Nat) (h : n ≤ 1000000000) (w : World) :
    (Instr.makeSlice 136 (.int kl (n : Int)) (.int kc (n : Int))).run Try.prog w = .ok (.slice (some ⟨w.heap.size, 0, none⟩) n n) (w.alloc (.cells (madeCells #[.int .u32 0] n) 133)) :=
  run_make_row' 136 133 (.int .u32 0) 4 Try.underlying136 natInfo rfl kl kc n (by omega) (by omega) w

/-- What a function that returns a natural number gives. -/
def RetNat (v : Nat) (w : World) (e : Ending) (w' : World) : Prop :=
  ∃ p c, e = .returned (.slice p (digs v).length c) ∧ NatsAt w' p (digs v) ∧ (digs v).length ≤ c ∧ c ≤ 1000000000 ∧ Below w.heap.size w w'
/-- The end of a walk that has filled a block and calls trim. -/
theorem trim_blk {w w0 : World} {g n : Nat} {F : Nat → Nat} (h : DigBlk w g F n) (hF : ∀ j, j < n → F j < 4294967296) (hn : n ≤ 1000000000) (hb : Below w0.heap.size w0 w) {v : Nat} (hv : val (digList F n) = v) :
    Calls Try.prog 106 #[.slice (some ⟨g, 0, none⟩) n n] w (RetNat v w0) := by
  have h1 := trim_any (digList F n) (some ⟨g, 0, none⟩) n w h.nats (by rw [digList_len]; exact Nat.le_refl _) (by omega)
  rw [digList_len] at h1
  refine h1.mono ?_
  rintro e w' ⟨rfl, rfl⟩
  have h2 := trim_digs _ (digList_dg hF)
  rw [digList_len, hv] at h2
  have h3 := tl_le (digList F n) n
  have h4 : (digs v).length = tl (digList F n) n := by
    rw [← h2, List.length_take, digList_len]; omega
  refine ⟨_, n, by rw [h4], by rw [← h2]; exact h.nats.take _, by omega, hn, hb⟩
end Go.Proofs.Ytcafeffgaokiaaa

namespace Go.Proofs.Ytcafeffgaokiaaa
open Go.RowKit

theorem bval_cons (c : UInt8) (l : List UInt8) : bval (c :: l) = c.toNat * 256 ^ l.length + bval l := by
  have h : ∀ (l : List UInt8) (a : Nat), l.foldl (fun a c => a * 256 + c.toNat) a = a * 256 ^ l.length + bval l := by
    intro l
    induction l with
    | nil => intro a; simp [bval]
    | cons d l ih =>
      intro a
      have h1 := ih (a * 256 + d.toNat)
      have h2 := ih d.toNat
      simp only [bval, List.foldl_cons, List.length_cons, Nat.zero_mul, Nat.zero_add] at h1 h2 ⊢
      rw [h1, h2, Nat.pow_succ, Nat.add_mul, Nat.mul_assoc, Nat.mul_comm 256]
      omega
  have := h l c.toNat
  simpa [bval] using this
/-- The value of the last i bytes. -/
def lowB (l : List UInt8) (i : Nat) : Nat := bval (l.drop (l.length - i))
theorem lowB_zero (l : List UInt8) : lowB l 0 = 0 := by simp [lowB, bval]
theorem lowB_all (l : List UInt8) : lowB l l.length = bval l := by simp [lowB]
theorem lowB_lt (l : List UInt8) {i : Nat} (h : i ≤ l.length) : lowB l i < 256 ^ i := by
  have := bval_lt (l.drop (l.length - i))
  rw [List.length_drop, show l.length - (l.length - i) = i from by omega] at this
  exact this
theorem lowB_succ (l : List UInt8) {i : Nat} (h : i < l.length) : lowB l (i + 1) = (l.getD (l.length - 1 - i) 0).toNat * 256 ^ i + lowB l i := by
  unfold lowB
  rw [show l.length - (i + 1) = l.length - 1 - i from by omega, List.drop_eq_getElem_cons (by omega), bval_cons, List.length_drop,
    show l.length - (l.length - 1 - i + 1) = i from by omega, show l.length - 1 - i + 1 = l.length - i from by omega,
    List.getD_eq_getElem?_getD, List.getElem?_eq_getElem (by omega)]; rfl
/-- Digit q of a number. -/
def dig (L q : Nat) : Nat := L / 4294967296 ^ q % 4294967296
theorem dig_lt (L q : Nat) : dig L q < 4294967296 := Nat.mod_lt _ (by decide)

theorem base_pow (q : Nat) : (4294967296 : Nat) ^ q = 256 ^ (4 * q) := by rw [Nat.pow_mul]
theorem dig_step {L c i : Nat} (hL : L < 256 ^ i) (hc : c < 256) (j : Nat) : dig (c * 256 ^ i + L) j = if j = i / 4 then dig L j + c * 256 ^ (i % 4) else dig L j := by
  unfold dig
  rw [base_pow]
  rcases Nat.lt_trichotomy j (i / 4) with h | h | h
  · rw [if_neg (by omega)]
    obtain ⟨m, hm⟩ : ∃ m, i = 4 * j + 4 + m := ⟨i - 4 * j - 4, by omega⟩
    rw [hm, Nat.pow_add, Nat.pow_add, show c * (256 ^ (4 * j) * 256 ^ 4 * 256 ^ m) + L = L + 256 ^ (4 * j) * (4294967296 * (c * 256 ^ m)) from by
      rw [show (256 : Nat) ^ 4 = 4294967296 from by decide]
      rw [Nat.add_comm]; congr 1; simp only [Nat.mul_comm, Nat.mul_left_comm, Nat.mul_assoc],
      Nat.add_mul_div_left _ _ (Nat.pow_pos (by decide)), Nat.add_mul_mod_self_left]
  · rw [if_pos h]
    have h3 : i = 4 * j + i % 4 := by omega
    have h4 : L / 256 ^ (4 * j) < 256 ^ (i % 4) := by
      apply Nat.div_lt_of_lt_mul
      rw [← Nat.pow_add, ← h3]; exact hL
    have h5 : (256 : Nat) ^ (i % 4 + 1) ≤ 256 ^ 4 := Nat.pow_le_pow_right (by decide) (by omega)
    rw [Nat.pow_succ, show (256 : Nat) ^ 4 = 4294967296 from by decide] at h5
    have h6 : c * 256 ^ (i % 4) + 256 ^ (i % 4) ≤ 256 ^ (i % 4) * 256 := by
      have : (c + 1) * 256 ^ (i % 4) ≤ 256 * 256 ^ (i % 4) := Nat.mul_le_mul_right _ (by omega)
      rw [Nat.add_mul, Nat.mul_comm 256] at this; omega
    have e0 : c * 256 ^ i + L = L + 256 ^ (4 * j) * (c * 256 ^ (i % 4)) := by
      rw [Nat.add_comm]; congr 1
      rw [Nat.mul_left_comm, ← Nat.pow_add, ← h3]
    have e1 : (L / 256 ^ (4 * j) + c * 256 ^ (i % 4)) % 4294967296 = L / 256 ^ (4 * j) + c * 256 ^ (i % 4) := Nat.mod_eq_of_lt (by omega)
    have e2 : L / 256 ^ (4 * j) % 4294967296 = L / 256 ^ (4 * j) := Nat.mod_eq_of_lt (by omega)
    rw [e0, Nat.add_mul_div_left _ _ (Nat.pow_pos (by decide)), e1, e2]
  · rw [if_neg (by omega)]
    have h1 : c * 256 ^ i + L < 256 ^ (i + 1) := by
      have : (c + 1) * 256 ^ i ≤ 256 * 256 ^ i := Nat.mul_le_mul_right _ (by omega)
      rw [Nat.pow_succ]; rw [Nat.add_mul] at this; omega
    have h2 : (256 : Nat) ^ (i + 1) ≤ 256 ^ (4 * j) := Nat.pow_le_pow_right (by decide) (by omega)
    rw [Nat.div_eq_of_lt (by omega), Nat.div_eq_of_lt (by omega)]
theorem val_snoc (xs : List Nat) (d : Nat) : val (xs ++ [d]) = val xs + 4294967296 ^ xs.length * d := by
  induction xs with
  | nil => simp [val]
  | cons x xs ih => simp only [List.cons_append, val, ih, List.length_cons, Nat.pow_succ, Nat.mul_add, Nat.mul_assoc, Nat.mul_left_comm]; omega
theorem val_dig (L n : Nat) : val (digList (dig L) n) = L % 4294967296 ^ n := by
  induction n with
  | zero => simp [digList, val]; omega
  | succ n ih =>
    unfold digList at ih ⊢
    rw [List.range_succ, List.map_append, List.map_cons, List.map_nil, val_snoc, ih, List.length_map, List.length_range, Nat.mod_pow_succ]; rfl
theorem or_digit {D c r : Nat} (hD : D < 256 ^ r) (hc : c < 256) (hr : r < 4) : bits .or .u32 (D : Int) ((c : Int) * 2 ^ (8 * r) % 4294967296) = ((D + c * 256 ^ r : Nat) : Int) := by
  have hp : (256 : Nat) ^ r = 2 ^ (8 * r) := by rw [Nat.pow_mul]
  have h5 : (256 : Nat) ^ (r + 1) ≤ 256 ^ 4 := Nat.pow_le_pow_right (by decide) (by omega)
  rw [Nat.pow_succ, show (256 : Nat) ^ 4 = 4294967296 from by decide] at h5
  have h6 : c * 256 ^ r + 256 ^ r ≤ 256 ^ r * 256 := by
    have : (c + 1) * 256 ^ r ≤ 256 * 256 ^ r := Nat.mul_le_mul_right _ (by omega)
    rw [Nat.add_mul, Nat.mul_comm 256] at this; omega
  have hpos : 0 < 256 ^ r := Nat.pow_pos (by decide)
  have e1 : (c : Int) * 2 ^ (8 * r) % 4294967296 = ((c * 256 ^ r : Nat) : Int) := by
    rw [hp] at h5 h6 hpos ⊢
    have h7 : ((c : Int) * 2 ^ (8 * r)) = ((c * 2 ^ (8 * r) : Nat) : Int) := by simp
    rw [h7]; omega
  rw [e1, u32_or_nat _ _ (by omega) (by omega)]
  congr 1
  rw [Nat.or_comm, Nat.mul_comm c, hp, ← Nat.two_pow_add_eq_or_of_lt (by rw [← hp]; exact hD)]
  omega

set_option maxRecDepth 100000 in
set_option maxHeartbeats 2000000 in
theorem digits_any (z : ZI) (hz : z.mag.size ≤ 100000000) (w : World) :
    Calls Try.prog 81 #[.agg #[.bool z.neg, .string z.mag]] w (RetNat (absZ z) w) := by
  obtain ⟨n, hn⟩ : ∃ n, (z.mag.size + 3) / 4 = n := ⟨_, rfl⟩
  have hnI : ((z.mag.size : Int) + 3) / 4 = (n : Int) := by omega
  have hmk := make_nats .i64 .i64 n (by omega)
  go_enter Try.func81, Try.ntmps81
  go_wp2
  go_loopw [15] (fun v wr => ∃ i : Nat, i ≤ z.mag.size ∧ v = .int .i64 i ∧ Below (w.heap.size + 1) (w.alloc (.cells #[.bool z.neg, .string z.mag] 48)) wr ∧ Hid (DigBlk wr (w.heap.size + 1) (dig (lowB z.mag.data.toList i)) n)) (fun v _ => z.mag.size - (intOf v).toNat)
  case atStart =>
    refine ⟨0, by omega, rfl, (Below.refl _ _).alloc (by simp) _, Lib.hid ?_⟩
    have := (DigBlk.new (w.alloc (.cells #[.bool z.neg, .string z.mag] 48)) n)
    rw [World.size_alloc] at this
    exact this.congr fun j _ => by rw [lowB_zero]; simp [dig]
  case round =>
    have Hn := Lib.hid hn
    clear hmk hn hnI
    obtain ⟨i, hi, rfl, hb, hD⟩ := hrel
    obtain ⟨⟨c0, c1⟩, hsz, hbw⟩ := box2 hb
    have Hb := Lib.hid hb
    have Hbw := Lib.hid hbw
    clear hb hbw
    by_cases hlt : i < z.mag.size
    · have hq : i / 4 < n := by have := Hn.out; omega
      have hc := hD.out.cell hq
      have hf := hD.out.frozen (i / 4)
      obtain ⟨D, hDD⟩ : ∃ D, dig (lowB z.mag.data.toList i) (i / 4) = D := ⟨_, rfl⟩
      rw [hDD] at hc
      have i1 : (0 : Int) ≤ (z.mag.size : Int) - 1 - (i : Int) := by omega
      have i2 : (z.mag.size : Int) - 1 - (i : Int) < (z.mag.size : Int) := by omega
      have i3 : ((z.mag.size : Int) - 1 - (i : Int)).toNat = z.mag.size - 1 - i := by omega
      have i4 : ((i : Int) / 4).toNat = i / 4 := by omega
      have i5 : (0 : Int) ≤ (i : Int) / 4 := by omega
      have i6 : (i : Int) / 4 < (n : Int) := by have := Hn.out; omega
      obtain ⟨c, hcc⟩ : ∃ c, (z.mag[z.mag.size - 1 - i]'(by omega)).toNat = c := ⟨_, rfl⟩
      have hc256 : c < 256 := by rw [← hcc]; exact UInt8.toNat_lt _
      have hlen : z.mag.data.toList.length = z.mag.size := by simp
      have hLi := lowB_lt z.mag.data.toList (i := i) (by omega)
      have hDlt : D < 256 ^ (i % 4) := by
        rw [← hDD]
        unfold dig
        refine Nat.lt_of_le_of_lt (Nat.mod_le _ _) ?_
        rw [base_pow]
        apply Nat.div_lt_of_lt_mul
        rw [← Nat.pow_add, show 4 * (i / 4) + i % 4 = i from by omega]; exact hLi
      have hor := or_digit hDlt hc256 (show i % 4 < 4 by omega)
      have hstep : ∀ j, dig (lowB z.mag.data.toList (i + 1)) j = if j = i / 4 then D + c * 256 ^ (i % 4) else dig (lowB z.mag.data.toList i) j := fun j => by
        have h1 := lowB_succ z.mag.data.toList (i := i) (by omega)
        rw [hlen] at h1
        have h2 : (z.mag.data.toList.getD (z.mag.size - 1 - i) 0).toNat = c := by
          rw [List.getD_eq_getElem?_getD, List.getElem?_eq_getElem (by omega), ← hcc]; rfl
        rw [h2] at h1
        rw [h1, dig_step hLi hc256 j]
        by_cases hj : j = i / 4
        · rw [if_pos hj, if_pos hj, hj, hDD]
        · rw [if_neg hj, if_neg hj]
      have Hstep := Lib.hid hstep
      have Hor := Lib.hid hor
      clear hDD hDlt hstep hlen hor hLi
      go_wp2_with fail
      go_region
      rw [Hor.out]
      go_wp2
      go_roundw
      case rel =>
        refine ⟨i + 1, by omega, by go_num, (Hb.out.setCell (p := ⟨w.heap.size + 1, i / 4, none⟩) (by simp) _).drew, Lib.hid ?_⟩
        have := hD.out.set (j := i / 4) (D + c * 256 ^ (i % 4))
        exact (DigBlk.drew this).congr fun j _ => (Hstep.out j).symm
      case measure => simp [intOf]; omega
    · have hie : i = z.mag.size := by omega
      have hv : val (digList (dig (lowB z.mag.data.toList i)) n) = absZ z := by
        have hlen : z.mag.data.toList.length = z.mag.size := by simp
        rw [val_dig, hie, ← hlen, lowB_all, Nat.mod_eq_of_lt]; rfl
        rw [base_pow]
        exact Nat.lt_of_lt_of_le (bval_lt _) (Nat.pow_le_pow_right (by decide) (by have := Hn.out; omega))
      have Hv := Lib.hid hv
      clear hv hie
      go_wp2_with fail
      refine (trim_blk hD.out (fun j _ => dig_lt _ _) (by have := Hn.out; omega) Hbw.out Hv.out).mono ?_
      rintro e w2 ⟨p, c, rfl, hN, hc1, hc2, hb2⟩
      have HN := Lib.hid hN
      have Hb2 := Lib.hid hb2
      clear hN hb2
      go_wp2
      go_ret
      exact ⟨p, c, rfl, HN.out, hc1, hc2, Hb2.out⟩
end Go.Proofs.Ytcafeffgaokiaaa

namespace Go.Proofs.Ytcafeffgaokiaaa
open Go.RowKit

theorem byteInfo : (Try.prog.info? 5).map (fun i => (i.zero, i.size, i.bytes)) = some (some (.int .u8 0), 1, 1) := by kernel_rfl
/-- Bytes that the call has made. -/
def OwnBytes (w : World) (B : Nat) (v : Value) (l : List UInt8) : Prop := w.ownsRow B 5 1 v l.length (l.map fun c => Value.int .u8 (c.toNat : Int))
theorem OwnBytes.below {w w' : World} {B C : Nat} {v : Value} {xs : List UInt8} (h : OwnBytes w B v xs) (hB : w.heap.size ≤ C) (hb : Below C w w') : OwnBytes w' B v xs := ownsRow_below h hB hb
theorem OwnBytes.alloc {w : World} {B : Nat} {v : Value} {xs : List UInt8} (h : OwnBytes w B v xs) (o : Obj) : OwnBytes (w.alloc o) B v xs := World.ownsRow.alloc h o
theorem OwnBytes.drewN {w : World} {B : Nat} {v : Value} {xs : List UInt8} (h : OwnBytes w B v xs) (n : Nat) : OwnBytes (w.drewN n) B v xs := h.below (Nat.le_refl _) (Drawn.below ⟨n, rfl⟩ _)
theorem wpList_append_byte {ops : Array Oper} {rest : List Oper} {o : Oper} {a : Act} {Q : Exit → Act → World → Prop} {w : World} (hgd : o.guard = none) (s x : Operand)
    (ho : o.op = .call { callee := .builtin .append, args := #[s, x], argTypes := #[25, 25] })
    (base : Nat) (v : Value) (xs : List UInt8) (hs : a.eval s = v) (hown : OwnBytes w base v xs) (g c : Nat) (y : UInt8) (hx : a.eval x = .slice (some ⟨g, 0, none⟩) 1 c)
    (hc : w.cell? ⟨g, 0, none⟩ = some (.int .u8 (y.toNat : Int))) (hn : xs.length < 1000000000000) (hbase : base ≤ w.heap.size)
    (h : ∀ v' w', OwnBytes w' base v' (xs ++ [y]) → w.grownBy w' v.ownBlock → wpList Try.prog ops Q rest (a.put o.dst v') w') : wpList Try.prog ops Q (o :: rest) a w := by
  obtain ⟨i0, hi, hz0, hz1, hz2⟩ := info_parts byteInfo
  refine wpList_append_own _ hgd s x _ ho base 5 i0 (.int .u8 0) 1 1 Try.underlying25 hi hz0 hz1 hz2 rfl (by decide) v xs.length _ hs hown ⟨g, 0, none⟩ 1 c [.int .u8 (y.toNat : Int)] hx rfl ?_ ?_ ?_ ?_ hbase ?_
  · intro j u hj
    match j, hj with
    | 0, hj => simp at hj; subst hj; simpa [Addr.add] using hc
  · intro u hu; simp at hu; subst hu; rfl
  · unfold maxLen; omega
  · omega
  · intro v' w' h2 h3 _
    exact h v' w' (by unfold OwnBytes; simpa using h2) h3
theorem OwnBytes.form {w : World} {B : Nat} {v : Value} {xs : List UInt8} (h : OwnBytes w B v xs) : ∃ p cap, v = .slice p xs.length cap ∧ SlAt 1 w p xs.length (fun i _ => .int .u8 ((xs.getD i 0).toNat : Int)) := by
  obtain ⟨p, cap, h1, _, h3, _⟩ := slAt_of_owns h (fun i _ => .int .u8 ((xs.getD i 0).toNat : Int)) fun i hi j hj => by
    have : j = 0 := by omega
    subst this
    simp [List.getD_eq_getElem?_getD, hi]
  exact ⟨p, cap, h1, h3⟩
/-- The integer that a sign and a natural number make. -/
def mkZ (neg : Bool) (v : Nat) : ZI := if v = 0 then ⟨false, ⟨#[]⟩⟩ else ⟨neg, ⟨(beb v).toArray⟩⟩
theorem mkZ_pos (v : Nat) : mkZ false v = canon v := by
  unfold mkZ canon
  by_cases h : v = 0
  · subst h; rw [if_pos rfl]; rfl
  · rw [if_neg h]
    have : ¬ ((v : Int) < 0) := by omega
    simp [this]
theorem mkZ_neg (v : Nat) : mkZ true v = canon (-(v : Int)) := by
  unfold mkZ canon
  by_cases h : v = 0
  · subst h; rw [if_pos rfl]; rfl
  · rw [if_neg h]
    have h1 : decide (-(v : Int) < 0) = true := by rw [decide_eq_true_eq]; omega
    rw [h1]; simp
/-- What a function that returns an integer gives. -/
def RetZ (z : ZI) (w : World) (e : Ending) (w' : World) : Prop := e = .returned (.agg #[.bool z.neg, .string z.mag]) ∧ Below w.heap.size w w'

theorem box_frozen {w wr : World} {vs : Array Value} {t : TypeId} {B : Nat} (hb : Below B (w.alloc (.cells vs t (0, 0))) wr) (hB : w.heap.size < B) (j : Nat) : wr.frozen? ⟨w.heap.size, j, none⟩ = false := by
  rw [hb.frozen (p := ⟨w.heap.size, j, none⟩) hB]
  have : (w.alloc (.cells vs t (0, 0))).heap[w.heap.size]? = some (.cells vs t (0, 0)) := by
    show (w.heap.push _)[w.heap.size]? = _
    simp
  unfold World.frozen?
  simp only [this]
  simp
/-- The value that stands when digit j is over down to byte t. -/
def topB (ds : List Nat) (j t : Nat) : Nat := val (ds.drop (j + 1)) * 256 ^ (4 - t) + ds.getD j 0 / 256 ^ t
theorem topB_four {ds : List Nat} (h : Dg ds) (j : Nat) : topB ds j 4 = val (ds.drop (j + 1)) := by
  have := h.getD j
  unfold topB
  rw [Nat.div_eq_of_lt (by simpa using this)]; simp
theorem topB_zero {ds : List Nat} {j : Nat} (hj : j < ds.length) : topB ds j 0 = val (ds.drop j) := by
  unfold topB
  rw [val_drop hj]; simp; omega
theorem topB_step (ds : List Nat) (j : Nat) {t : Nat} (ht : t < 4) : topB ds j t = topB ds j (t + 1) * 256 + ds.getD j 0 / 256 ^ t % 256 := by
  unfold topB
  rw [show 4 - t = (4 - (t + 1)) + 1 from by omega, Nat.pow_succ, Nat.pow_succ, ← Nat.div_div_eq_div_mul, Nat.add_mul, Nat.mul_assoc]
  have := Nat.div_add_mod (ds.getD j 0 / 256 ^ t) 256
  omega

theorem topB_step0 (ds : List Nat) (j : Nat) : topB ds j 1 ≤ topB ds j 0 := by have := topB_step ds j (t := 0) (by decide); simp only [Nat.zero_add] at this; omega
theorem topB_step1 (ds : List Nat) (j : Nat) : topB ds j 2 ≤ topB ds j 1 := by have := topB_step ds j (t := 1) (by decide); simp only [Nat.reduceAdd] at this; omega
theorem topB_step2 (ds : List Nat) (j : Nat) : topB ds j 3 ≤ topB ds j 2 := by have := topB_step ds j (t := 2) (by decide); simp only [Nat.reduceAdd] at this; omega
theorem topB_step3 (ds : List Nat) (j : Nat) : topB ds j 4 ≤ topB ds j 3 := by have := topB_step ds j (t := 3) (by decide); simp only [Nat.reduceAdd] at this; omega
theorem topB_lt {ds : List Nat} (h : Dg ds) {j : Nat} (hj : j < ds.length) {t : Nat} (ht : t ≤ 4) : topB ds j t < 256 ^ (4 * ds.length) := by
  have h1 : topB ds j t ≤ topB ds j 0 := by
    match t, ht with
    | 0, _ => exact Nat.le_refl _
    | 1, _ => have := topB_step0 ds j; omega
    | 2, _ => have := topB_step0 ds j; have := topB_step1 ds j; omega
    | 3, _ => have := topB_step0 ds j; have := topB_step1 ds j; have := topB_step2 ds j; omega
    | 4, _ => have := topB_step0 ds j; have := topB_step1 ds j; have := topB_step2 ds j; have := topB_step3 ds j; omega
  rw [topB_zero hj] at h1
  refine Nat.lt_of_le_of_lt h1 (Nat.lt_of_lt_of_le (val_lt (h.drop j)) ?_)
  rw [Nat.pow_mul, List.length_drop]
  exact Nat.pow_le_pow_right (by decide) (by omega)

set_option maxRecDepth 100000 in
set_option maxHeartbeats 4000000 in
theorem number_any (neg : Bool) (xs : List Nat) (p : Option Addr) (c : Nat) (w : World) (hX : NatsAt w p xs) (hdg : Dg xs) (hc : xs.length ≤ c) (hcm : c ≤ 1000000000) {v : Nat} (hv : val xs = v) :
    Calls Try.prog 78 #[.bool neg, .slice p xs.length c] w (RetZ (mkZ neg v) w) := by
  obtain ⟨i0, hi0, hz0, hz1, hz2⟩ := info_parts byteInfo
  have ht := trim_digs xs hdg
  rw [hv] at ht
  have hlen : tl xs xs.length = (digs v).length := by
    rw [← ht, List.length_take]; have := tl_le xs xs.length; omega
  have hX2 : NatsAt w p (digs v) := by rw [← ht]; exact hX.take _
  have HX := Lib.hid hX
  have HX2 := Lib.hid hX2
  have Hlen := Lib.hid hlen
  have hdl : (digs v).length ≤ c := by rw [← hlen]; exact Nat.le_trans (tl_le _ _) hc
  have hdd := Lib.hid (dg_digs v)
  have hvd := Lib.hid (val_digs v)
  clear hX hX2 hlen ht hv
  by_cases h0 : v = 0
  · subst h0
    go_enter Try.func78, Try.ntmps78
    go_wp2_with (go_at_call 106; refine (trim_any xs p c _ (HX.out.below (Nat.le_refl _) ((Below.refl _ _).alloc (Nat.le_refl _) _)) hc (by omega)).mono ?_; rintro e w' ⟨rfl, rfl⟩; rw [Hlen.out, digs_zero])
    exact bodyPost_ret (v := .agg #[.bool false, .string ⟨#[]⟩]) (by simp [results, Try.results78, go_sem]) rfl ⟨rfl, (Below.refl _ _).alloc (Nat.le_refl _) _⟩
  · have hne : ((((digs v).length : Nat) : Int) == 0) = false := by
      rw [beq_eq_false_iff_ne]
      intro h; exact h0 (digs_len_pos.1 (by omega))
    have hz : mkZ neg v = ⟨neg, ⟨(beb v).toArray⟩⟩ := by unfold mkZ; rw [if_neg h0]
    have Hz := Lib.hid hz
    have hpos : 0 < (digs v).length := Nat.pos_of_ne_zero (fun h => h0 (digs_len_pos.1 h))
    clear hz h0
    generalize hds : digs v = ds at *
    have Hds := Lib.hid hds
    clear hds
    go_enter Try.func78, Try.ntmps78
    go_wp2_with (first
      | (go_at_call 106; refine (trim_any xs p c _ (HX.out.below (Nat.le_refl _) ((Below.refl _ _).alloc (Nat.le_refl _) _)) hc (by omega)).mono ?_; rintro e w' ⟨rfl, rfl⟩; rw [Hlen.out])
      | (at_make; refine wpList_make_own _ rfl _ _ 25 rfl (w.heap.size + 1) 5 i0 (.int .u8 0) 1 Try.underlying25 hi0 hz0 hz1 .i64 .i64 (4 * (ds.length : Int)) (4 * ds.length) rfl rfl ?_ ?_ ?_ ?_ ?_))
    · omega
    · rw [hz2]; omega
    · unfold maxLen; omega
    · simp
    intro w1 hown hgrow
    have hb1 : Below (w.heap.size + 1) (w.alloc (.cells #[.bool false, .string ⟨#[]⟩] 48)) w1 := (Below.refl _ _).grown hgrow (by simp) (fun k hk => by cases hk)
    have Hb1 := Lib.hid hb1
    have Hown := Lib.hid hown
    clear hb1 hown hgrow hne
    go_wp2
    go_loopw [5, 6] (fun bv iv wr => ∃ j : Nat, j ≤ ds.length ∧ iv = .int .i64 ((j : Int) - 1) ∧ Below (w.heap.size + 1) (w.alloc (.cells #[.bool false, .string ⟨#[]⟩] 48)) wr ∧ Hid (OwnBytes wr (w.heap.size + 1) bv (beb (val (ds.drop j))))) (fun _ iv _ => (intOf iv + 1).toNat)
    case atStart => exact ⟨ds.length, Nat.le_refl _, rfl, Hb1.out, Lib.hid (by rw [List.drop_of_length_le (Nat.le_refl _)]; exact Hown.out)⟩
    case round =>
      obtain ⟨j, hj, rfl, hb, hO⟩ := hrel
      obtain ⟨⟨c0, c1⟩, hsz, hbw⟩ := box2 hb
      have Hb := Lib.hid hb
      have Hbw := Lib.hid hbw
      clear hb hbw
      by_cases hj0 : 0 < j
      · obtain ⟨i, rfl⟩ : ∃ i, j = i + 1 := ⟨j - 1, by omega⟩
        rw [show ((i + 1 : Nat) : Int) - 1 = (i : Int) from by omega]
        go_wp2
        go_loopw [5, 7] (fun bv kv wr2 => ∃ t : Nat, t ≤ 4 ∧ kv = .int .i64 ((t : Int) - 1) ∧ Below (w.heap.size + 1) (w.alloc (.cells #[.bool false, .string ⟨#[]⟩] 48)) wr2 ∧ Hid (OwnBytes wr2 (w.heap.size + 1) bv (beb (topB ds i t)))) (fun _ kv _ => (intOf kv + 1).toNat)
        case atStart => exact ⟨4, Nat.le_refl _, rfl, Hb.out, Lib.hid (by rw [topB_four hdd.out]; exact hO.out)⟩
        case round =>
          clear c0 c1
          obtain ⟨t, ht, rfl, hb2, hO2⟩ := hrel
          obtain ⟨⟨c0, c1⟩, hsz2, hbw2⟩ := box2 hb2
          have Hb2 := Lib.hid hb2
          have Hbw2 := Lib.hid hbw2
          clear hb2 hbw2
          by_cases ht0 : 0 < t
          · obtain ⟨r, rfl⟩ : ∃ r, t = r + 1 := ⟨t - 1, by omega⟩
            rw [show ((r + 1 : Nat) : Int) - 1 = (r : Int) from by omega]
            obtain ⟨b, off, rfl, hbl, hcell⟩ := NatsAt.cells HX2.out (k := i) (by omega)
            have hx := hcell i (by omega)
            rw [← Hbw2.out.cell (p := ⟨b, _, none⟩) hbl] at hx
            obtain ⟨x, hxe⟩ : ∃ x, ds.getD i 0 = x := ⟨_, rfl⟩
            rw [hxe] at hx
            have hxl : x < 4294967296 := by rw [← hxe]; exact hdd.out.getD i
            have hstep := topB_step ds i (t := r) (by omega)
            rw [hxe] at hstep
            obtain ⟨pb, cb, rfl, _⟩ := OwnBytes.form hO2.out
            have i1 : (i : Int) < (ds.length : Int) := by omega
            have i4 : (r : Int) < 4 := by omega
            obtain ⟨y, hyd⟩ : ∃ y : UInt8, y = UInt8.ofNat (x / 256 ^ r % 256) := ⟨_, rfl⟩
            have hyn : y.toNat = x / 256 ^ r % 256 := by rw [hyd]; simp
            have hcx : (x : Int) / 2 ^ (8 * r) % 256 = (y.toNat : Int) := by
              have h1 : (256 : Nat) ^ r = 2 ^ (8 * r) := by rw [Nat.pow_mul]
              rw [hyn, h1, Int.natCast_emod, Int.natCast_ediv]; simp
            have hsn : (topB ds i (r + 1) ≠ 0 ∨ y.toNat ≠ 0) → beb (topB ds i r) = beb (topB ds i (r + 1)) ++ [y] := fun h => by
              rw [hstep, beb_snoc (Nat.mod_lt _ (by decide)) (by rw [← hyn]; exact h), hyd]
            have hz0 : topB ds i (r + 1) = 0 → y.toNat = 0 → beb (topB ds i r) = beb (topB ds i (r + 1)) := fun h1 h2 => by
              rw [hstep, h1, ← hyn, h2]
            have hlz := @beb_len_zero (topB ds i (r + 1))
            have hll : (beb (topB ds i (r + 1))).length < 1000000000000 := by
              have := beb_len _ (topB_lt hdd.out (j := i) (by omega) (t := r + 1) (by omega))
              omega
            have Hxe := Lib.hid hxe
            clear hcell hxe hstep hyd
            generalize hl : beb (topB ds i (r + 1)) = l at *
            clear hl
            by_cases hy : y.toNat = 0
            case neg =>
              have hy1 : ((y.toNat : Int) != 0) = true := by rw [bne_iff_ne]; omega
              have Hsn := Lib.hid (hsn (.inr hy))
              clear hsn hz0 hlz hyn
              go_wp2_with (at_builtin; refine wpList_append_byte rfl _ _ rfl (w.heap.size + 1) _ _ rfl (hO2.out.alloc _) wr.heap.size 1 y rfl ?_ ?_ ?_ ?_)
              · exact cell_new0 _ _ _
              · exact hll
              · simp; omega
              · intro v' w3 hown3 hgrow3
                have Hb4 := Lib.hid (below_append (Hb2.out.alloc (by omega) _) (hO2.out.alloc _) hgrow3 (by simp; omega) (Nat.le_refl _))
                have Hown3 := Lib.hid hown3
                clear hown3 hgrow3
                go_wp2
                go_roundw
                case rel => exact ⟨r, by omega, by go_num, Hb4.out, Lib.hid (by rw [Hsn.out]; exact Hown3.out)⟩
                case measure => simp [intOf]
            have hy1 : ((y.toNat : Int) != 0) = false := by rw [bne_eq_false_iff_eq]; omega
            by_cases hQ : topB ds i (r + 1) = 0
            case neg =>
              have hl0 : 0 < l.length := Nat.pos_of_ne_zero fun h => hQ (hlz.1 h)
              have Hsn := Lib.hid (hsn (.inl hQ))
              have HQ := Lib.hid hQ
              clear hsn hz0 hlz hyn hQ
              go_wp2_with (at_builtin; refine wpList_append_byte rfl _ _ rfl (w.heap.size + 1) _ _ rfl (hO2.out.alloc _) wr.heap.size 1 y rfl ?_ ?_ ?_ ?_)
              · rw [← show (y.toNat : Int) = 0 from by omega]; exact cell_new0 _ _ _
              · exact hll
              · simp; omega
              · intro v' w3 hown3 hgrow3
                have Hb4 := Lib.hid (below_append (Hb2.out.alloc (by omega) _) (hO2.out.alloc _) hgrow3 (by simp; omega) (Nat.le_refl _))
                have Hown3 := Lib.hid hown3
                clear hown3 hgrow3
                go_wp2
                go_roundw
                case rel => exact ⟨r, by omega, by go_num, Hb4.out, Lib.hid (by rw [Hsn.out]; exact Hown3.out)⟩
                case measure => simp [intOf]
            have hl0 : l.length = 0 := hlz.2 hQ
            have hl1 : decide (0 < l.length) = false := by rw [hl0]; rfl
            have hl2 : ¬ (0 : Int) < (l.length : Int) := by omega
            have Hsn := Lib.hid (hz0 hQ hy)
            have HQ := Lib.hid hQ
            have Hl0 := Lib.hid hl0
            clear hsn hz0 hlz hyn hQ hl0
            go_wp2
            go_roundw
            case rel => exact ⟨r, by omega, by go_num, Hb2.out, Lib.hid (by rw [Hsn.out]; exact hO2.out)⟩
            case measure => simp [intOf]
          · obtain rfl : t = 0 := by omega
            have Ht := Lib.hid (topB_zero (ds := ds) (j := i) (by omega))
            go_wp2
            go_roundw
            case rel => exact ⟨i, by omega, by go_num, Hb2.out, Lib.hid (by rw [← Ht.out]; exact hO2.out)⟩
            case measure => simp [intOf]
      · obtain rfl : j = 0 := by omega
        have hv0 : beb (val (ds.drop 0)) = beb v := by rw [List.drop_zero, hvd.out]
        have hO2 := hO.out
        rw [hv0] at hO2
        obtain ⟨pb, cb, rfl, hS⟩ := OwnBytes.form hO2
        have hbp : (beb v).length ≠ 0 := fun h => by
          have h1 := beb_len_zero.1 h
          rw [h1, digs_zero] at Hds
          have := Hds.out
          rw [← this] at hpos
          exact absurd hpos (Nat.lt_irrefl 0)
        rcases hS with hS | ⟨b, off, rfl, hlt, hcl⟩
        · exact absurd hS hbp
        have hrun := run_convert_bytes_back (P := Try.prog) wr 25 9 5 ⟨b, off, none⟩ cb (beb v) rfl rfl rfl (fun j hj => by
          have := hcl j hj 0 (by decide)
          simp only [Nat.mul_one, Nat.add_zero] at this
          rw [show (Addr.add ⟨b, off, none⟩ j : Addr) = ⟨b, off + j, none⟩ from by simp [Addr.add], this]
          simp [List.getD_eq_getElem?_getD, List.getElem?_eq_getElem hj])
        have f0 := box_frozen Hb.out (Nat.lt_succ_self _) 0
        have f1 := box_frozen Hb.out (Nat.lt_succ_self _) 1
        clear hcl hv0 hO2
        generalize hl : beb v = l at *
        have Hl := Lib.hid hl
        clear hl hO
        go_wp2
        refine bodyPost_ret (v := .agg #[.bool neg, .string ⟨l.toArray⟩]) ?_ rfl ⟨by rw [Hz.out], ?_⟩
        · simp [results, Try.results78, go_sem, c0, c1]
        · exact (Hbw.out.setCell (by simp) _).setCell (by simp) _
end Go.Proofs.Ytcafeffgaokiaaa

namespace Go.Proofs.Ytcafeffgaokiaaa

theorem digList_succ (F : Nat → Nat) (k : Nat) : digList F (k + 1) = digList F k ++ [F k] := by simp [digList, List.range_succ]
theorem val_append (xs ys : List Nat) : val (xs ++ ys) = val xs + 4294967296 ^ xs.length * val ys := by
  have h := val_split (xs ++ ys) xs.length
  simpa using h
theorem val_one (x : Nat) : val [x] = x := by simp [val]
theorem val_digList_succ (F : Nat → Nat) (k : Nat) : val (digList F (k + 1)) = val (digList F k) + 4294967296 ^ k * F k := by
  rw [digList_succ, val_append, val_one, digList_len]
theorem val_digList_lt {F : Nat → Nat} (h : ∀ j, F j < 4294967296) (k : Nat) : val (digList F k) < 4294967296 ^ k := by
  have := val_lt (digList_dg (F := F) (n := k) fun j _ => h j)
  rwa [digList_len] at this
theorem val_take_over (xs : List Nat) (k : Nat) : val (xs.take (k + 1)) = val (xs.take k) + 4294967296 ^ k * xs.getD k 0 := by
  by_cases hk : k < xs.length
  · exact val_take_succ hk
  · rw [List.take_of_length_le (by omega), List.take_of_length_le (by omega), List.getD_eq_getElem?_getD, List.getElem?_eq_none (by omega)]; simp
theorem getD_over (xs : List Nat) {k : Nat} (hk : xs.length ≤ k) : xs.getD k 0 = 0 := by
  rw [List.getD_eq_getElem?_getD, List.getElem?_eq_none hk]; rfl
theorem digList_congr {F G : Nat → Nat} {n : Nat} (h : ∀ j, j < n → F j = G j) : digList F n = digList G n := by
  unfold digList
  exact List.map_congr_left fun j hj => h j (List.mem_range.1 hj)

/-- Carries and digits of a sum. -/
def cr (xs ys : List Nat) : Nat → Nat
  | 0 => 0
  | j + 1 => (cr xs ys j + xs.getD j 0 + ys.getD j 0) / 4294967296
def sumD (xs ys : List Nat) (j : Nat) : Nat := (cr xs ys j + xs.getD j 0 + ys.getD j 0) % 4294967296
theorem cr_le {xs ys : List Nat} (hx : Dg xs) (hy : Dg ys) : ∀ j, cr xs ys j ≤ 1
  | 0 => by simp [cr]
  | j + 1 => by
    have := cr_le hx hy j
    have := hx.getD j
    have := hy.getD j
    simp only [cr]; omega
theorem sum_val (xs ys : List Nat) : ∀ k, val (digList (sumD xs ys) k) + 4294967296 ^ k * cr xs ys k = val (xs.take k) + val (ys.take k)
  | 0 => by simp [cr, digList, val]
  | k + 1 => by
    have h := sum_val xs ys k
    rw [val_digList_succ, val_take_over, val_take_over, Nat.pow_succ]
    have e : sumD xs ys k + 4294967296 * cr xs ys (k + 1) = cr xs ys k + xs.getD k 0 + ys.getD k 0 := by
      simp only [sumD, cr]; omega
    have h2 : 4294967296 ^ k * sumD xs ys k + 4294967296 ^ k * 4294967296 * cr xs ys (k + 1) = 4294967296 ^ k * cr xs ys k + 4294967296 ^ k * xs.getD k 0 + 4294967296 ^ k * ys.getD k 0 := by
      rw [Nat.mul_assoc, ← Nat.mul_add, e, Nat.mul_add, Nat.mul_add]
    omega
theorem sum_all {xs ys : List Nat} (hx : Dg xs) (hy : Dg ys) (hl : ys.length ≤ xs.length) : val (digList (sumD xs ys) (xs.length + 1)) = val xs + val ys := by
  have h := sum_val xs ys xs.length
  rw [List.take_of_length_le (Nat.le_refl _), List.take_of_length_le hl] at h
  rw [val_digList_succ, ← h]
  have : sumD xs ys xs.length = cr xs ys xs.length := by
    have := cr_le hx hy xs.length
    simp only [sumD]; rw [getD_over xs (Nat.le_refl _), getD_over ys hl]; omega
  rw [this]

/-- Borrows and digits of a difference. -/
def bw (xs ys : List Nat) : Nat → Nat
  | 0 => 0
  | j + 1 => if xs.getD j 0 < bw xs ys j + ys.getD j 0 then 1 else 0
theorem bw_le (xs ys : List Nat) : ∀ j, bw xs ys j ≤ 1
  | 0 => by simp [bw]
  | j + 1 => by simp only [bw]; split <;> omega
def difD (xs ys : List Nat) (j : Nat) : Nat := xs.getD j 0 + 4294967296 * bw xs ys (j + 1) - (bw xs ys j + ys.getD j 0)
theorem difD_lt {xs ys : List Nat} (hx : Dg xs) (_ : Dg ys) (j : Nat) : difD xs ys j < 4294967296 := by
  have := hx.getD j
  have := bw_le xs ys j
  simp only [difD, bw]; split <;> omega
theorem difD_eq {xs ys : List Nat} (hy : Dg ys) (j : Nat) : difD xs ys j + (bw xs ys j + ys.getD j 0) = xs.getD j 0 + 4294967296 * bw xs ys (j + 1) := by
  have := hy.getD j
  have := bw_le xs ys j
  simp only [difD, bw]; split <;> omega
theorem dif_val {xs ys : List Nat} (hy : Dg ys) : ∀ k, val (digList (difD xs ys) k) + val (ys.take k) = val (xs.take k) + 4294967296 ^ k * bw xs ys k
  | 0 => by simp [bw, digList, val]
  | k + 1 => by
    have h := dif_val (xs := xs) hy k
    rw [val_digList_succ, val_take_over, val_take_over, Nat.pow_succ]
    have e := difD_eq (xs := xs) hy k
    have h2 : 4294967296 ^ k * difD xs ys k + 4294967296 ^ k * bw xs ys k + 4294967296 ^ k * ys.getD k 0 = 4294967296 ^ k * xs.getD k 0 + 4294967296 ^ k * 4294967296 * bw xs ys (k + 1) := by
      rw [Nat.mul_assoc, ← Nat.mul_add, ← Nat.mul_add, ← Nat.mul_add, ← e]; congr 1; omega
    omega
theorem dif_all {xs ys : List Nat} (hx : Dg xs) (hy : Dg ys) (hl : ys.length ≤ xs.length) (h : val ys ≤ val xs) : val (digList (difD xs ys) xs.length) = val xs - val ys := by
  have h1 := dif_val (xs := xs) hy xs.length
  rw [List.take_of_length_le (Nat.le_refl _), List.take_of_length_le hl] at h1
  have h2 := val_digList_lt (F := difD xs ys) (difD_lt hx hy) xs.length
  have h3 := bw_le xs ys xs.length
  obtain h4 | h4 : bw xs ys xs.length = 0 ∨ bw xs ys xs.length = 1 := by omega
  · rw [h4] at h1; omega
  · rw [h4] at h1; omega

/-- One step of a row of a product. -/
theorem mul_step {F G : Nat → Nat} {V i k a b c c' : Nat} (h : val (digList F (i + k)) + 4294967296 ^ (i + k) * c = val (digList G (i + k)) + 4294967296 ^ i * (a * V))
    (hs : F (i + k) + 4294967296 * c' = a * b + G (i + k) + c) :
    val (digList F (i + k + 1)) + 4294967296 ^ (i + k + 1) * c' = val (digList G (i + k + 1)) + 4294967296 ^ i * (a * (V + 4294967296 ^ k * b)) := by
  rw [val_digList_succ, val_digList_succ, Nat.pow_succ]
  have h2 : 4294967296 ^ (i + k) * F (i + k) + 4294967296 ^ (i + k) * 4294967296 * c' = 4294967296 ^ (i + k) * (a * b) + 4294967296 ^ (i + k) * G (i + k) + 4294967296 ^ (i + k) * c := by
    rw [Nat.mul_assoc, ← Nat.mul_add, hs, Nat.mul_add, Nat.mul_add]
  have h3 : 4294967296 ^ i * (a * (V + 4294967296 ^ k * b)) = 4294967296 ^ i * (a * V) + 4294967296 ^ (i + k) * (a * b) := by
    rw [Nat.mul_add, Nat.mul_add, Nat.pow_add]
    congr 1
    rw [Nat.mul_left_comm a, Nat.mul_assoc]
  omega
theorem mul_row {F G : Nat → Nat} {X V i m a c : Nat} (h : val (digList F (i + m)) + 4294967296 ^ (i + m) * c = val (digList G (i + m)) + 4294967296 ^ i * (a * V))
    (hG : val (digList G (i + m)) = X * V) (hF : F (i + m) = c) : val (digList F (i + 1 + m)) = (X + 4294967296 ^ i * a) * V := by
  rw [show i + 1 + m = i + m + 1 from by omega, val_digList_succ, hF, h, hG, Nat.add_mul, Nat.mul_assoc]
/-- One step of short division. -/
theorem short_step {r x y n q Q V : Nat} (hV : V = Q * y + r) (hn : n = r * 4294967296 + x) (hq : q = n / y) : x + 4294967296 * V = (q + 4294967296 * Q) * y + n % y := by
  subst hV hq
  have := Nat.div_add_mod n y
  rw [Nat.add_mul, Nat.mul_add, Nat.mul_assoc, Nat.mul_comm (n / y) y]
  omega
theorem val_drop_digList {F : Nat → Nat} {n k : Nat} (hk : k < n) : val ((digList F n).drop k) = F k + 4294967296 * val ((digList F n).drop (k + 1)) := by
  rw [val_drop (by rw [digList_len]; exact hk), digList_getD F hk]
end Go.Proofs.Ytcafeffgaokiaaa

namespace Go.Proofs.Ytcafeffgaokiaaa
open Go.RowKit

set_option maxRecDepth 100000 in
set_option maxHeartbeats 4000000 in
theorem add_core (sw : Bool) (xs ys : List Nat) (p q : Option Addr) (c d : Nat) (w : World) (hX : NatsAt w p xs) (hY : NatsAt w q ys) (hdx : Dg xs) (hdy : Dg ys)
    (hl : ys.length ≤ xs.length) (hsw : sw = true → ys.length < xs.length) (hx : xs.length ≤ 200000000) {v : Nat} (hv : val xs + val ys = v) :
    Calls Try.prog 129 (bif sw then #[.slice q ys.length d, .slice p xs.length c] else #[.slice p xs.length c, .slice q ys.length d]) w (RetNat v w) := by
  have hmk := make_nats .i64 .i64 (xs.length + 1) (by omega)
  simp only [Int.natCast_add, Int.cast_ofNat_Int] at hmk
  have HX := Lib.hid hX
  have HY := Lib.hid hY
  have hsum := Lib.hid (sum_all hdx hdy hl)
  have hD := Lib.hid hdx
  have hE := Lib.hid hdy
  rw [hv] at hsum
  clear hX hY hdx hdy hv
  cases sw
  case' true =>
    have hlt := hsw rfl
    simp only [cond_true]
  case' false =>
    simp only [cond_false]
  all_goals
    clear hsw
    go_enter Try.func129, Try.ntmps129
    go_wp2
    go_loopw [6, 22] (fun cv v wr => ∃ i : Nat, i ≤ xs.length ∧ v = .int .i64 i ∧ cv = .int .u64 (cr xs ys i : Nat) ∧ Below w.heap.size w wr ∧ Hid (DigBlk wr w.heap.size (fun j => if j < i then sumD xs ys j else 0) (xs.length + 1))) (fun _ v _ => xs.length - (intOf v).toNat)
    case atStart =>
      refine ⟨0, by omega, rfl, rfl, (Below.refl _ _).alloc (by simp) _, Lib.hid ?_⟩
      exact (DigBlk.new w (xs.length + 1)).congr fun j _ => rfl
    case round =>
      clear hmk
      obtain ⟨i, hi, rfl, rfl, hb, hB⟩ := hrel
      have Hb := Lib.hid hb
      clear hb
      by_cases hlt : i < xs.length
      · obtain ⟨b, off, rfl, hbl, hcell⟩ := NatsAt.cells HX.out (k := i) hlt
        have hx1 := hcell i hlt
        rw [← Hb.out.cell (p := ⟨b, _, none⟩) hbl] at hx1
        obtain ⟨x, hxe⟩ : ∃ x, xs.getD i 0 = x := ⟨_, rfl⟩
        rw [hxe] at hx1
        have hxl : x < 4294967296 := by rw [← hxe]; exact hD.out.getD i
        have hcr := cr_le hD.out hE.out i
        obtain ⟨y, hye⟩ : ∃ y, ys.getD i 0 = y := ⟨_, rfl⟩
        have hyl : y < 4294967296 := by rw [← hye]; exact hE.out.getD i
        obtain ⟨k, hk⟩ : ∃ k, cr xs ys i = k := ⟨_, rfl⟩
        have hk1 : cr xs ys (i + 1) = (k + x + y) / 4294967296 := by simp only [cr]; rw [hk, hxe, hye]
        have hs1 : sumD xs ys i = (k + x + y) % 4294967296 := by simp only [sumD]; rw [hk, hxe, hye]
        rw [hk] at hcr ⊢
        have hc0 := hB.out.cell (show i < xs.length + 1 by omega)
        simp only [Nat.lt_irrefl, if_false] at hc0
        have hf := hB.out.frozen i
        have i1 : (i : Int) < (xs.length : Int) + 1 := by omega
        have hstep : ∀ j, (if j = i then sumD xs ys i else (if j < i then sumD xs ys j else 0)) = (if j < i + 1 then sumD xs ys j else 0) := fun j => by
          by_cases h1 : j = i
          · subst h1; rw [if_pos rfl, if_pos (by omega)]
          · rw [if_neg h1]
            by_cases h2 : j < i
            · rw [if_pos h2, if_pos (by omega)]
            · rw [if_neg h2, if_neg (by omega)]
        have Hstep := Lib.hid hstep
        clear hstep
        obtain ⟨S, hS⟩ : ∃ S, sumD xs ys i = S := ⟨_, rfl⟩
        obtain ⟨C, hC⟩ : ∃ C, cr xs ys (i + 1) = C := ⟨_, rfl⟩
        have HS := Lib.hid hS
        have HC := Lib.hid hC
        rw [hS] at hs1
        rw [hC] at hk1
        have Hxe := Lib.hid hxe
        clear hcell hxe hk hS hC
        by_cases hly : i < ys.length
        · obtain ⟨b2, off2, rfl, hbl2, hcell2⟩ := NatsAt.cells HY.out (k := i) hly
          have hy1 := hcell2 i hly
          rw [← Hb.out.cell (p := ⟨b2, _, none⟩) hbl2, hye] at hy1
          have e1 : ((x : Int) + (k : Int) + (y : Int)) % 4294967296 = (S : Int) := by omega
          have e2 : ((x : Int) + (k : Int) + (y : Int)) / 4294967296 = (C : Int) := by omega
          clear hcell2 hye hk1 hs1
          go_wp2
          go_roundw
          case rel =>
            refine ⟨i + 1, by omega, by go_num, by rw [HC.out], Hb.out.setCell (p := ⟨w.heap.size, i, none⟩) (by simp) _, Lib.hid ?_⟩
            exact (hB.out.set (j := i) S).congr fun j _ => by rw [← Hstep.out j, HS.out]
          case measure => simp [intOf]; omega
        · have hy0 : y = 0 := by rw [← hye]; exact getD_over ys (by omega)
          subst hy0
          have e1 : ((x : Int) + (k : Int)) % 4294967296 = (S : Int) := by omega
          have e2 : ((x : Int) + (k : Int)) / 4294967296 = (C : Int) := by omega
          clear hye hk1 hs1
          go_wp2
          go_roundw
          case rel =>
            refine ⟨i + 1, by omega, by go_num, by rw [HC.out], Hb.out.setCell (p := ⟨w.heap.size, i, none⟩) (by simp) _, Lib.hid ?_⟩
            exact (hB.out.set (j := i) S).congr fun j _ => by rw [← Hstep.out j, HS.out]
          case measure => simp [intOf]; omega
      · obtain rfl : i = xs.length := by omega
        have hcr := cr_le hD.out hE.out xs.length
        have hlast : sumD xs ys xs.length = cr xs ys xs.length := by
          simp only [sumD]; rw [getD_over xs (Nat.le_refl _), getD_over ys hl]; omega
        have Hlast := Lib.hid hlast
        have hc0 := hB.out.cell (show xs.length < xs.length + 1 by omega)
        simp only [Nat.lt_irrefl, if_false] at hc0
        have hf := hB.out.frozen xs.length
        obtain ⟨C, hC⟩ : ∃ C, cr xs ys xs.length = C := ⟨_, rfl⟩
        rw [hC] at hcr ⊢
        have HC := Lib.hid hC
        clear hlast hC
        go_wp2_with (go_at_call 106; refine (trim_blk (F := sumD xs ys) (w0 := w) (v := v) (DigBlk.congr (hB.out.set (j := xs.length) C) ?_) ?_ ?_ (Hb.out.setCell (by simp) _) hsum.out).mono ?_)
        · intro j hj
          by_cases h1 : j = xs.length
          · subst h1; rw [if_pos rfl, Hlast.out, HC.out]
          · rw [if_neg h1, if_pos (by omega)]
        · exact fun j _ => Nat.mod_lt _ (by decide)
        · omega
        · rintro e w2 ⟨p2, c2, rfl, hN, hc1, hc2, hb2⟩
          have HN := Lib.hid hN
          have Hb2 := Lib.hid hb2
          clear hN hb2
          go_wp2
          go_ret
          exact ⟨p2, c2, rfl, HN.out, hc1, hc2, Hb2.out⟩
theorem add_any (m n : Nat) (p q : Option Addr) (c d : Nat) (w : World) (hX : NatsAt w p (digs m)) (hY : NatsAt w q (digs n)) (hm : (digs m).length ≤ 200000000) (hn : (digs n).length ≤ 200000000) :
    Calls Try.prog 129 #[.slice p (digs m).length c, .slice q (digs n).length d] w (RetNat (m + n) w) := by
  by_cases h : (digs m).length < (digs n).length
  · exact add_core true (digs n) (digs m) q p d c w hY hX (dg_digs n) (dg_digs m) (by omega) (fun _ => h) hn (by rw [val_digs, val_digs]; omega)
  · exact add_core false (digs m) (digs n) p q c d w hX hY (dg_digs m) (dg_digs n) (by omega) (fun h => by cases h) hm (by rw [val_digs, val_digs])
end Go.Proofs.Ytcafeffgaokiaaa

namespace Go.Proofs.Ytcafeffgaokiaaa
open Go.RowKit

theorem stepF (G : Nat → Nat) (i : Nat) (j : Nat) : (if j = i then G i else (if j < i then G j else 0)) = (if j < i + 1 then G j else 0) := by
  by_cases h1 : j = i
  · subst h1; rw [if_pos rfl, if_pos (by omega)]
  · rw [if_neg h1]
    by_cases h2 : j < i
    · rw [if_pos h2, if_pos (by omega)]
    · rw [if_neg h2, if_neg (by omega)]

set_option maxRecDepth 100000 in
set_option maxHeartbeats 4000000 in
theorem subtract_core (xs ys : List Nat) (p q : Option Addr) (c d : Nat) (w : World) (hX : NatsAt w p xs) (hY : NatsAt w q ys) (hdx : Dg xs) (hdy : Dg ys)
    (hl : ys.length ≤ xs.length) (hle : val ys ≤ val xs) (hx : xs.length ≤ 200000000) {v : Nat} (hv : val xs - val ys = v) :
    Calls Try.prog 130 #[.slice p xs.length c, .slice q ys.length d] w (RetNat v w) := by
  have hmk := make_nats .i64 .i64 xs.length (by omega)
  have HX := Lib.hid hX
  have HY := Lib.hid hY
  have hsum := Lib.hid (dif_all hdx hdy hl hle)
  have hD := Lib.hid hdx
  have hE := Lib.hid hdy
  rw [hv] at hsum
  clear hX hY hdx hdy hv hle
  go_enter Try.func130, Try.ntmps130
  go_wp2
  go_loopw [6, 14] (fun cv v wr => ∃ i : Nat, i ≤ xs.length ∧ v = .int .i64 i ∧ cv = .int .i64 (bw xs ys i : Nat) ∧ Below w.heap.size w wr ∧ Hid (DigBlk wr w.heap.size (fun j => if j < i then difD xs ys j else 0) xs.length)) (fun _ v _ => xs.length - (intOf v).toNat)
  case atStart =>
    refine ⟨0, by omega, rfl, rfl, (Below.refl _ _).alloc (by simp) _, Lib.hid ?_⟩
    exact (DigBlk.new w xs.length).congr fun j _ => rfl
  case round =>
    clear hmk
    obtain ⟨i, hi, rfl, rfl, hb, hB⟩ := hrel
    have Hb := Lib.hid hb
    clear hb
    by_cases hlt : i < xs.length
    · obtain ⟨b, off, rfl, hbl, hcell⟩ := NatsAt.cells HX.out (k := i) hlt
      have hx1 := hcell i hlt
      rw [← Hb.out.cell (p := ⟨b, _, none⟩) hbl] at hx1
      have hbw := bw_le xs ys i
      have heq := difD_eq (xs := xs) hE.out i
      have hSl := difD_lt hD.out hE.out i
      have hbe : bw xs ys (i + 1) = if xs.getD i 0 < bw xs ys i + ys.getD i 0 then 1 else 0 := rfl
      obtain ⟨x, hxe⟩ : ∃ x, xs.getD i 0 = x := ⟨_, rfl⟩
      have hxl : x < 4294967296 := by rw [← hxe]; exact hD.out.getD i
      obtain ⟨y, hye⟩ : ∃ y, ys.getD i 0 = y := ⟨_, rfl⟩
      have hyl : y < 4294967296 := by rw [← hye]; exact hE.out.getD i
      obtain ⟨k, hk⟩ : ∃ k, bw xs ys i = k := ⟨_, rfl⟩
      obtain ⟨S, hS⟩ : ∃ S, difD xs ys i = S := ⟨_, rfl⟩
      obtain ⟨C, hC⟩ : ∃ C, bw xs ys (i + 1) = C := ⟨_, rfl⟩
      rw [hxe] at hx1
      rw [hk, hye, hxe, hS, hC] at heq
      rw [hk, hye, hxe, hC] at hbe
      rw [hS] at hSl
      rw [hk] at hbw ⊢
      have hc0 := hB.out.cell hlt
      simp only [Nat.lt_irrefl, if_false] at hc0
      have hf := hB.out.frozen i
      have HS := Lib.hid hS
      have HC := Lib.hid hC
      have Hxe := Lib.hid hxe
      clear hcell hxe hk hS hC
      by_cases hly : i < ys.length
      · obtain ⟨b2, off2, rfl, hbl2, hcell2⟩ := NatsAt.cells HY.out (k := i) hly
        have hy1 := hcell2 i hly
        rw [← Hb.out.cell (p := ⟨b2, _, none⟩) hbl2, hye] at hy1
        by_cases hneg : x < k + y
        · rw [if_pos hneg] at hbe
          have e1 : (x : Int) - (k : Int) - (y : Int) + 4294967296 = (S : Int) := by omega
          have e2 : (S : Int) % 4294967296 = (S : Int) := by omega
          have e3 : (x : Int) - (k : Int) - (y : Int) < 0 := by omega
          clear hcell2 hye heq
          go_wp2
          go_roundw
          case rel =>
            refine ⟨i + 1, by omega, by go_num, by rw [HC.out, hbe]; rfl, Hb.out.setCell (p := ⟨w.heap.size, i, none⟩) (by simp) _, Lib.hid ?_⟩
            exact (hB.out.set (j := i) S).congr fun j _ => by rw [← stepF, HS.out]
          case measure => simp [intOf]; omega
        · rw [if_neg hneg] at hbe
          have e1 : (x : Int) - (k : Int) - (y : Int) = (S : Int) := by omega
          have e2 : (S : Int) % 4294967296 = (S : Int) := by omega
          have e3 : ¬ (S : Int) < 0 := by omega
          clear hcell2 hye heq
          go_wp2
          go_roundw
          case rel =>
            refine ⟨i + 1, by omega, by go_num, by rw [HC.out, hbe]; rfl, Hb.out.setCell (p := ⟨w.heap.size, i, none⟩) (by simp) _, Lib.hid ?_⟩
            exact (hB.out.set (j := i) S).congr fun j _ => by rw [← stepF, HS.out]
          case measure => simp [intOf]; omega
      · have hy0 : y = 0 := by rw [← hye]; exact getD_over ys (by omega)
        subst hy0
        by_cases hneg : x < k
        · rw [if_pos (by omega)] at hbe
          have e1 : (x : Int) - (k : Int) + 4294967296 = (S : Int) := by omega
          have e2 : (S : Int) % 4294967296 = (S : Int) := by omega
          have e3 : (x : Int) - (k : Int) < 0 := by omega
          clear hye heq
          go_wp2
          go_roundw
          case rel =>
            refine ⟨i + 1, by omega, by go_num, by rw [HC.out, hbe]; rfl, Hb.out.setCell (p := ⟨w.heap.size, i, none⟩) (by simp) _, Lib.hid ?_⟩
            exact (hB.out.set (j := i) S).congr fun j _ => by rw [← stepF, HS.out]
          case measure => simp [intOf]; omega
        · rw [if_neg (by omega)] at hbe
          have e1 : (x : Int) - (k : Int) = (S : Int) := by omega
          have e2 : (S : Int) % 4294967296 = (S : Int) := by omega
          have e3 : ¬ (S : Int) < 0 := by omega
          clear hye heq
          go_wp2
          go_roundw
          case rel =>
            refine ⟨i + 1, by omega, by go_num, by rw [HC.out, hbe]; rfl, Hb.out.setCell (p := ⟨w.heap.size, i, none⟩) (by simp) _, Lib.hid ?_⟩
            exact (hB.out.set (j := i) S).congr fun j _ => by rw [← stepF, HS.out]
          case measure => simp [intOf]; omega
    · obtain rfl : i = xs.length := by omega
      go_wp2_with (go_at_call 106; refine (trim_blk (F := difD xs ys) (w0 := w) (v := v) (DigBlk.congr hB.out ?_) ?_ ?_ Hb.out hsum.out).mono ?_)
      · intro j hj
        simp only [hj, if_true]
      · exact fun j _ => difD_lt hD.out hE.out j
      · omega
      · rintro e w2 ⟨p2, c2, rfl, hN, hc1, hc2, hb2⟩
        have HN := Lib.hid hN
        have Hb2 := Lib.hid hb2
        clear hN hb2
        go_wp2
        go_ret
        exact ⟨p2, c2, rfl, HN.out, hc1, hc2, Hb2.out⟩
theorem digs_len_le {m n : Nat} (h : m ≤ n) : (digs m).length ≤ (digs n).length := by
  apply Nat.le_of_not_lt
  intro hlt
  have := digs_lt hlt
  omega
theorem subtract_any (m n : Nat) (p q : Option Addr) (c d : Nat) (w : World) (hX : NatsAt w p (digs m)) (hY : NatsAt w q (digs n)) (hm : (digs m).length ≤ 200000000) (hle : n ≤ m) :
    Calls Try.prog 130 #[.slice p (digs m).length c, .slice q (digs n).length d] w (RetNat (m - n) w) :=
  subtract_core (digs m) (digs n) p q c d w hX hY (dg_digs m) (dg_digs n) (digs_len_le hle) (by rw [val_digs, val_digs]; exact hle) hm (by rw [val_digs, val_digs])
end Go.Proofs.Ytcafeffgaokiaaa
