/- The walk of marker.Remove. -/
import Derived.Test.YtlkajmdcffemeaaIns
namespace Go.Proofs.Ytlkajmdcffemeaa
open Go.RowKit

/-- What the parts hold ahead of their markers. -/
def remL (b : Nat) (xs : List ByteArray) : List UInt8 := xs.flatMap fun x => (x.extract 0 b).data.toList
def remOk (b : Nat) (m : ByteArray) (xs : List ByteArray) : Bool := xs.all fun x => decide (x.extract b x.size = m)
theorem remL_succ {b : Nat} {xs : List ByteArray} {k : Nat} (h : k < xs.length) : remL b (xs.take (k + 1)) = remL b (xs.take k) ++ ((xs.getD k ByteArray.empty).extract 0 b).data.toList := by
  unfold remL
  rw [List.take_succ_eq_append_getElem h, List.flatMap_append]
  simp [List.getD_eq_getElem?_getD, h]
theorem remL_len (b : Nat) (hb : b ≤ 100) (xs : List ByteArray) : (remL b xs).length ≤ 100 * xs.length := by
  induction xs with
  | nil => simp [remL]
  | cons x xs ih =>
    have e : remL b (x :: xs) = (x.extract 0 b).data.toList ++ remL b xs := rfl
    have e2 : (x.extract 0 b).data.toList.length = (x.extract 0 b).size := by rw [Array.length_toList]; rfl
    rw [e, List.length_append, e2, ByteArray.size_extract, List.length_cons]
    omega
/-- The error of Remove, and what it returns. -/
def remErr (b : Int) (m s : ByteArray) : Int := if mkErr b m.data.toList s.data.toList ≠ 0 then mkErr b m.data.toList s.data.toList else if s.size % (b.toNat + m.size) ≠ 0 then 11 else if remOk b.toNat m (chunksW (b.toNat + m.size) s) then 0 else 11
def remOut (b : Int) (m s : ByteArray) : ByteArray := if remErr b m s = 0 then ⟨(remL b.toNat (chunksW (b.toNat + m.size) s)).toArray⟩ else ⟨#[]⟩
/-- Each part has n letters. -/
theorem chunks_size {n : Nat} (hn : 0 < n) : ∀ f s, s.size % n = 0 → ∀ x ∈ chunks n f s, x.size = n
  | 0, s, _, x, hx => by simp [chunks] at hx
  | f + 1, s, hd, x, hx => by
    simp only [chunks] at hx
    split at hx
    · cases hx
    · rename_i h0
      have hle : n ≤ s.size := Nat.le_of_dvd (by omega) (Nat.dvd_of_mod_eq_zero hd)
      rcases List.mem_cons.1 hx with rfl | hx
      · rw [ByteArray.size_extract]; omega
      · refine chunks_size hn f _ ?_ x hx
        rw [ByteArray.size_extract, Nat.min_self]
        exact Nat.sub_mod_eq_zero_of_mod_eq (by rw [hd, Nat.mod_self])
theorem OwnStrs.others {w w' : World} {B b : Nat} {v : Value} {xs : List ByteArray} (h : OwnStrs w B v xs) (hk : Lib.OthersKept 5 (some b) w w') (hb : b < B) : OwnStrs w' B v xs := by
  refine ⟨h.1, ?_⟩
  rcases h.2 with h2 | ⟨g, cap, cur, hv, hg, hh, r⟩
  · exact .inl h2
  · exact .inr ⟨g, cap, cur, hv, hg, hk g _ hh (by intro e; cases e; omega) (by intro c fz e; injection e with _ e2 _; exact absurd e2 (by decide)), r⟩

set_option maxRecDepth 100000 in
set_option maxHeartbeats 4000000 in
theorem Remove_any (b : Int) (m s : ByteArray) (hm : m.size ≤ maxLen) (hs : s.size ≤ maxLen) (w : World) :
    Calls Try.prog 17 #[.int .i64 b, .string m, .string s] w fun e w' => e = .returned (.tuple #[.string (remOut b m s), .int .i64 (remErr b m s)]) ∧ Below w.heap.size w w' := by
  have Hc := Lib.hid (check_mk b m s hm hs)
  obtain ⟨E, hE⟩ : ∃ E, mkErr b m.data.toList s.data.toList = E := ⟨_, rfl⟩
  rw [hE] at Hc
  by_cases hz : E = 0
  · have hz2 : (E != 0) = false := by rw [hz]; rfl
    obtain ⟨⟨hb1, hb2⟩, ⟨hm1, hm2⟩, hs2⟩ := mkErr_ok (hE.trans hz)
    obtain ⟨n, rfl⟩ : ∃ n : Nat, b = n := ⟨b.toNat, by omega⟩
    obtain ⟨q, hq⟩ : ∃ q, n + m.size = q := ⟨_, rfl⟩
    have hqI : (n : Int) + (m.size : Int) = (q : Int) := by omega
    have hie : remErr n m s = if s.size % q ≠ 0 then 11 else if remOk n m (chunksW q s) then 0 else 11 := by unfold remErr; rw [hE, if_neg (fun h => h hz), Int.toNat_natCast, hq]
    have hio : remOut n m s = if remErr n m s = 0 then ⟨(remL n (chunksW q s)).toArray⟩ else ⟨#[]⟩ := by unfold remOut; rw [Int.toNat_natCast, hq]
    have hq1 : 0 < q := by omega
    have hq2 : q ≤ 32 := by omega
    by_cases hr : s.size % q = 0
    · have hrI : (((s.size : Int) % (q : Int)) != 0) = false := by rw [bne_eq_false_iff_eq]; omega
      rw [if_neg (fun h => h hr)] at hie
      have Hcut := Lib.hid (cut_any q s hq1 (by omega) (by omega) hr)
      have hcl : (chunksW q s).length ≤ 65536 := by
        have := chunks_len q hq1 s.size s
        unfold chunksW
        omega
      have Hsz := Lib.hid (show ∀ x ∈ chunksW q s, x.size = q from chunks_size hq1 _ _ hr)
      generalize chunksW q s = L at *
      have Hie := Lib.hid hie
      have Hio := Lib.hid hio
      have Hq := Lib.hid hq
      clear hz hE hm hs hr hie hio hq
      generalize remErr n m s = RE at *
      generalize remOut n m s = RO at *
      go_enter Try.func17, Try.ntmps17
      go_wp2_with (go_at_call 40; go_fit (Hc.out _); rintro e w1 ⟨rfl, hd⟩; have Hd := Lib.hid hd; clear hd)
      refine (Hcut.out _).mono ?_
      rintro e w2 ⟨v, rfl, ho, hb⟩
      have HI0 := Lib.hid (show Lib.IsBuilder 71 5 w1.heap.size w1.heap.size [] w2 by
        obtain ⟨hB, v0, hbk, hown, hne⟩ := (show Lib.BuilderAt 71 5 w1.heap.size w1.heap.size (.pointer none) [] _ from ⟨Nat.le_refl _, .slice none 0 0, heap_alloc_new w1 _, World.ownsRow_nil _ _ _ _, by simp [Value.ownBlock]⟩)
        exact .inl ⟨hB, .slice none 0 0, (hb.block w1.heap.size (by simp)).trans (heap_alloc_new w1 _), World.ownsRow_nil _ _ _ _, by simp [Value.ownBlock]⟩)
      have Hw2 := Lib.hid (show Below w1.heap.size w1 w2 from ((Below.refl _ _).alloc (Nat.le_refl _) _).trans (hb.mono (by simp)))
      have Ho := Lib.hid (show OwnStrs w2 (w1.heap.size + 1) v L by simpa using ho)
      obtain ⟨p, c, rfl, _, _, _⟩ := ho.form
      clear ho hb
      go_wp2_with fail
      go_loopw [34] (fun i wr => ∃ k : Nat, k ≤ L.length ∧ i = .int .i64 k ∧ Below w1.heap.size w1 wr ∧ Hid (OwnStrs wr (w1.heap.size + 1) (.slice p L.length c) L) ∧ Hid (Lib.IsBuilder 71 5 w1.heap.size w1.heap.size (Lib.byteCells (remL n (L.take k))) wr) ∧ Hid (remOk n m (L.take k) = true)) (fun i _ => L.length - (intOf i).toNat)
      case atStart => exact ⟨0, by omega, rfl, Hw2.out, Ho, HI0, Lib.hid rfl⟩
      case round =>
        obtain ⟨k, hk, rfl, hb, Hown, hI, hok⟩ := hrel
        by_cases hlt : k < L.length
        · obtain ⟨p', c', hpe, _, hS, _⟩ := Hown.out.form
          injection hpe with e1 e2 e3
          subst e1 e3
          obtain ⟨bb, off, rfl, hbl, hcell⟩ := StrsAt.cells hS hlt
          have hx1 := hcell k hlt
          obtain ⟨x, hxe⟩ : ∃ x, L.getD k ByteArray.empty = x := ⟨_, rfl⟩
          rw [hxe] at hx1
          have hxs : x.size = q := by
            rw [← hxe, List.getD_eq_getElem?_getD, List.getElem?_eq_getElem hlt]
            exact Hsz.out _ (List.getElem_mem hlt)
          have htk := Lib.hid (remL_succ (b := n) hlt)
          have hokn : remOk n m (L.take (k + 1)) = decide (x.extract n x.size = m) := by
            have h1 := hok.out
            unfold remOk at h1 ⊢
            rw [List.take_succ_eq_append_getElem hlt, List.all_append, h1, Bool.true_and]
            rw [← hxe, List.getD_eq_getElem?_getD, List.getElem?_eq_getElem hlt]
            simp
          have hiI : (k : Int) < (L.length : Int) := by omega
          have hnx : (n : Int) ≤ (x.size : Int) := by have := Hq.out; omega
          have hnx2 : n ≤ x.size := by omega
          have Hxe := Lib.hid hxe
          have Hxs := Lib.hid hxs
          have Hb := Lib.hid hb
          have hsz := hb.size
          clear hcell hxe hxs hb hS
          cases hc : decide (x.extract n x.size = m)
          · have hcl : ((x.extract n x.size).toList == m.toList) = false := by
              rw [decide_eq_false_iff_not] at hc
              rw [beq_eq_false_iff_ne]
              intro h; apply hc
              rw [ByteArray.toList_eq, ByteArray.toList_eq] at h
              exact ByteArray.ext (Array.ext' h)
            have hall : remOk n m L = false := by
              rw [hc] at hokn
              unfold remOk at hokn ⊢
              rw [Bool.eq_false_iff] at hokn ⊢
              intro h; apply hokn
              rw [List.all_eq_true] at h ⊢
              exact fun y hy => h y (List.mem_of_mem_take hy)
            have hre : RE = 11 := by rw [Hie.out, hall]; rfl
            have hro : RO = ⟨#[]⟩ := by rw [Hio.out, hre]; rfl
            have HRE := Lib.hid hre
            have HRO := Lib.hid hro
            clear hc hokn hall hre hro
            go_wp2
            go_ret2
            exact ⟨by rw [HRE.out, HRO.out]; rfl, (Drawn.below Hd.out _).trans (Hb.out.mono (by rw [Drawn.heap Hd.out]; exact Nat.le_refl _))⟩
          · have hcl : ((x.extract n x.size).toList == m.toList) = true := by
              rw [decide_eq_true_eq] at hc
              rw [beq_iff_eq, hc]
            have Hokn := Lib.hid (show remOk n m (L.take (k + 1)) = true by rw [hokn, hc])
            have hlen : (remL n (L.take k)).length + (x.extract 0 n).size ≤ 100000000 := by
              have h1 := remL_len n (by omega) (L.take k)
              have h2 := List.length_take_le k L
              have h3 := Hxs.out
              rw [ByteArray.size_extract]
              omega
            clear hc hokn
            go_wp2_with fail
            refine (writeString_k w1.heap.size w1.heap.size (Lib.byteCells (remL n (L.take k))) (x.extract 0 n) _ hI.out (by rw [Lib.byteCells_length]; omega) hsz).mono ?_
            rintro e w3 ⟨rfl, hI3, hb3, hk3⟩
            have HI3 := Lib.hid hI3
            have Hb3 := Lib.hid (Hb.out.trans hb3)
            have Ho3 := Lib.hid (OwnStrs.others Hown.out hk3 (Nat.lt_succ_self _))
            clear hI3 hb3 hk3
            go_wp2
            go_roundw
            case rel => exact ⟨k + 1, by omega, by go_num, Hb3.out, Ho3, Lib.hid (by rw [htk.out, Hxe.out]; simpa [Lib.byteCells, Lib.strCells] using HI3.out), Hokn⟩
            case measure => simp [intOf]; omega
        · have hkI : ¬ (k : Int) < (L.length : Int) := by omega
          have hok2 := hok.out
          rw [List.take_of_length_le (by omega)] at hok2
          have hre : RE = 0 := by rw [Hie.out, hok2]; rfl
          have hro : RO = ⟨(remL n L).toArray⟩ := by rw [Hio.out, hre]; rfl
          have HRE := Lib.hid hre
          have HRO := Lib.hid hro
          have HI2 : Hid (Lib.IsBuilder 71 5 w1.heap.size w1.heap.size (Lib.byteCells (remL n L)) wr) := Lib.hid (by have := hI.out; rwa [List.take_of_length_le (by omega)] at this)
          have Hb := Lib.hid hb
          have hsz := hb.size
          clear hok2 hre hro hb hI hok
          go_wp2_with fail
          refine (Try.Builder_String_any w1.heap.size w1.heap.size (remL n L) _ HI2.out hsz).mono ?_
          rintro e w3 ⟨rfl, hb3⟩
          have Hb3 := Lib.hid (Hb.out.trans hb3)
          clear hb3
          go_wp2
          go_ret2
          exact ⟨by rw [HRE.out, HRO.out]; rfl, (Drawn.below Hd.out _).trans (Hb3.out.mono (by rw [Drawn.heap Hd.out]; exact Nat.le_refl _))⟩
    · have hrI : (((s.size : Int) % (q : Int)) != 0) = true := by rw [bne_iff_ne]; omega
      rw [if_pos hr] at hie
      rw [hie, if_neg (by decide)] at hio
      rw [hie, hio]
      clear hz hE hm hs hie hio hr hq
      go_enter Try.func17, Try.ntmps17
      go_wp2_with (go_at_call 40; go_fit (Hc.out _); rintro e w1 ⟨rfl, hd⟩; have Hd := Lib.hid hd; clear hd)
      go_ret2
      exact ⟨rfl, Drawn.below Hd.out _⟩
  · have hz2 : (E != 0) = true := by rw [bne_iff_ne]; exact hz
    have hie : remErr b m s = E := by unfold remErr; rw [hE, if_pos hz]
    have hio : remOut b m s = ⟨#[]⟩ := by unfold remOut; rw [hie, if_neg hz]
    rw [hie, hio]
    clear hz hE hm hs hie hio
    go_enter Try.func17, Try.ntmps17
    go_wp2_with (go_at_call 40; go_fit (Hc.out _); rintro e w1 ⟨rfl, hd⟩; have Hd := Lib.hid hd; clear hd)
    go_ret2
    exact ⟨rfl, Drawn.below Hd.out _⟩
end Go.Proofs.Ytlkajmdcffemeaa
