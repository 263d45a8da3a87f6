/- The walks of propagation.replaced, propagation.changes, grooveref28.replaced, grooveref12.Same and slices.Equal. -/
import Derived.Test.YtcafeffgaokiaaaK5
import Derived.Deep.QuietTactic
import Derived.BigQuiet
import Derived.WalkSpells
import Derived.WalkLawsBesides
namespace Go.Proofs.Ytcafeffgaokiaaa
open Go.RowKit

/-- A word with another letter at a place. -/
def replS (s : ByteArray) (a c : Nat) : ByteArray := s.extract 0 a ++ ({ data := #[48, 49, 50, 51, 52, 53, 54, 55, 56, 57, 97, 98, 99, 100, 101, 102] } : ByteArray).extract c (c + 1) ++ s.extract (a + 1) s.size

set_option maxHeartbeats 1000000 in
theorem replaced_any (s : ByteArray) (a c : Nat) (ha : a < s.size) (hc : c < 16) (hs : s.size ≤ 9223372036854775806) (w : World) :
    Calls Try.prog 39 #[.string s, .int .i64 a, .int .i64 c] w fun e w' => e = .returned (.string (replS s a c)) ∧ Drawn w w' := by
  have h1 : (0 : Int) ≤ (a : Int) := by omega
  have h2 : (a : Int) < (s.size : Int) := by omega
  have h3 : (0 : Int) ≤ (c : Int) := by omega
  have h4 : (c : Int) < (16 : Int) := by omega
  have h5 : IntKind.i64.wrap ((c : Int) + 1) = (c : Int) + 1 := IntWalk.i64_in _ (by omega)
  have h6 : IntKind.i64.wrap ((a : Int) + 1) = (a : Int) + 1 := IntWalk.i64_in _ (by omega)
  have h7 : ((c : Int) + 1).toNat = c + 1 := by omega
  have h8 : ((a : Int) + 1).toNat = a + 1 := by omega
  go_enter Try.func39, Try.ntmps39
  go_wp2_with fail
  go_quiet (fail)
  go_wp2
  go_ret
  exact ⟨rfl, (Drawn.refl _).drewN _⟩
/-- The places below k at which two lists differ. -/
def diffsK (a b : List Int) (k : Nat) : List Int := ((List.range k).filter fun i => a.getD i 0 != b.getD i 0).map fun (i : Nat) => (i : Int)
/-- The places at which two lists differ. -/
def diffs (a b : List Int) : List Int := diffsK a b (min a.length b.length)
theorem diffsK_len (a b : List Int) (k : Nat) : (diffsK a b k).length ≤ k := by
  unfold diffsK
  rw [List.length_map]
  exact Nat.le_trans (List.length_filter_le _ _) (by simp)
theorem diffsK_hit {a b : List Int} {k : Nat} (h : (a.getD k 0 != b.getD k 0) = true) : diffsK a b (k + 1) = diffsK a b k ++ [(k : Int)] := by
  unfold diffsK; rw [List.range_succ, List.filter_append, List.map_append]
  simp only [List.filter_cons, h, if_true, List.filter_nil, List.map_cons, List.map_nil]
theorem diffsK_miss {a b : List Int} {k : Nat} (h : (a.getD k 0 != b.getD k 0) = false) : diffsK a b (k + 1) = diffsK a b k := by
  unfold diffsK; rw [List.range_succ, List.filter_append, List.map_append]
  simp only [List.filter_cons, h, Bool.false_eq_true, if_false, List.filter_nil, List.map_nil, List.append_nil]

set_option maxHeartbeats 2000000 in
theorem changes_any (a b : List Int) (pa pb : Option Addr) (ca cb : Nat) (w : World) (hA : IntsAt w pa a) (hB : IntsAt w pb b) (hl : b.length = a.length) (hla : a.length < 1000000000000) :
    Calls Try.prog 40 #[.slice pa a.length ca, .slice pb a.length cb] w fun e w' => ∃ v, e = .returned v ∧ OwnInts w' w.heap.size v (diffs a b) ∧ Below w.heap.size w w' := by
  have HA := Lib.hid hA
  have HB := Lib.hid hB
  have HL := Lib.hid hl
  have hD : diffs a b = diffsK a b a.length := by unfold diffs; rw [hl, Nat.min_self]
  have HD := Lib.hid hD
  clear hA hB hl hD
  go_enter Try.func40, Try.ntmps40
  go_wp2
  go_loopw [5, 12] (fun v i wr => ∃ k : Nat, k ≤ a.length ∧ i = .int .i64 k ∧ Below w.heap.size w wr ∧ Hid (OwnInts wr w.heap.size v (diffsK a b k))) (fun _ i _ => a.length - (intOf i).toNat)
  case atStart => exact ⟨0, by omega, rfl, Below.refl _ _, Lib.hid (OwnInts.nil _ _)⟩
  case round =>
    obtain ⟨k, hk, rfl, hd, Hown⟩ := hrel
    by_cases hlt : k < a.length
    · have hltb : k < b.length := by have := HL.out; omega
      obtain ⟨ab, ao, rfl, hab, hca⟩ := IntsAt.cells HA.out hlt
      obtain ⟨bb, bo, rfl, hbb, hcb⟩ := IntsAt.cells HB.out hltb
      have hxa := hca k hlt
      have hxb := hcb k hltb
      rw [← hd.cell (p := ⟨ab, _, none⟩) hab] at hxa
      rw [← hd.cell (p := ⟨bb, _, none⟩) hbb] at hxb
      obtain ⟨x, hx⟩ : ∃ x, a.getD k 0 = x := ⟨_, rfl⟩
      obtain ⟨y, hy⟩ : ∃ y, b.getD k 0 = y := ⟨_, rfl⟩
      rw [hx] at hxa
      rw [hy] at hxb
      have i0 : (0 : Int) ≤ (k : Int) := by omega
      have i1 : (k : Int) < (a.length : Int) := by omega
      have hsz := hd.size
      have hlen := diffsK_len a b k
      have Hd := Lib.hid hd
      have Hx := Lib.hid hx
      have Hy := Lib.hid hy
      clear hca hcb hd hx hy
      cases hne : (x != y)
      · have hv := Lib.hid (diffsK_miss (a := a) (b := b) (k := k) (by rw [Hx.out, Hy.out]; exact hne))
        go_wp2_with fail
        go_quiet (fail)
        go_wp2
        go_roundw
        case rel => exact ⟨k + 1, by omega, by go_num, below_dr Hd.out, Lib.hid (by rw [hv.out]; exact Hown.out.drewN _)⟩
        case measure => simp [intOf]; omega
      · have hv := Lib.hid (diffsK_hit (a := a) (b := b) (k := k) (by rw [Hx.out, Hy.out]; exact hne))
        go_wp2_with fail
        go_quiet (fail)
        go_wp2_with (at_builtin; refine wpList_append_int rfl _ _ rfl w.heap.size _ _ rfl ((Hown.out.drewN _).alloc _) wr.heap.size 1 k rfl ?_ ?_ ?_ ?_)
        · exact cell_new0 _ _ _
        · omega
        · simp; omega
        · intro v' w2 hown2 hgrow
          have Hb4 := Lib.hid (below_append ((below_dr Hd.out).alloc (by simp; omega) _) ((Hown.out.drewN _).alloc _) hgrow (by simp; omega) (Nat.le_refl _))
          have Hown2 := Lib.hid hown2
          clear hown2 hgrow
          go_wp2
          go_roundw
          case rel => exact ⟨k + 1, by omega, by go_num, Hb4.out, Lib.hid (by rw [hv.out]; exact Hown2.out)⟩
          case measure => simp [intOf]; omega
    · have hk' : k = a.length := by omega
      have Hk := Lib.hid hk'
      clear hk'
      go_wp2
      go_ret
      exact ⟨_, rfl, by rw [HD.out, ← Hk.out]; exact Hown.out, hd⟩

end Go.Proofs.Ytcafeffgaokiaaa
