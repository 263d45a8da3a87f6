/- groovelaw03: great, small; grooveref03.Great. -/
import Derived.Test.YtmbamcpndbimaaaGreatDoorJ5
namespace Go.Proofs.YtmbamcpndbimaaaGreatDoor
open Go.RowKit Go.Shelf
set_option maxRecDepth 100000 in
set_option maxHeartbeats 4000000 in
theorem indexFn_p (n : Nat) (p : Option Addr) (c : Nat) (V : Nat → Value) (fid : Nat) (bound : Array Value) (P : Nat → Bool) (w : World) (eg : ∀ args w, (callFunc fid args).run Tryz.prog w = .ok (.enter fid args) w) (hn : n ≤ 1000000000000)
  (hp : SlAt 1 w p n (fun i _ => V i)) (hV : ∀ k, k < n → ∃ q m d, V k = .slice q m d) (hof : ∀ k W, k < n → Below w.heap.size w W → Calls Tryz.prog fid (#[(V k)] ++ bound) W (RetB (P k) W)) :
  Calls Tryz.prog 37 #[.slice p n c, .func (.func fid) #[] bound] w (RetIdx P n w) := by
 have Hof := lhd hof
 have Heg := lhd eg
 have Hp := lhd hp
 clear hof eg hp
 go_enter Tryz.func37, Tryz.ntmps37
 go_wp2
 go_loopw [8] (fun v wr => ∃ i : Nat, i ≤ n ∧ v = .int .i64 i ∧ Hid (Below w.heap.size w wr) ∧ Hid (∀ k, k < i → P k = false)) (fun v _ => n - (intOf v).toNat)
 case atStart => exact ⟨0, by omega, by go_num, lhd (Below.refl _ _), lhd (fun k hk => by omega)⟩
 case round =>
  obtain ⟨i, hi, rfl, Hb, HN⟩ := hrel
  by_cases hlt : i < n
  ·have i1 : (i : Int) < (n : Int) := by omega
   have i0 : (0 : Int) ≤ (i : Int) := by omega
   have heg := Heg.out
   rcases Hp.out with h | ⟨ab, ao, rfl, hab, hac⟩
   ·omega
   have a3 : wr.cell? ⟨ab, ao + i, none⟩ = some (V i) := cell_lo Hb.out hab (by simpa using hac i hlt 0 (by omega))
   have hof1 := Hof.out i wr hlt Hb.out
   obtain ⟨q, m, d, hv⟩ := hV i hlt
   rw [hv] at a3 hof1
   clear hac hv
   go_wp2_with fail
   refine hof1.mono ?_
   rintro e w2 ⟨rfl, hb2⟩
   dsimp only
   have Hb2 := lhd (Hb.out.trans (hb2.mono Hb.out.size))
   clear hb2
   cases hP : P i
   ·have HN2 : Hid (∀ k, k < i + 1 → P k = false) := lhd (fun k hk => by
     by_cases e : k = i
     ·subst e; exact hP
     ·exact HN.out k (by omega))
    clear hP
    go_wp2
    go_roundw
    case rel => exact ⟨i + 1, by omega, by go_num, Hb2, HN2⟩
    case measure => simp [intOf]; omega
   ·have HA : Hid (anyN P n = true) := lhd (anyN_true.2 ⟨i, hlt, hP⟩)
    clear hP
    go_wp2
    go_ret
    exact ⟨_, rfl, .inl ⟨by omega, HA.out⟩, Hb2.out⟩
  ·have i1 : ¬ (i : Int) < (n : Int) := by omega
   have HA : Hid (anyN P n = false) := lhd (anyN_false.2 fun k hk => HN.out k (by omega))
   go_wp2
   go_ret
   exact ⟨_, rfl, .inr ⟨rfl, HA.out⟩, Hb.out⟩
set_option maxRecDepth 100000 in
set_option maxHeartbeats 4000000 in
theorem containsFn_p (n : Nat) (p : Option Addr) (c : Nat) (V : Nat → Value) (fid : Nat) (bound : Array Value) (P : Nat → Bool) (w : World) (eg : ∀ args w, (callFunc fid args).run Tryz.prog w = .ok (.enter fid args) w) (hn : n ≤ 1000000000000)
  (hp : SlAt 1 w p n (fun i _ => V i)) (hV : ∀ k, k < n → ∃ q m d, V k = .slice q m d) (hof : ∀ k W, k < n → Below w.heap.size w W → Calls Tryz.prog fid (#[(V k)] ++ bound) W (RetB (P k) W)) :
  Calls Tryz.prog 12 #[.slice p n c, .func (.func fid) #[] bound] w (RetB (anyN P n) w) := by
 have HI := lhd (indexFn_p n p c V fid bound P w eg hn hp hV hof)
 clear hof eg hp
 go_enter Tryz.func12, Tryz.ntmps12
 go_wp2_with fail
 refine HI.out.mono ?_
 rintro e w2 ⟨v, rfl, hv, hb⟩
 dsimp only
 have Hb := lhd hb
 clear hb
 rcases hv with ⟨h1, h2⟩ | ⟨h1, h2⟩
 ·have H2 := lhd h2
  clear h2
  have h3 : decide (v ≥ 0) = true := decide_eq_true h1
  go_wp2
  go_ret
  exact ⟨by rw [H2.out]; rfl, Hb.out⟩
 ·have H2 := lhd h2
  clear h2
  subst h1
  go_wp2
  go_ret
  exact ⟨by rw [H2.out]; rfl, Hb.out⟩
def gtP (n : Nat) (Z : Nat → ZI) : Bool := anyN (fun k => decide (3 < (Z k).mag.size)) n || (decide (8 < n) && decide (n ≤ 65) || decide (68 < n))
set_option maxRecDepth 100000 in
set_option maxHeartbeats 4000000 in
theorem Great3_any (n : Nat) (Z : Nat → ZI) (p : Option Addr) (c : Nat) (hn : n ≤ 9223372036854775807) (w : World) (hX : GRow w p n Z) :
  Calls Tryz.prog 13 #[.slice p n c] w (RetB (gtP n Z) w) := by
 have HX := lhd hX
 clear hX
 go_enter Tryz.func13, Tryz.ntmps13
 go_wp2_with fail
 go_loopw [3] (fun v wr => ∃ i : Nat, i ≤ n ∧ v = .int .i64 i ∧ Hid (∀ k, k < i → decide (3 < (Z k).mag.size) = false) ∧ wr = w) (fun v _ => n - (intOf v).toNat)
 case atStart => exact ⟨0, by omega, by go_num, lhd (fun k hk => by omega), rfl⟩
 case round =>
  obtain ⟨i, hi, rfl, HN, rfl⟩ := hrel
  by_cases hlt : i < n
  ·have i1 : (i : Int) < (n : Int) := by omega
   have i0 : (0 : Int) ≤ (i : Int) := by omega
   rcases HX.out with h | ⟨b, off, rfl, hl, hc⟩
   ·omega
   have x1 : wr.cell? ⟨b, off + i * 2 + 1, none⟩ = some (.string (Z i).mag) := by have := hc i hlt 1 (by omega); simpa [zg] using this
   obtain ⟨m, hm⟩ : ∃ m, (Z i).mag = m := ⟨_, rfl⟩
   rw [hm] at x1
   clear hc
   by_cases hg : 3 < m.size
   ·have hgI : (m.size : Int) > 3 := by omega
    have HA : Hid (gtP n Z = true) := lhd (by
     unfold gtP
     rw [show anyN (fun k => decide (3 < (Z k).mag.size)) n = true from anyN_true.2 ⟨i, hlt, by rw [hm]; exact decide_eq_true hg⟩]; rfl)
    clear hm
    go_wp2_with fail
    go_ret
    exact ⟨by first | rfl | (rw [HA.out]; rfl), Below.refl _ _⟩
   ·have hgI : ¬ (m.size : Int) > 3 := by omega
    have HN2 : Hid (∀ k, k < i + 1 → decide (3 < (Z k).mag.size) = false) := lhd (fun k hk => by
     by_cases e : k = i
     ·subst e; rw [hm]; exact decide_eq_false hg
     ·exact HN.out k (by omega))
    clear hm
    go_wp2_with fail
    go_roundw
    case rel => exact ⟨i + 1, by omega, by go_num, HN2, by first | trivial | rfl⟩
    case measure => simp [intOf]; omega
  ·have i1 : ¬ (i : Int) < (n : Int) := by omega
   have hE : gtP n Z = (decide (8 < n) && decide (n ≤ 65) || decide (68 < n)) := by
    unfold gtP
    rw [show anyN (fun k => decide (3 < (Z k).mag.size)) n = false from anyN_false.2 fun k hk => HN.out k (by omega)]; rfl
   have HE := lhd hE
   clear hE
   by_cases h8 : 8 < n
   ·have h8I : (n : Int) > 8 := by omega
    by_cases h65 : n ≤ 65
    ·have h65I : (n : Int) ≤ 65 := by omega
     go_wp2_with fail
     go_ret
     exact ⟨by rw [HE.out]; simp [h8, h65], Below.refl _ _⟩
    ·have h65I : ¬ (n : Int) ≤ 65 := by omega
     by_cases h68 : 68 < n
     ·have h68I : (n : Int) > 68 := by omega
      go_wp2_with fail
      go_ret
      exact ⟨by rw [HE.out]; simp [h8, h65, h68], Below.refl _ _⟩
     ·have h68I : ¬ (n : Int) > 68 := by omega
      go_wp2_with fail
      go_ret
      exact ⟨by rw [HE.out]; simp [h8, h65, h68], Below.refl _ _⟩
   ·have h8I : ¬ (n : Int) > 8 := by omega
    have h68I : ¬ (n : Int) > 68 := by omega
    go_wp2_with fail
    go_ret
    exact ⟨by rw [HE.out]; simp [h8, show ¬ 68 < n by omega], Below.refl _ _⟩
structure PList (w : World) (p : Option Addr) (N : Nat) (P : Nat → Option Addr) (n c : Nat → Nat) (Z : Nat → Nat → ZI) : Prop where
 at' : SlAt 1 w p N (fun i _ => .slice (P i) (n i) (c i))
 row : ∀ i, i < N → GRow w (P i) (n i) (Z i)
 len : ∀ i, i < N → n i ≤ 9223372036854775807
set_option maxRecDepth 100000 in
theorem great_any (N : Nat) (p : Option Addr) (cp : Nat) (P : Nat → Option Addr) (n c : Nat → Nat) (Z : Nat → Nat → ZI) (hN : N ≤ 1000) (w : World) (hL : PList w p N P n c Z) :
  Calls Tryz.prog 4 #[.slice p N cp] w (RetB (anyN (fun i => gtP (n i) (Z i)) N) w) := by
 have hc := containsFn_p N p cp (fun i => .slice (P i) (n i) (c i)) 13 #[] (fun i => gtP (n i) (Z i)) w (enters_of Tryz.func13 (by kernel_rfl) rfl) (by omega) hL.at' (fun k _ => ⟨_, _, _, rfl⟩)
  (fun k W hk hW => Great3_any (n k) (Z k) (P k) (c k) (hL.len k hk) W (SlAt.mono (hL.row k hk) (Nat.le_refl _) hW))
 have Hc := lhd hc
 clear hc
 go_enter Tryz.func4, Tryz.ntmps4
 go_wp2_with fail
 refine Hc.out.mono ?_
 rintro e w1 ⟨rfl, hb⟩
 dsimp only
 have Hb := lhd hb
 clear hb
 go_wp2_with fail
 go_ret
 exact ⟨rfl, Hb.out⟩
theorem plist1 (V : World) (p : Option Addr) (n c : Nat) (Z : Nat → ZI) (t : TypeId) (hX : GRow V p n Z) (hn : n ≤ 9223372036854775807) :
  PList (V.alloc (.cells #[.slice p n c] t)) (some ⟨V.heap.size, 0, none⟩) 1 (fun _ => p) (fun _ => n) (fun _ => c) (fun _ => Z) := by
 have hb := (Below.refl V.heap.size V).alloc (Nat.le_refl _) (.cells #[.slice p n c] t)
 refine ⟨.inr ⟨V.heap.size, 0, rfl, by simp, fun i hi j hj => ?_⟩, fun i hi => ?_, fun i hi => ?_⟩
 ·obtain rfl : j = 0 := by omega
  obtain rfl : i = 0 := by omega
  rw [World.cell?_alloc_new]; rfl
 ·exact SlAt.mono hX (Nat.le_refl _) hb
 ·exact hn
theorem gtP_false {n : Nat} {Z : Nat → ZI} (h : gtP n Z = false) : n ≤ 68 ∧ ∀ k, k < n → (Z k).mag.size ≤ 3 := by
 unfold gtP at h
 rw [Bool.or_eq_false_iff] at h
 obtain ⟨h1, h2⟩ := h
 refine ⟨?_, fun k hk => ?_⟩
 ·have : decide (68 < n) = false := (Bool.or_eq_false_iff.1 h2).2
  have := of_decide_eq_false this
  omega
 ·have := of_decide_eq_false (anyN_false.1 h1 k hk)
  omega
open Go.RowKit Go.Shelf
set_option maxRecDepth 100000 in
set_option maxHeartbeats 2000000 in
theorem ofL_any (n : Nat) (X : Nat → Int) (p : Option Addr) (c : Nat) (hn : n ≤ 1000) (hx : ∀ i, i < n → -1000 ≤ X i ∧ X i ≤ 1000) (w : World) (hX : SlAt 1 w p n (fun i _ => .int .i64 (X i))) :
  Calls Tryz.prog 15 #[.slice p n c] w (RetPol n X w) := by
 have HX := lhd hX
 have Hx := lhd hx
 clear hX hx
 go_enter Tryz.func15, Tryz.ntmps15
 go_wp2_with fail
 go_loopw [3, 8] (fun ov iv wr => ∃ i : Nat, i ≤ n ∧ iv = .int .i64 (i : Nat) ∧ Hid (OwnZ wr w.heap.size ov (zsF X i)) ∧ Hid (Below w.heap.size w wr)) (fun _ iv _ => n - (intOf iv).toNat)
 case atStart => exact ⟨0, by omega, by go_num, lhd (World.ownsRow_nil _ _ _ _), lhd (Below.refl _ _)⟩
 case round =>
  obtain ⟨i, hi, rfl, HO, HB⟩ := hrel
  by_cases hil : i < n
  ·have i0 : (0 : Int) ≤ (i : Int) := by omega
   have i1 : (i : Int) < (n : Int) := by omega
   have hXr := HX.out.mono (Nat.le_refl _) HB.out
   obtain ⟨b, off, rfl, hc⟩ : ∃ b off, p = some ⟨b, off, none⟩ ∧ wr.cell? ⟨b, off + i, none⟩ = some (.int .i64 (X i)) := by
    rcases hXr with h | ⟨b, off, rfl, hl, hc⟩
    ·omega
    ·exact ⟨b, off, rfl, by have := hc i hil 0 (by omega); simpa using this⟩
   obtain ⟨x0, x1⟩ := Hx.out i hil
   have hof := fun W => of_any (X i) (by omega) (by omega) W
   have Hof := lhd hof
   have hnx : zsF X (i + 1) = zsF X i ++ [X i] := zsF_snoc X i
   have Hnx := lhd hnx
   obtain ⟨y, hy⟩ : ∃ y, X i = y := ⟨_, rfl⟩
   rw [hy] at hc Hof Hnx
   have hs := HB.out.size
   clear hXr hof hnx hy x0 x1
   go_wp2_with fail
   refine (Hof.out wr).mono ?_
   rintro e w4 ⟨rfl, hb4⟩
   dsimp only
   have HZ4 := lhd (HO.out.below (Nat.le_refl _) hb4)
   have hb4 := HB.out.trans (hb4.mono HB.out.size)
   have hys := hb4.size
   have Hb4 := lhd hb4
   clear hb4 HO HB hc Hof
   go_wp2_with (at_builtin; refine wpList_append_zs rfl _ _ rfl w.heap.size _ (zsF X i) rfl (HZ4.out.alloc _) w4.heap.size 0 1 1 [y] rfl rfl ?_ ?_ ?_ ?_)
   ·intro j hj
    have : j = 0 := by simpa using hj
    subst this
    simp
   ·rw [zsF_len]; simp; omega
   ·simp; omega
   ·intro v9 w9 hown9 hgr9
    have hb9 : Below w.heap.size w w9 := below_append (Hb4.out.alloc hys _) (HZ4.out.alloc _) hgr9 (by simp; omega) (Nat.le_refl _)
    rw [← Hnx.out] at hown9
    have HZ9 := lhd hown9
    have HY9 := lhd hb9
    clear hown9 hgr9 hb9 HZ4 Hb4 hys
    go_wp2
    go_roundw
    case rel => exact ⟨i + 1, by omega, by go_num, HZ9, HY9⟩
    case measure => simp [intOf]; omega
  ·have i1 : ¬ (i : Int) < (n : Int) := by omega
   have hie : i = n := by omega
   have hz9 := HO.out
   rw [hie] at hz9
   obtain ⟨q, cap, rfl, _, hrow, _⟩ := hz9.rowF
   have Hrow := lhd hrow
   clear hz9 hie hrow HO
   go_wp2_with fail
   go_ret
   exact ⟨q, cap, rfl, Hrow.out, HB.out⟩
end Go.Proofs.YtmbamcpndbimaaaGreatDoor
