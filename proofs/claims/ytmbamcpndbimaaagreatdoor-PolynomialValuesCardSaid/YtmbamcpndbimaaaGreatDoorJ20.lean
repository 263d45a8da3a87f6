/- polynomial.Print: the text of a polynomial, and the walk. -/
import Derived.Test.YtmbamcpndbimaaaGreatDoorJ19
import Derived.Test.YtmbamcpndbimaaaGreatDoorJ9
import Derived.Deep.CutRange
namespace Go.Proofs.YtmbamcpndbimaaaGreatDoor
open Go.RowKit Go.Shelf
attribute [local go_sem] Oper.semAt_some wide_fn
def RetPolT (m : Nat) (f : Nat → Int) (w : World) (e : Ending) (w' : World) : Prop := ∃ q cap, e = .returned (.slice q m cap) ∧ RowF w' q m f ∧ Below w.heap.size w w' ∧ ∀ b, q = some b → ∃ cur, w'.heap[b.block]? = some (.cells cur 24 (0, 0))
theorem ownZ_typed {w : World} {B : Nat} {v : Value} {xs : List Int} (h : OwnZ w B v xs) : ∀ b n c, v = .slice (some b) n c → ∃ cur, w.heap[b.block]? = some (.cells cur 24 (0, 0)) := by
 intro b n c e
 rcases h.2 with ⟨h1, _⟩ | ⟨g, cap, cur, h1, _, hh, _⟩
 ·rw [h1] at e; cases e
 ·rw [h1] at e; cases e; exact ⟨cur, hh⟩
set_option maxRecDepth 100000 in
set_option maxHeartbeats 8000000 in
theorem Canonical_own (n : Nat) (Z : Nat → ZI) (p : Option Addr) (c : Nat) (hn : n ≤ 1000000) (hz : ∀ k, k < n → (Z k).mag.size ≤ 100000000) (w : World) (hX : GRow w p n Z) :
  Calls Tryz.prog 18 #[.slice p n c] w (RetPolT (dgN (fun k => valZ (Z k)) n) (fun k => valZ (Z k)) w) := by
 obtain ⟨i0, hi0, hzz⟩ := Option.map_eq_some_iff.1 zInfo
 simp only [Prod.mk.injEq] at hzz
 obtain ⟨hz0, hz1, hz2⟩ := hzz
 have HX := lhd hX
 have Hz := lhd hz
 obtain ⟨f, hf⟩ : ∃ f, (fun k => valZ (Z k)) = f := ⟨_, rfl⟩
 have Hf := lhd (show ∀ k, valZ (Z k) = f k from fun k => by rw [← hf])
 rw [hf]
 have Hdle := lhd (fun k => dgN_le f k)
 clear hX hz hf
 go_enter Tryz.func18, Tryz.ntmps18
 go_wp2_with (at_make; refine wpList_make_own _ rfl _ _ 22 rfl w.heap.size 24 i0 (.agg #[.bool false, .string ⟨#[]⟩]) 2 Tryz.underlying22 hi0 hz0 hz1 .i64 .i64 (n : Int) n rfl rfl ?_ ?_ ?_ ?_ ?_)
 ·omega
 ·rw [hz2]; omega
 ·unfold maxLen; omega
 ·exact Nat.le_refl _
 intro w1 hown hgrow
 have hb1 : Below w.heap.size w w1 := (Below.refl _ _).grown hgrow (by simp) (fun k hk => by cases hk)
 have Hb1 := lhd hb1
 have Hown := lhd (show OwnZ w1 w.heap.size (.slice (some ⟨w.heap.size, 0, none⟩) 0 n) (zsF f 0) from hown)
 clear hb1 hown hgrow hz0 hz1 hz2 hi0
 go_wp2_with fail
 go_loopw [3, 11] (fun ov iv wr => ∃ i : Nat, i ≤ n ∧ iv = .int .i64 (i : Nat) ∧ Hid (OwnZ wr w.heap.size ov (zsF f i)) ∧ Hid (Below w.heap.size w wr)) (fun _ iv _ => n - (intOf iv).toNat)
 case atStart => exact ⟨0, by omega, by go_num, Hown, Hb1⟩
 case round =>
  clear Hown Hb1
  obtain ⟨i, hi, rfl, HO, HB⟩ := hrel
  by_cases hil : i < n
  ·have i0 : (0 : Int) ≤ (i : Int) := by omega
   have i1 : (i : Int) < (n : Int) := by omega
   have hXr : GRow wr p n Z := HX.out.mono (Nat.le_refl _) HB.out
   obtain ⟨b, off, rfl, hbl, hc⟩ : ∃ b off, p = some ⟨b, off, none⟩ ∧ b < wr.heap.size ∧ ∀ k, k < n → wr.cell? ⟨b, off + k * 2, none⟩ = some (.bool (Z k).neg) ∧ wr.cell? ⟨b, off + k * 2 + 1, none⟩ = some (.string (Z k).mag) := by
    rcases hXr with h | ⟨b, off, rfl, hl, hc⟩
    ·omega
    ·exact ⟨b, off, rfl, hl, fun k hk => ⟨by have := hc k hk 0 (by omega); simpa [zg] using this, by have := hc k hk 1 (by omega); simpa [zg] using this⟩⟩
   obtain ⟨x0, x1⟩ := hc i hil
   have hzi := Hz.out i hil
   have hfi := Hf.out i
   have hadd := fun W => add_z (Z i) ⟨false, ⟨#[]⟩⟩ hzi (by decide) W
   rw [addZ_val, hfi, show valZ ⟨false, ⟨#[]⟩⟩ = 0 from rfl, Int.add_zero] at hadd
   have Hadd := lhd hadd
   have hnx : zsF f (i + 1) = zsF f i ++ [f i] := zsF_snoc f i
   have Hnx := lhd hnx
   obtain ⟨z, hzz⟩ : ∃ z, Z i = z := ⟨_, rfl⟩
   rw [hzz] at x0 x1 Hadd
   obtain ⟨y, hy⟩ : ∃ y, f i = y := ⟨_, rfl⟩
   rw [hy] at Hadd Hnx
   clear hXr hc hzi hfi hadd hnx hzz hy hbl
   go_upto_region 5 with (fail)
   clear x0 x1
   have hal := (Below.refl wr.heap.size wr).alloc (Nat.le_refl _) (.cells #[.bool z.neg, .string z.mag] 24)
   have hbx := BoxAt.new wr (.bool z.neg) (.string z.mag) 24
   have HO2 := lhd (HO.out.below (Nat.le_refl _) hal)
   have HB2 := lhd (HB.out.trans (hal.mono HB.out.size))
   obtain ⟨gx, hgx⟩ : ∃ g, wr.heap.size = g := ⟨_, rfl⟩
   rw [hgx] at hbx ⊢
   clear hal HO HB hgx
   generalize wr.alloc (.cells #[.bool z.neg, .string z.mag] 24) = X at *
   obtain ⟨x0, x1, _, _, _⟩ := hbx
   go_wp2_with fail
   refine (Hadd.out X).mono ?_
   rintro e w4 ⟨rfl, hb4⟩
   dsimp only
   have HZ4 := lhd (HO2.out.below (Nat.le_refl _) hb4)
   have hb4 := HB2.out.trans (hb4.mono HB2.out.size)
   have hys := hb4.size
   have Hb4 := lhd hb4
   clear hb4 HO2 HB2 x0 x1 Hadd
   go_wp2_with (at_builtin; refine wpList_append_zs rfl _ _ rfl w.heap.size _ (zsF f i) rfl (HZ4.out.alloc _) w4.heap.size 0 1 1 [y] rfl rfl ?_ ?_ ?_ ?_)
   ·intro j hj
    have : j = 0 := by simpa using hj
    subst this
    simp
   ·rw [zsF_len]; simp; omega
   ·simp; omega
   ·intro v9 w9 hown9 hgr9
    have hb9 : Below w.heap.size w w9 := below_append (Hb4.out.alloc hys _) (HZ4.out.alloc _) hgr9 (by simp; omega) (Nat.le_refl _)
    rw [← Hnx.out] at hown9
    have HZ9 := lhd hown9
    have HY9 := lhd hb9
    clear hown9 hgr9 hb9 HZ4 Hb4 hys
    go_wp2
    go_roundw
    case rel => exact ⟨i + 1, by omega, by go_num, HZ9, HY9⟩
    case measure => simp [intOf]; omega
  ·have i1 : ¬ (i : Int) < (n : Int) := by omega
   have hie : i = n := by omega
   have hz9 := HO.out
   rw [hie] at hz9
   have hty := ownZ_typed hz9
   obtain ⟨q, cap, rfl, hnc, hrow, _⟩ := hz9.rowF
   have Hty : Hid (∀ b, q = some b → ∃ cur, wr.heap[b.block]? = some (.cells cur 24 (0, 0))) := lhd (fun b e => hty b n cap (by rw [e]))
   have Hrow := lhd hrow
   have hbb := HB.out
   have Hbb := lhd hbb
   obtain ⟨V, hV⟩ : ∃ V, wr = V := ⟨_, rfl⟩
   rw [hV] at Hrow Hbb Hty ⊢
   clear hz9 hty hie hrow HO HB hbb hV
   go_wp2_with fail
   go_loopw [3] (fun ov wr => ∃ m : Nat, m ≤ n ∧ ov = .slice q m cap ∧ Hid (dgN f m = dgN f n) ∧ wr = V) (fun ov _ => (match ov with | .slice _ m _ => m | _ => 0))
   case atStart => exact ⟨n, Nat.le_refl _, rfl, lhd rfl, rfl⟩
   case round =>
    obtain ⟨m, hm, rfl, HD, rfl⟩ := hrel
    by_cases hm0 : 0 < m
    ·obtain ⟨k, rfl⟩ : ∃ k, m = k + 1 := ⟨m - 1, by omega⟩
     obtain ⟨b, off, rfl, _, hc⟩ := RowF.cells (k := k) (Hrow.out.take hm) (by omega)
     obtain ⟨x0, x1⟩ := hc k (by omega)
     have k1 : (k : Int) + 1 - 1 = (k : Int) := by omega
     have k0 : (0 : Int) ≤ (k : Int) := by omega
     have k2 : (k : Int) < (k : Int) + 1 := by omega
     have k3 : (k : Int) + 1 > 0 := by omega
     have k4 : decide ((k : Int) + 1 > 0) = true := decide_eq_true k3
     have k5 : decide (0 < k + 1) = true := decide_eq_true (by omega)
     have k6 : (k : Int) ≤ (cap : Int) := by omega
     obtain ⟨y, hy⟩ : ∃ y, f k = y := ⟨_, rfl⟩
     rw [hy] at x0 x1
     by_cases hy0 : y = 0
     ·have HN : Hid (dgN f k = dgN f n) := lhd (by rw [← HD.out, dgN, hy, if_pos hy0])
      rw [hy0] at x0 x1
      have x0' : wr.cell? ⟨b, off + k * 2, none⟩ = some (.bool false) := x0
      have x1' : wr.cell? ⟨b, off + k * 2 + 1, none⟩ = some (.string ⟨#[]⟩) := x1
      clear hc hy hy0 x0 x1 HD
      go_wp2_with fail
      go_roundw
      case rel => exact ⟨k, by omega, rfl, HN, by first | trivial | rfl⟩
      case measure => simp
     ·have hne : ((canon y).mag.toList == []) = false := by
       rw [beq_eq_false_iff_ne]
       intro h
       have h2 := valZ_canon y
       have h3 : absZ (canon y) = 0 := by unfold absZ; rw [show (canon y).mag.data.toList = [] from by rw [← ByteArray.toList_eq]; exact h]; rfl
       unfold valZ at h2
       rw [h3] at h2
       simp at h2
       exact hy0 h2.symm
      have hk : k + 1 = dgN f n := by rw [← HD.out, dgN, hy, if_neg hy0]
      have Hk := lhd hk
      clear hc hy hy0 hk HD
      go_wp2_with fail
      go_ret
      rw [← Hk.out]
      exact ⟨_, cap, rfl, Hrow.out.take hm, Hbb.out, Hty.out⟩
    ·obtain rfl : m = 0 := by omega
     have Hk := lhd (show 0 = dgN f n from by rw [← HD.out]; rfl)
     clear HD
     go_wp2_with fail
     go_ret
     rw [← Hk.out]
     exact ⟨q, cap, rfl, .inl rfl, Hbb.out, Hty.out⟩
def prStep (acc : List UInt8) (x : Nat × Int) : List UInt8 :=
 if x.2 = 0 then acc else (acc ++ (if acc = [] then (if x.2 < 0 then [45] else []) else (if x.2 < 0 then [32, 45, 32] else [32, 43, 32]))) ++ termL x.1 x.2.natAbs
def accP (pre : List (Nat × Int)) : List UInt8 := pre.foldl prStep []
theorem accP_snoc (pre : List (Nat × Int)) (x : Nat × Int) : accP (pre ++ [x]) = prStep (accP pre) x := by unfold accP; rw [List.foldl_append]; rfl
def polL (F : Nat → Int) (n : Nat) : List UInt8 := if accP (desL F n 0) = [] then [48] else accP (desL F n 0)
def KpO (b : Nat) (W W' : World) : Prop := W.heap.size ≤ W'.heap.size ∧ ∀ k o, W.heap[k]? = some o → o.isCells = true → k ≠ b → (∀ c fz, o ≠ .cells c 5 fz) → W'.heap[k]? = some o
theorem KpO.trans {b : Nat} {X Y Z : World} (h : KpO b X Y) (k : KpO b Y Z) : KpO b X Z := ⟨Nat.le_trans h.1 k.1, fun i o hi hc hb ho => k.2 i o (h.2 i o hi hc hb ho) hc hb ho⟩
theorem KpO.put {b : Nat} {W : World} {l : Nat} {o o' : Obj} (hl : W.heap[l]? = some o) (hc : o.isCells = false) : KpO b W (W.putObj l o') := by
 refine ⟨by simp, fun k x hk hx _ _ => ?_⟩
 have hne : k ≠ l := by rintro rfl; rw [hl] at hk; cases hk; rw [hc] at hx; cases hx
 exact (World.putObj_heap_other hne).trans hk
def KpA (w : World) (b : Nat) (W W' : World) : Prop := W.heap.size ≤ W'.heap.size ∧ Lib.OthersKept 5 (some b) W W' ∧ Below w.heap.size W W'
theorem KpA.trans {w : World} {b : Nat} {X Y Z : World} (h : KpA w b X Y) (k : KpA w b Y Z) : KpA w b X Z := ⟨Nat.le_trans h.1 k.1, h.2.1.trans k.2.1, h.2.2.trans k.2.2⟩
theorem KpA.of_below {w : World} {b : Nat} {X Y : World} (h : Below X.heap.size X Y) (hs : w.heap.size ≤ X.heap.size) : KpA w b X Y :=
 ⟨h.size, fun k _ hk _ _ => (h.block k (Array.getElem?_eq_some_iff.1 hk).1).trans hk, h.mono hs⟩
theorem KpA.kpo {w : World} {b : Nat} {X Y : World} (h : KpA w b X Y) : KpO b X Y := ⟨h.1, fun k o hk _ hb ho => h.2.1 k o hk (by simpa using hb) ho⟩
theorem KpA.from {w : World} {b : Nat} {X Y : World} (h : KpA w b X Y) (B : Nat) (hb : ∃ o : Obj, X.heap[b]? = some o ∧ o.isCells = true) : KeepsFrom B X Y := by
 refine ⟨h.1, fun k o _ hk ho => h.2.1 k o hk ?_ ?_⟩
 ·obtain ⟨o', h1, h2⟩ := hb
  intro e
  obtain rfl := Option.some.inj e
  rw [hk] at h1; cases h1; rw [ho] at h2; cases h2
 ·rintro c fz rfl
  cases ho
theorem KpA.cells {w : World} {b : Nat} {X Y : World} (h : KpA w b X Y) {k : Nat} {cs : Array Value} {t : TypeId} (hk : X.heap[k]? = some (.cells cs t (0, 0))) (hb : k ≠ b) (ht : t ≠ 5) : Y.heap[k]? = some (.cells cs t (0, 0)) :=
 h.2.1 k _ hk (by simpa using hb) (by rintro c fz e; cases e; exact ht rfl)
theorem bldr_kept {T e : TypeId} {B b : Nat} {bs : List Value} {W W' : World} {row : Option Nat} (h : Lib.IsBuilder T e B b bs W) (hg : W.grownBy W' row) (hr : ∀ r, row = some r → ∀ o : Obj, W.heap[r]? = some o → o.isCells = false) : Lib.IsBuilder T e B b bs W' := by
 have key : ∀ p, Lib.BuilderAt T e B b p bs W → Lib.BuilderAt T e B b p bs W' := by
  rintro p ⟨hB, v, hb, hown, hne⟩
  have hno : ∀ k c t fz, W.heap[k]? = some (.cells c t fz) → some k ≠ row := fun k c t fz hk e => by
   have := hr k e.symm _ hk; cases this
  refine ⟨hB, v, (hg.block b (Array.getElem?_eq_some_iff.1 hb).1 (hno b _ _ _ hb)).trans hb, hown.kept hg ?_, hne⟩
  rcases hown.2 with ⟨rfl, _⟩ | ⟨g, cap, cur, rfl, _, hh, _⟩
  ·exact .inl rfl
  ·exact .inr (by simpa [Value.ownBlock] using hno g _ _ _ hh)
 exact h.imp (key _) (key _)
theorem bldr_below {T e : TypeId} {B b : Nat} {bs : List Value} {W W' : World} (h : Lib.IsBuilder T e B b bs W) (hb : Below W.heap.size W W') : Lib.IsBuilder T e B b bs W' :=
 bldr_kept h (below_grown0 hb) (fun r e => by cases e)
theorem bldr_block {T e : TypeId} {B b : Nat} {bs : List Value} {W : World} (h : Lib.IsBuilder T e B b bs W) : ∃ c, W.heap[b]? = some (.cells c T (0, 0)) := by
 rcases h with ⟨_, v, hb, _⟩ | ⟨_, v, hb, _⟩ <;> exact ⟨_, hb⟩
theorem turn_cells {B r : Nat} {W : World} (h : TurnT B (fun _ _ => False) r W) : ∀ o : Obj, W.heap[r]? = some o → o.isCells = false := by
 rcases h with h | ⟨_, o, ho, hc⟩
 ·exact h.elim
 ·intro o' ho'; rw [ho] at ho'; cases ho'; exact hc
theorem heap_turn {W W' : World} {row : Option Nat} {B k : Nat} {o : Obj} (h : W.heap[k]? = some o) (hc : o.isCells = true) (hg : W.grownBy W' row) (hr : ∀ r, row = some r → TurnT B (fun _ _ => False) r W) : W'.heap[k]? = some o :=
 (hg.block k (Array.getElem?_eq_some_iff.1 h).1 (fun e => by have := turn_cells (hr k e.symm) o h; rw [hc] at this; cases this)).trans h
def KKp (q : Option Addr) (m cq : Nat) (f : Nat → Int) (Bm b : Nat) (X : World) : Prop :=
 RowF X q m f ∧ Boxed X Bm 22 (.slice q m cq) ∧ Bm ≠ b ∧ (∀ a, q = some a → a.block ≠ b) ∧ ∀ a, q = some a → ∃ cur, X.heap[a.block]? = some (.cells cur 24 (0, 0))
theorem KKp.next {q : Option Addr} {m cq : Nat} {f : Nat → Int} {Bm b : Nat} {X Y : World} (h : KKp q m cq f Bm b X) (k : KpO b X Y) : KKp q m cq f Bm b Y := by
 obtain ⟨h1, h2, h3, h4, h5⟩ := h
 refine ⟨?_, k.2 Bm _ h2 rfl h3 (by rintro c fz e; cases e), h3, h4, fun a e => ?_⟩
 ·rcases h1 with h | ⟨g, off, rfl, hlt, hc⟩
  ·exact .inl h
  ·obtain ⟨cur, hg⟩ := h5 _ rfl
   have hg2 := k.2 g _ hg rfl (h4 _ rfl) (by rintro c fz e; cases e)
   exact .inr ⟨g, off, rfl, Nat.lt_of_lt_of_le hlt k.1, fun i hi j hj => (cell_of_block (hg2.trans hg.symm) _).trans (hc i hi j hj)⟩
 ·obtain ⟨cur, hg⟩ := h5 a e
  exact ⟨cur, k.2 _ _ hg rfl (h4 a e) (by rintro c fz e; cases e)⟩
def IPp (w : World) (B1 m : Nat) (F : Nat → Int) (pre : List (Nat × Int)) (W : World) : Prop :=
 ∃ k, k ≤ m ∧ pre = desL F m k ∧ Lib.IsBuilder 63 5 w.heap.size w.heap.size (Lib.byteCells (accP pre)) W ∧ Below w.heap.size w W ∧ B1 ≤ W.heap.size
theorem IPp.abides {w : World} {B1 m : Nat} {F : Nat → Int} (hB : w.heap.size ≤ B1) : AbT (TurnT B1 (fun _ _ => False)) (IPp w B1 m F) := by
 rintro pre W W' row ⟨k, hk, hp, hI, hb, hs⟩ hg hr
 refine ⟨k, hk, hp, bldr_kept hI hg (fun r e => turn_cells (hr r e)), hb.grown hg (by omega) (fun r e => ?_), Nat.le_trans hs hg.size⟩
 rcases hr r e with h | h
 ·exact h.elim
 ·omega
def ZBox (W : World) (u : Nat) (x : Int) : Prop := W.heap[u]? = some (.cells #[.bool (canon x).neg, .string (canon x).mag] 24 (0, 0))
set_option maxRecDepth 100000 in
set_option maxHeartbeats 8000000 in
theorem pPrint_any (n : Nat) (Z : Nat → ZI) (p : Option Addr) (c : Nat) (hn : n ≤ 99) (hz : ∀ k, k < n → (Z k).mag.size ≤ 1000000) (w : World) (hX : GRow w p n Z) (f : Nat → Int) (hfe : (fun k => valZ (Z k)) = f) :
  Calls Tryz.prog 17 #[.slice p n c] w fun e w' => e = .returned (.string ⟨(polL f (dgN f n)).toArray⟩) ∧ Below w.heap.size w w' := by
 have hz' : ∀ k, k < n → (Z k).mag.size ≤ 100000000 := fun k hk => by have := hz k hk; omega
 have hcz : ∀ k, k < n → (canon (f k)).mag.size ≤ 1000000 := fun k hk => by
  have := hz k hk
  rw [← hfe]
  exact Nat.le_trans (canon_size _ (by have h := absZ_lt (Z k); show (valZ (Z k)).natAbs < _; unfold valZ; split <;> omega)) this
 obtain ⟨m, hm⟩ : ∃ m, dgN f n = m := ⟨_, rfl⟩
 have hmn : m ≤ n := by rw [← hm]; exact dgN_le f n
 rw [hm]
 obtain ⟨RES, hRES⟩ : ∃ s : ByteArray, (⟨(polL f m).toArray⟩ : ByteArray) = s := ⟨_, rfl⟩
 rw [hRES]
 refine calls_marks Tryz.func17 rfl ?_
 simp only [Tryz.ntmps17, List.size_toArray, List.length_cons, List.length_nil, Nat.reduceAdd, Nat.reduceSub, Array.replicate_succ, Array.replicate_zero, List.push_toArray, List.append_toArray, List.nil_append, List.cons_append]
 have hI0 := Lib.fresh_isBuilder 63 5 w
 have hb0 := (Below.refl w.heap.size w).alloc (Nat.le_refl _) (.cells #[.pointer none, .slice none 0 0] 63)
 have hX0 : GRow (w.alloc (.cells #[.pointer none, .slice none 0 0] 63)) p n Z := hX.mono (Nat.le_refl _) hb0
 have hs0 : (w.alloc (.cells #[.pointer none, .slice none 0 0] 63)).heap.size = w.heap.size + 1 := by simp
 have HI0 := lhd hI0
 have Hb0 := lhd hb0
 have HX0 := lhd hX0
 have Hs0 := lhd hs0
 clear hI0 hb0 hX0 hs0
 go_upto_region 2 with (fail)
 generalize w.alloc (.cells #[.pointer none, .slice none 0 0] 63) = Y at *
 have hca := Canonical_own n Z p c (by omega) hz' Y HX0.out
 rw [hfe, hm] at hca
 go_wp2_with fail
 refine hca.mono ?_
 rintro e1 w1 ⟨q, cq, rfl, hR1, hb1, hty⟩
 dsimp only
 go_wp2_with fail
 refine (descending_any q m cq w1).mono ?_
 rintro e2 w2 ⟨rfl, hw2⟩
 dsimp only
 have hs2 : w2.heap.size = w1.heap.size + 1 := by rw [hw2]; simp
 have hb2 : Below w1.heap.size w1 w2 := by rw [hw2]; exact (Below.refl _ _).alloc (Nat.le_refl _) _
 have hbm : Boxed w2 w1.heap.size 22 (.slice q m cq) := by rw [hw2]; exact Boxed.new w1 22 (.slice q m cq)
 have hR2 : RowF w2 q m f := hR1.below (Nat.le_refl _) hb2
 have hs1 := hb1.size
 have hsY := Hs0.out
 have hIB : Lib.IsBuilder 63 5 w.heap.size w.heap.size [] w2 := bldr_below (bldr_below HI0.out hb1) hb2
 have hty2 : ∀ b, q = some b → ∃ cur, w2.heap[b.block]? = some (.cells cur 24 (0, 0)) := fun b e => by
  obtain ⟨cur, h⟩ := hty b e
  exact ⟨cur, (hb2.block _ (Array.getElem?_eq_some_iff.1 h).1).trans h⟩
 have hwb : Below w.heap.size w w2 := (Hb0.out.trans (hb1.mono (by omega))).trans (hb2.mono (by omega))
 obtain ⟨Bm, hBm⟩ : ∃ b, w1.heap.size = b := ⟨_, rfl⟩
 rw [hBm] at hbm hs2 ⊢
 have hBm1 : w.heap.size + 1 ≤ Bm := by omega
 clear hb1 hR1 hty hw2 hb2 hs1 hBm hca HI0 Hb0 HX0 Hs0 hsY
 have hqb : ∀ b, q = some b → b.block ≠ w.heap.size := fun b e h => by
  obtain ⟨cur, hc⟩ := hty2 b e
  obtain ⟨c2, hc2⟩ := bldr_block hIB
  rw [h, hc2] at hc
  have := Option.some.inj hc
  simp at this
 have hhf : ∀ k, k < m → (canon (f k)).mag.size ≤ 1000000 := fun k hk => hcz k (by omega)
 have hAl : ∀ k, k ≤ m → (accP (desL f m k)).length ≤ (m - k) * 4000000 := by
  intro k hk
  obtain ⟨d, hd⟩ : ∃ d, m - k = d := ⟨_, rfl⟩
  rw [hd]
  induction d generalizing k with
  | zero =>
   obtain rfl : k = m := by omega
   rw [desL_top]; simp [accP]
  | succ d ih =>
   rw [desL_succ f (by omega : k < m), accP_snoc]
   have h1 := ih (k + 1) (by omega) (by omega)
   have h2 : (termL k (f k).natAbs).length ≤ 3 * 1000000 + 6 := by
    have h3 := termL_len (n := k) (v := (f k).natAbs) (k := (canon (f k)).mag.size) (by omega) (by have := absZ_lt (canon (f k)); rwa [absZ_canon] at this)
    have := hhf k (by omega)
    omega
   unfold prStep
   split
   ·exact Nat.le_trans h1 (Nat.mul_le_mul_right _ (Nat.le_succ d))
   ·have h4 : (if accP (desL f m (k + 1)) = [] then (if f k < 0 then ([45] : List UInt8) else []) else (if f k < 0 then [32, 45, 32] else [32, 43, 32])).length ≤ 3 := by split <;> split <;> simp
    simp only [List.length_append]
    omega
 have HAl := lhd hAl
 have Hhf := lhd hhf
 have Hres := lhd hRES
 clear hRES hcz hz hz' hX hfe hm hAl
 go_wp2_with fail
 refine rangeW2 (gf := 45) (lb := #[.pointer (some ⟨Bm, 0, none⟩)]) rfl (enters_of Tryz.func45 (by kernel_rfl) rfl)
  (encs := encD) (G := GDes f m) (S := fun xs => xs = desL f m 0) (T := fun _ _ => False) (Kp := KpO w.heap.size)
  (Pre := KKp q m cq f Bm w.heap.size)
  (fun l J Jx X hX hJ _ hY h0 => des1_in l Bm m q cq f J Jx (KpO w.heap.size) (KKp q m cq f Bm w.heap.size) (fun W h => ⟨h.1, h.2.1⟩) (fun A B h k => h.next k) hY X hX (by omega) h0)
  (by rintro r X h; exact h.elim) (fun h k => h.trans k) (fun X l o o' _ ho hc => KpO.put ho hc)
  (fun X hX => ⟨hR2.below (Nat.le_refl _) hX, (hX.block _ hbm.lt).trans hbm, by omega, hqb, fun b e => by
   obtain ⟨cur, h⟩ := hty2 b e
   exact ⟨cur, (hX.block _ (Array.getElem?_eq_some_iff.1 h).1).trans h⟩⟩) (fun _ => rfl)
  (IPp w w2.heap.size m f) (fun _ _ _ => False) (IPp.abides (by omega)) (fun _ _ _ _ _ h => h.elim)
  ⟨m, Nat.le_refl _, (desL_top f m).symm, hIB, hwb, Nat.le_refl _⟩
  (fun z W => IPp w w2.heap.size m f z.1 W ∧ GDes f m z.1 z.2.1 W ∧ ∃ u, w2.heap.size ≤ u ∧ ZBox W u z.2.1.2 ∧ z.2.2 = { tmps := #[.slice p n c, undef, .string ⟨#[]⟩, .pointer (some ⟨w.heap.size, 0, none⟩), .int .i64 (z.2.1.1 : Int), .pointer (some ⟨u, 0, none⟩), .slice p n c, .slice q m cq, (.func (.func 45) #[] #[.pointer (some ⟨Bm, 0, none⟩)]), .int .i64 (z.2.1.1 : Int), .agg #[.bool (canon z.2.1.2).neg, .string (canon z.2.1.2).mag], undef, undef, undef, undef, undef, undef, undef, undef, undef, undef, undef, undef, undef, undef, undef, undef, undef, undef, undef, undef, undef, undef, undef, undef, undef, undef, undef, undef, undef, undef, undef], defers := [] })
  ?hM ?assign ?body ?done ?stop
 case hM =>
  rintro ⟨pre, z, a⟩ W W' row ⟨h1, h2, u, h3, h4, h5⟩ hg hr
  exact ⟨IPp.abides (by omega) _ _ _ _ h1 hg hr, h2, u, h3, heap_turn h4 rfl hg hr, h5⟩
 case assign =>
  rintro l pre ⟨k, x⟩ X K hI hz hK
  dsimp only [encD] at hK ⊢
  obtain ⟨Z, hZ⟩ : ∃ Z, canon x = Z := ⟨_, rfl⟩
  rw [hZ]
  have HK := lhd hK
  clear hK
  gi_wp2
  obtain ⟨k', hk', hp, hI3, hb, hs⟩ := hI
  have hI2 : IPp w w2.heap.size m f pre X := ⟨k', hk', hp, hI3, hb, hs⟩
  refine HK.out _ _ ⟨(IPp.abides (by omega)).alloc _ hI2, hz, X.heap.size, hs, by unfold ZBox; rw [hZ]; exact World.alloc_heap_new X _, by rw [hZ]⟩ ((KeepsOthers.alloc _ _).from _) ⟨by simp, fun k o hk _ _ _ => (World.grownBy_alloc X _ none).block k (Array.getElem?_eq_some_iff.1 hk).1 (by simp) |>.trans hk⟩
 case body =>
  rintro l pre ⟨kk, x⟩ a X ⟨⟨k', hk', hp, hI, hb, hs⟩, ⟨k, hk, hp2, hx⟩, u, hu, hbu, hae⟩
  dsimp only at hp hp2 hae hbu hx
  obtain ⟨hx1, hx2⟩ := Prod.mk.inj hx
  subst hx1
  subst hae
  have hcs := Hhf.out kk hk
  rw [← hx2] at hcs
  have hal := HAl.out (kk + 1) (by omega)
  rw [← hp2] at hal
  obtain ⟨acc, hacc⟩ : ∃ l, accP pre = l := ⟨_, rfl⟩
  rw [hacc] at hI hal
  have hus : w.heap.size ≠ u := by omega
  have HIr : Hid (∀ X2, KpA w w.heap.size X X2 → Lib.IsBuilder 63 5 w.heap.size w.heap.size (Lib.byteCells (prStep acc (kk, x))) X2 → postT w2.heap.size (KpO w.heap.size) (IPp w w2.heap.size m f) (fun _ _ _ => False) (pre ++ [(kk, x)]) X .normal { tmps := #[], defers := [] } X2) := lhd (fun X2 hk2 hi2 => by
   refine ⟨hk2.from _ ?_, hk2.kpo, kk, by omega, ?_, ?_, hb.trans hk2.2.2, Nat.le_trans hs hk2.1⟩
   ·obtain ⟨c, hc⟩ := bldr_block hI; exact ⟨_, hc, rfl⟩
   ·rw [hp2, hx2]; exact (desL_succ f hk).symm
   ·rw [accP_snoc, hacc]; exact hi2)
  have hwx : w.heap.size ≤ X.heap.size := hb.size
  have HZb : Hid (∀ X2, KpA w w.heap.size X X2 → X2.cell? ⟨u, 0, none⟩ = some (.bool (canon x).neg) ∧ X2.cell? ⟨u, 1, none⟩ = some (.string (canon x).mag)) := lhd (fun X2 hk2 => by
   have h := hk2.cells hbu hus.symm (by decide)
   exact ⟨by rw [Lib.cell_of_heap h]; rfl, by rw [Lib.cell_of_heap h]; rfl⟩)
  have HI := lhd hI
  have HKr : Hid (KpA w w.heap.size X X) := lhd ⟨Nat.le_refl _, Lib.OthersKept.refl _ _ _, Below.refl _ _⟩
  have hLn : ∀ W, Lib.IsBuilder 63 5 w.heap.size w.heap.size (Lib.byteCells acc) W → Calls Tryz.prog 39 #[.pointer (some ⟨w.heap.size, 0, none⟩)] W fun e w' => e = .returned (.int .i64 (acc.length : Int)) ∧ w' = W := fun W h => by
   have := Tryz.Builder_Len w.heap.size w.heap.size (Lib.byteCells acc) W h
   rwa [Lib.byteCells_length] at this
  have HLn := lhd (hLn X hI)
  have Hacc := lhd hacc
  obtain ⟨d6, d7⟩ := HZb.out X HKr.out
  by_cases hx0 : x = 0
  ·subst hx0
   have d6' : X.cell? ⟨u, 0, none⟩ = some (.bool false) := d6
   have d7' : X.cell? ⟨u, 1, none⟩ = some (.string ⟨#[]⟩) := d7
   clear d6 d7
   have Hend : Hid (postT w2.heap.size (KpO w.heap.size) (IPp w w2.heap.size m f) (fun _ _ _ => False) (pre ++ [(kk, 0)]) X .normal { tmps := #[], defers := [] } X) := lhd (HIr.out X HKr.out (by unfold prStep; rw [if_pos rfl]; exact HI.out))
   clear HIr hI hb hp hp2 hx hx2 hbu hal
   gi_wp2
   exact Hend.out
  ·have hne : ((canon x).mag.toList == []) = false := by
    rw [beq_eq_false_iff_ne]
    intro h
    have h2 := absZ_canon x
    unfold absZ at h2
    rw [show (canon x).mag.data.toList = [] from by rw [← ByteArray.toList_eq]; exact h] at h2
    have : bval [] = 0 := rfl
    omega
   have hng : (canon x).neg = decide (x < 0) := rfl
   have htm := fun W => term_any kk x (by omega) hcs W
   have htl : (termL kk x.natAbs).length ≤ 3 * 1000000 + 6 := by
    have h3 := termL_len (n := kk) (v := x.natAbs) (k := (canon x).mag.size) (by omega) (by have := absZ_lt (canon x); rwa [absZ_canon] at this)
    omega
   have hps : prStep acc (kk, x) = (acc ++ (if acc = [] then (if x < 0 then [45] else []) else (if x < 0 then [32, 45, 32] else [32, 43, 32]))) ++ termL kk x.natAbs := by
    unfold prStep
    rw [if_neg hx0]
   obtain ⟨ng, hngg⟩ : ∃ b, (canon x).neg = b := ⟨_, rfl⟩
   obtain ⟨Mx, hMx⟩ : ∃ b, (canon x).mag = b := ⟨_, rfl⟩
   rw [hngg, hMx] at htm HZb
   rw [hngg] at hng d6
   rw [hMx] at hne d7
   obtain ⟨T, hT⟩ : ∃ s : ByteArray, (⟨(termL kk x.natAbs).toArray⟩ : ByteArray) = s := ⟨_, rfl⟩
   have hTs : T.size ≤ 3000006 := by rw [← hT]; simp [ByteArray.size]; omega
   rw [hT] at htm
   have HTm := lhd htm
   have HT := lhd hT
   have hlm : acc.length ≤ 400000000 := by
    have : (m - (kk + 1)) * 4000000 ≤ 99 * 4000000 := Nat.mul_le_mul_right _ (by omega)
    omega
   clear htm hT hngg hMx hI hb hp hp2 hx hx2 hbu hal hcs htl hacc hLn
   by_cases hneg : x < 0
   ·obtain rfl : ng = true := by rw [hng]; exact decide_eq_true hneg
    clear hng
    by_cases hl0 : acc = []
    ·subst hl0
     have Hst : Hid (prStep ([] : List UInt8) (kk, x) = (([] : List UInt8) ++ [45]) ++ termL kk x.natAbs) := lhd (by rw [hps, if_pos rfl, if_pos hneg])
     clear hps
     gi_wp2
     refine CallsIn.mono (CallsIn.inRound l (callsIn_wide.2 HLn.out)) ?_
     rintro e9 Y9 ⟨rfl, hY9⟩
     obtain rfl : X = Y9 := hY9.symm
     have HW := lhd (writeString_k w.heap.size w.heap.size (Lib.byteCells ([] : List UInt8)) ⟨#[45]⟩ X HI.out (by rw [Lib.byteCells_length]; show _ + 1 ≤ _; omega) hwx)
     gi_wp2
     refine CallsIn.mono (CallsIn.inRound l (callsIn_wide.2 HW.out)) ?_
     rintro e2 X2 ⟨rfl, hI2, hb2, ho2⟩
     have HI2 : Hid (Lib.IsBuilder 63 5 w.heap.size w.heap.size (Lib.byteCells (([] : List UInt8) ++ [45])) X2) := lhd (by simpa [Lib.byteCells, Lib.strCells] using hI2)
     have HK2 : Hid (KpA w w.heap.size X X2) := lhd ⟨hb2.size, ho2, hb2⟩
     clear hI2 hb2 ho2
     have hwx2 : w.heap.size ≤ X2.heap.size := Nat.le_trans hwx HK2.out.1
     obtain ⟨y6, y7⟩ := HZb.out X2 HK2.out
     gi_wp2
     refine CallsIn.mono (CallsIn.inRound l (callsIn_wide.2 (HTm.out X2))) ?_
     rintro e3 X3 ⟨rfl, hb3⟩
     have HI3 := lhd (bldr_below HI2.out hb3)
     have HK3 := lhd (HK2.out.trans (KpA.of_below hb3 hwx2))
     have hwx3 : w.heap.size ≤ X3.heap.size := Nat.le_trans hwx HK3.out.1
     clear hb3 y6 y7
     have HW3 := lhd (writeString_k w.heap.size w.heap.size (Lib.byteCells (([] : List UInt8) ++ [45])) T X3 HI3.out (by have h8 : ([45] : List UInt8).length ≤ 3 := (by decide); rw [Lib.byteCells_length, List.length_append]; omega) hwx3)
     gi_wp2
     refine CallsIn.mono (CallsIn.inRound l (callsIn_wide.2 HW3.out)) ?_
     rintro e4 X4 ⟨rfl, hI4, hb4, ho4⟩
     have HI4 := lhd hI4
     have HK4 := lhd (HK3.out.trans ⟨hb4.size, ho4, hb4⟩)
     clear hI4 hb4 ho4
     gi_wp2
     refine HIr.out X4 HK4.out ?_
     rw [Hst.out]
     have h9 := HI4.out
     rw [← HT.out] at h9
     simpa [Lib.byteCells, Lib.strCells] using h9
    ·have hlp : acc.length ≠ 0 := fun h => hl0 (List.length_eq_zero_iff.1 h)
     have c1 : ¬ (acc.length : Int) = 0 := by omega
     have c2 : (0 : Int) < (acc.length : Int) := by omega
     have c3 : (acc.length : Int) > 0 := by omega
     have Hst : Hid (prStep acc (kk, x) = (acc ++ [32, 45, 32]) ++ termL kk x.natAbs) := lhd (by rw [hps, if_neg hl0, if_pos hneg])
     clear hps
     gi_wp2
     refine CallsIn.mono (CallsIn.inRound l (callsIn_wide.2 HLn.out)) ?_
     rintro e9 Y9 ⟨rfl, hY9⟩
     obtain rfl : X = Y9 := hY9.symm
     gi_wp2
     refine CallsIn.mono (CallsIn.inRound l (callsIn_wide.2 HLn.out)) ?_
     rintro e9 Y9 ⟨rfl, hY9⟩
     obtain rfl : X = Y9 := hY9.symm
     have HW := lhd (writeString_k w.heap.size w.heap.size (Lib.byteCells acc) ⟨#[32, 45, 32]⟩ X HI.out (by rw [Lib.byteCells_length]; show _ + 3 ≤ _; omega) hwx)
     gi_wp2
     refine CallsIn.mono (CallsIn.inRound l (callsIn_wide.2 HW.out)) ?_
     rintro e2 X2 ⟨rfl, hI2, hb2, ho2⟩
     have HI2 : Hid (Lib.IsBuilder 63 5 w.heap.size w.heap.size (Lib.byteCells (acc ++ [32, 45, 32])) X2) := lhd (by simpa [Lib.byteCells, Lib.strCells] using hI2)
     have HK2 : Hid (KpA w w.heap.size X X2) := lhd ⟨hb2.size, ho2, hb2⟩
     clear hI2 hb2 ho2
     have hwx2 : w.heap.size ≤ X2.heap.size := Nat.le_trans hwx HK2.out.1
     obtain ⟨y6, y7⟩ := HZb.out X2 HK2.out
     gi_wp2
     refine CallsIn.mono (CallsIn.inRound l (callsIn_wide.2 (HTm.out X2))) ?_
     rintro e3 X3 ⟨rfl, hb3⟩
     have HI3 := lhd (bldr_below HI2.out hb3)
     have HK3 := lhd (HK2.out.trans (KpA.of_below hb3 hwx2))
     have hwx3 : w.heap.size ≤ X3.heap.size := Nat.le_trans hwx HK3.out.1
     clear hb3 y6 y7
     have HW3 := lhd (writeString_k w.heap.size w.heap.size (Lib.byteCells (acc ++ [32, 45, 32])) T X3 HI3.out (by have h8 : ([32, 45, 32] : List UInt8).length ≤ 3 := (by decide); rw [Lib.byteCells_length, List.length_append]; omega) hwx3)
     gi_wp2
     refine CallsIn.mono (CallsIn.inRound l (callsIn_wide.2 HW3.out)) ?_
     rintro e4 X4 ⟨rfl, hI4, hb4, ho4⟩
     have HI4 := lhd hI4
     have HK4 := lhd (HK3.out.trans ⟨hb4.size, ho4, hb4⟩)
     clear hI4 hb4 ho4
     gi_wp2
     refine HIr.out X4 HK4.out ?_
     rw [Hst.out]
     have h9 := HI4.out
     rw [← HT.out] at h9
     simpa [Lib.byteCells, Lib.strCells] using h9
   ·obtain rfl : ng = false := by rw [hng]; exact decide_eq_false hneg
    clear hng
    by_cases hl0 : acc = []
    ·subst hl0
     have Hst : Hid (prStep ([] : List UInt8) (kk, x) = (([] : List UInt8) ++ []) ++ termL kk x.natAbs) := lhd (by rw [hps, if_pos rfl, if_neg hneg])
     clear hps
     gi_wp2
     refine CallsIn.mono (CallsIn.inRound l (callsIn_wide.2 HLn.out)) ?_
     rintro e9 Y9 ⟨rfl, hY9⟩
     obtain rfl : X = Y9 := hY9.symm
     gi_wp2
     refine CallsIn.mono (CallsIn.inRound l (callsIn_wide.2 HLn.out)) ?_
     rintro e9 Y9 ⟨rfl, hY9⟩
     obtain rfl : X = Y9 := hY9.symm
     gi_wp2
     refine CallsIn.mono (CallsIn.inRound l (callsIn_wide.2 HLn.out)) ?_
     rintro e9 Y9 ⟨rfl, hY9⟩
     obtain rfl : X = Y9 := hY9.symm
     have HI2 : Hid (Lib.IsBuilder 63 5 w.heap.size w.heap.size (Lib.byteCells (([] : List UInt8) ++ [])) X) := lhd (by rw [List.append_nil]; exact HI.out)
     have HK2 := HKr
     have hwx2 : w.heap.size ≤ X.heap.size := Nat.le_trans hwx HK2.out.1
     obtain ⟨y6, y7⟩ := HZb.out X HK2.out
     gi_wp2
     refine CallsIn.mono (CallsIn.inRound l (callsIn_wide.2 (HTm.out X))) ?_
     rintro e3 X3 ⟨rfl, hb3⟩
     have HI3 := lhd (bldr_below HI2.out hb3)
     have HK3 := lhd (HK2.out.trans (KpA.of_below hb3 hwx2))
     have hwx3 : w.heap.size ≤ X3.heap.size := Nat.le_trans hwx HK3.out.1
     clear hb3 y6 y7
     have HW3 := lhd (writeString_k w.heap.size w.heap.size (Lib.byteCells (([] : List UInt8) ++ [])) T X3 HI3.out (by have h8 : ([] : List UInt8).length ≤ 3 := (by decide); rw [Lib.byteCells_length, List.length_append]; omega) hwx3)
     gi_wp2
     refine CallsIn.mono (CallsIn.inRound l (callsIn_wide.2 HW3.out)) ?_
     rintro e4 X4 ⟨rfl, hI4, hb4, ho4⟩
     have HI4 := lhd hI4
     have HK4 := lhd (HK3.out.trans ⟨hb4.size, ho4, hb4⟩)
     clear hI4 hb4 ho4
     gi_wp2
     refine HIr.out X4 HK4.out ?_
     rw [Hst.out]
     have h9 := HI4.out
     rw [← HT.out] at h9
     simpa [Lib.byteCells, Lib.strCells] using h9
    ·have hlp : acc.length ≠ 0 := fun h => hl0 (List.length_eq_zero_iff.1 h)
     have c1 : ¬ (acc.length : Int) = 0 := by omega
     have c2 : (0 : Int) < (acc.length : Int) := by omega
     have c3 : (acc.length : Int) > 0 := by omega
     have Hst : Hid (prStep acc (kk, x) = (acc ++ [32, 43, 32]) ++ termL kk x.natAbs) := lhd (by rw [hps, if_neg hl0, if_neg hneg])
     clear hps
     gi_wp2
     refine CallsIn.mono (CallsIn.inRound l (callsIn_wide.2 HLn.out)) ?_
     rintro e9 Y9 ⟨rfl, hY9⟩
     obtain rfl : X = Y9 := hY9.symm
     gi_wp2
     refine CallsIn.mono (CallsIn.inRound l (callsIn_wide.2 HLn.out)) ?_
     rintro e9 Y9 ⟨rfl, hY9⟩
     obtain rfl : X = Y9 := hY9.symm
     gi_wp2
     refine CallsIn.mono (CallsIn.inRound l (callsIn_wide.2 HLn.out)) ?_
     rintro e9 Y9 ⟨rfl, hY9⟩
     obtain rfl : X = Y9 := hY9.symm
     have HW := lhd (writeString_k w.heap.size w.heap.size (Lib.byteCells acc) ⟨#[32, 43, 32]⟩ X HI.out (by rw [Lib.byteCells_length]; show _ + 3 ≤ _; omega) hwx)
     gi_wp2
     refine CallsIn.mono (CallsIn.inRound l (callsIn_wide.2 HW.out)) ?_
     rintro e2 X2 ⟨rfl, hI2, hb2, ho2⟩
     have HI2 : Hid (Lib.IsBuilder 63 5 w.heap.size w.heap.size (Lib.byteCells (acc ++ [32, 43, 32])) X2) := lhd (by simpa [Lib.byteCells, Lib.strCells] using hI2)
     have HK2 : Hid (KpA w w.heap.size X X2) := lhd ⟨hb2.size, ho2, hb2⟩
     clear hI2 hb2 ho2
     have hwx2 : w.heap.size ≤ X2.heap.size := Nat.le_trans hwx HK2.out.1
     obtain ⟨y6, y7⟩ := HZb.out X2 HK2.out
     gi_wp2
     refine CallsIn.mono (CallsIn.inRound l (callsIn_wide.2 (HTm.out X2))) ?_
     rintro e3 X3 ⟨rfl, hb3⟩
     have HI3 := lhd (bldr_below HI2.out hb3)
     have HK3 := lhd (HK2.out.trans (KpA.of_below hb3 hwx2))
     have hwx3 : w.heap.size ≤ X3.heap.size := Nat.le_trans hwx HK3.out.1
     clear hb3 y6 y7
     have HW3 := lhd (writeString_k w.heap.size w.heap.size (Lib.byteCells (acc ++ [32, 43, 32])) T X3 HI3.out (by have h8 : ([32, 43, 32] : List UInt8).length ≤ 3 := (by decide); rw [Lib.byteCells_length, List.length_append]; omega) hwx3)
     gi_wp2
     refine CallsIn.mono (CallsIn.inRound l (callsIn_wide.2 HW3.out)) ?_
     rintro e4 X4 ⟨rfl, hI4, hb4, ho4⟩
     have HI4 := lhd hI4
     have HK4 := lhd (HK3.out.trans ⟨hb4.size, ho4, hb4⟩)
     clear hI4 hb4 ho4
     gi_wp2
     refine HIr.out X4 HK4.out ?_
     rw [Hst.out]
     have h9 := HI4.out
     rw [← HT.out] at h9
     simpa [Lib.byteCells, Lib.strCells] using h9
 case done =>
  rintro D xs X hD hS ⟨k, hk, hp, hI, hbX, hs⟩ hK
  obtain ⟨acc, hacc⟩ : ∃ l, accP xs = l := ⟨_, rfl⟩
  have hres : RES = ⟨(if acc = [] then ([48] : List UInt8) else acc).toArray⟩ := by
   rw [← Hres.out, polL, ← hS, hacc]
  rw [hacc] at hI
  have hLn : Calls Tryz.prog 39 #[.pointer (some ⟨w.heap.size, 0, none⟩)] X fun e w' => e = .returned (.int .i64 (acc.length : Int)) ∧ w' = X := by
   have := Tryz.Builder_Len w.heap.size w.heap.size (Lib.byteCells acc) X hI
   rwa [Lib.byteCells_length] at this
  have hSt := Tryz.Builder_String_any_k w.heap.size w.heap.size acc X (Lib.IsBuilderF.of hI) hbX.size
  have HLn := lhd hLn
  have HSt := lhd hSt
  have HK := lhd hK
  have HB := lhd hbX
  clear hLn hSt hK hI hS hp hbm hty2 hwb hR2 hIB hqb
  by_cases hl0 : acc = []
  ·have hl : (acc.length : Int) = 0 := by rw [hl0]; rfl
   rw [hl] at HLn
   rw [if_pos hl0] at hres
   have Hr := lhd hres
   clear hres hl
   go_wp2_with fail
   refine HLn.out.mono ?_
   rintro e9 Y9 ⟨rfl, hY9⟩
   obtain rfl : X = Y9 := hY9.symm
   dsimp only
   go_wp2_with fail
   refine ⟨by simp, .inl ⟨_, _, rfl, run_takeDeferred HK.out, ?_⟩⟩
   refine ⟨.string ⟨#[48]⟩, ?_, by rw [Hr.out], ?_⟩
   ·simp [results, Tryz.results17, go_sem]
   ·exact HB.out.trans (belowK_b (w := w) (Nat.le_refl _) _ D _ _ (by omega) HK.out rfl rfl)
  ·have hlp : acc.length ≠ 0 := fun h => hl0 (List.length_eq_zero_iff.1 h)
   have c1 : ¬ (acc.length : Int) = 0 := by omega
   rw [if_neg hl0] at hres
   have Hr := lhd hres
   clear hres
   go_wp2_with fail
   refine HLn.out.mono ?_
   rintro e9 Y9 ⟨rfl, hY9⟩
   obtain rfl : X = Y9 := hY9.symm
   dsimp only
   go_wp2_with fail
   refine HSt.out.mono ?_
   rintro e8 Y8 ⟨rfl, _, hb8, ho8⟩
   dsimp only
   have Hb8 := lhd (HB.out.trans hb8)
   have HK8 := lhd (ho8 D _ HK.out (by intro h; cases h; omega) (by rintro c fz h; cases h))
   clear hb8 ho8
   go_wp2_with fail
   refine ⟨by simp, .inl ⟨_, _, rfl, run_takeDeferred HK8.out, ?_⟩⟩
   refine ⟨.string ⟨acc.toArray⟩, ?_, by rw [Hr.out], ?_⟩
   ·simp [results, Tryz.results17, go_sem]
   ·exact Hb8.out.trans (belowK_b (w := w) (Nat.le_refl _) _ D _ _ (by omega) HK8.out rfl rfl)
 case stop =>
  rintro D c pre X hD h hK
  exact h.elim
end Go.Proofs.YtmbamcpndbimaaaGreatDoor
