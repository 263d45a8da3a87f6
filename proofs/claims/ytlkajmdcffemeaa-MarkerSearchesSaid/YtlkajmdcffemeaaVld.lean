/- The walk of marker.valid. -/
import Derived.Test.YtlkajmdcffemeaaSlp
import Derived.Test.YtlkajmdcffemeaaRange2
import Derived.Test.YtlkajmdcffemeaaIns
import Derived.Test.YtlkajmdcffemeaaLift
import Derived.Shelf.RegionOpen
import Derived.Deep.OwnRows
import Derived.Deep.RegionHeld
import Derived.Laws.OwnMore
namespace Go.Proofs.Ytlkajmdcffemeaa
open Go.RowKit Go.Shelf
theorem wide_fn (f : FuncId) : Fence.wide.fn f = True := rfl
attribute [local go_sem] Oper.semAt_some wide_fn

/-- The blocks of a track in which one word has slipped. -/
def slipL (b : Nat) (m : ByteArray) (ws : List ByteArray) (x : Nat × Int × ByteArray) : List (ByteArray × Int) := blksW b m ⟨(trackL m (ws.set x.1 x.2.2)).toArray⟩
/-- The slip is located. -/
def GoodS (b : Nat) (m : ByteArray) (ws : List ByteArray) (x : Nat × Int × ByteArray) : Prop :=
  okB (slipL b m ws x) = true ∧ (slipL b m ws x).map (·.2) = (List.replicate ws.length (0 : Int)).set x.1 x.2.1
def ValidP (b : Nat) (m : ByteArray) (ws : List ByteArray) : Prop := ∀ x, SlipOf ws x → GoodS b m ws x
/-- What a call returns that tells whether p. -/
def RetIff (p : Prop) (w : World) (e : Ending) (w' : World) : Prop := ∃ v : Bool, e = .returned (.bool v) ∧ (v = true ↔ p) ∧ Below w.heap.size w w'

theorem slips_any (p : Option Addr) (n c : Nat) (w : World) :
    Calls Try.prog 75 #[.slice p n c] w fun e w' => e = .returned (.func (.func 91) #[] #[.pointer (some ⟨w.heap.size, 0, none⟩)]) ∧ w' = w.alloc (.cells #[.slice p n c] 42) := by
  go_enter Try.func75, Try.ntmps75
  go_wp2
  go_ret
  exact ⟨rfl, rfl⟩

theorem eqInts_any (a b : List Int) (pa pb : Option Addr) (ca cb : Nat) (w : World) (hA : IntsAt w pa a) (hB : IntsAt w pb b) (hla : a.length < 1000000000000) (hlb : b.length < 1000000000000) :
    Calls Try.prog 27 #[.slice pa a.length ca, .slice pb b.length cb] w fun e w' => e = .returned (.bool (a == b)) ∧ Drawn w w' := by
  by_cases ha : a = []
  · subst ha
    refine (Try.slices_Equal_int_empty pa pb ca b.length cb w (by omega)).mono ?_
    rintro e w' ⟨rfl, rfl⟩
    refine ⟨?_, Drawn.refl _⟩
    cases b <;> simp
  · by_cases hb : b = []
    · subst hb
      have h0 : a.length ≠ 0 := fun h => ha (List.length_eq_zero_iff.1 h)
      refine (Try.slices_Equal_int_lens pa pb a.length ca 0 cb w h0).mono ?_
      rintro e w' ⟨rfl, rfl⟩
      refine ⟨?_, Drawn.refl _⟩
      cases a with
      | nil => exact absurd rfl ha
      | cons x xs => rfl
    · obtain ⟨ab, ao, rfl, _, hca⟩ := IntsAt.cells hA (k := 0) (by have := mt List.length_eq_zero_iff.1 ha; omega)
      obtain ⟨bb, bo, rfl, _, hcb⟩ := IntsAt.cells hB (k := 0) (by have := mt List.length_eq_zero_iff.1 hb; omega)
      refine (Try.slices_Equal_int ab ao a.length ca bb bo b.length cb a b w (Nat.le_refl _) (Nat.le_refl _) (by omega) (by omega) hca hcb).mono ?_
      rintro e w' ⟨rfl, q, rfl⟩
      rw [List.take_length, List.take_length]
      exact ⟨rfl, ⟨q, rfl⟩⟩
theorem cloneStrs_any (a : List ByteArray) (p : Option Addr) (c : Nat) (w : World) (hA : StrsAt w p a) (h0 : 0 < a.length) (hl : a.length ≤ 1000000) :
    Calls Try.prog 76 #[.slice p a.length c] w fun e w' => ∃ g cap, e = .returned (.slice (some ⟨g, 0, none⟩) a.length cap) ∧ OwnStrs w' w.heap.size (.slice (some ⟨g, 0, none⟩) a.length cap) a ∧ Below w.heap.size w w' := by
  obtain ⟨ab, ao, rfl, _, hca⟩ := StrsAt.cells hA (k := 0) h0
  refine (Try.slices_Clone_string ab ao a.length c a w (Nat.le_refl _) (by omega) hca).mono ?_
  rintro e w' ⟨v, rfl, ho, _, hb⟩
  rw [List.take_length] at ho
  obtain ⟨k, hk⟩ : ∃ k, a.length = k + 1 := ⟨a.length - 1, by omega⟩
  have ho2 : w'.ownsRow w.heap.size 9 1 v (k + 1) (a.map Value.string) := by rw [← hk]; exact ho
  obtain ⟨g, cap, rfl⟩ := ownsRow_succ ho2
  rw [← hk] at ho ⊢
  exact ⟨g, cap, rfl, ho, hb⟩
/-- make([]int, n). -/
theorem make_ints (kl kc : IntKind) (n : Nat) (h : n ≤ 1000000) (w : World) :
    (Instr.makeSlice 25 (.int kl (n : Int)) (.int kc (n : Int))).run Try.prog w = .ok (.slice (some ⟨w.heap.size, 0, none⟩) n n) (w.alloc (.cells (madeCells #[.int .i64 0] n) 3)) :=
  run_make_row' 25 3 (.int .i64 0) 8 Try.underlying25 intInfo rfl kl kc n (by omega) (by omega) w
theorem made_ints (w : World) (n : Nat) (hn : n ≤ 1000000) : OwnInts (w.alloc (.cells (madeCells #[.int .i64 0] n) 3)) w.heap.size (.slice (some ⟨w.heap.size, 0, none⟩) n n) (List.replicate n 0) := by
  have h := World.ownsRow_lit (e := 3) (size := 1) w (madeCells #[.int .i64 0] n) n (Nat.le_refl w.heap.size) (by unfold maxLen; omega) (by simp [madeCells])
  rw [toList_madeCells_one] at h
  unfold OwnInts
  rw [List.length_replicate, List.map_replicate]
  exact h

/-- What the caller's invariants of valid abide. -/
def IVal (b : Nat) (m : ByteArray) (ws : List ByteArray) (w1 : World) (pre : List (Nat × Int × ByteArray)) (W : World) : Prop := (∀ x ∈ pre, GoodS b m ws x) ∧ Below w1.heap.size w1 W
def XVal (b : Nat) (m : ByteArray) (ws : List ByteArray) (w w1 : World) (c : Code) (_ : List (Nat × Int × ByteArray)) (W : World) : Prop :=
  c = .ret ∧ ¬ ValidP b m ws ∧ Boxed W (w.heap.size + 1 + 1 + 1) 4 (.bool false) ∧ Below w.heap.size w W ∧ w1.heap.size ≤ W.heap.size
theorem turn_ge {B r : Nat} {W : World} (h : TurnT B (fun _ _ => False) r W) : B ≤ r := by
  rcases h with h | h
  · exact h.elim
  · exact h.1
theorem IVal.abides {b : Nat} {m : ByteArray} {ws : List ByteArray} {w1 : World} : AbT (TurnT w1.heap.size (fun _ _ => False)) (IVal b m ws w1) := by
  rintro pre W W' row ⟨h1, h2⟩ hg hr
  exact ⟨h1, h2.grown hg h2.size fun k e => turn_ge (hr k e)⟩
theorem XVal.abides {b : Nat} {m : ByteArray} {ws : List ByteArray} {w w1 : World} (h : w.heap.size + 4 ≤ w1.heap.size) (c : Code) : AbT (TurnT w1.heap.size (fun _ _ => False)) (XVal b m ws w w1 c) := by
  rintro pre W W' row ⟨rfl, hL, ha, hw, hs⟩ hg hr
  refine ⟨rfl, hL, ha.kept hg (fun e => ?_), hw.grown hg (by omega) fun k e => ?_, Nat.le_trans hs hg.size⟩
  · have := turn_ge (hr _ e.symm); omega
  · have := turn_ge (hr _ e); omega

theorem trackL_len (m : ByteArray) (k : Nat) : ∀ ws : List ByteArray, (∀ x ∈ ws, x.size ≤ k) → (trackL m ws).length ≤ ws.length * (k + m.size)
  | [], _ => by simp [trackL]
  | x :: ws, h => by
    have ih := trackL_len m k ws (fun y hy => h y (List.mem_cons_of_mem _ hy))
    have hx := h x (List.mem_cons_self ..)
    have e : trackL m (x :: ws) = (x ++ m).data.toList ++ trackL m ws := rfl
    rw [e, List.length_append, List.length_cons, Nat.succ_mul]
    have : (x ++ m).data.toList.length = x.size + m.size := by rw [Array.length_toList]; exact ByteArray.size_append
    omega
theorem slip_le {b : Nat} {ws : List ByteArray} {x : Nat × Int × ByteArray} (hz : ∀ x ∈ ws, x.size = b) (h : SlipOf ws x) : x.2.2.size ≤ b + 1 := by
  have hs := hz _ (getD_mem ws x.1 ByteArray.empty h.1)
  rcases h.2 with ⟨k, hk, he⟩ | ⟨k, j, hk, hj, he⟩
  · rw [he]; show (dropAt _ _).size ≤ _
    unfold dropAt
    rw [ByteArray.size_append, ByteArray.size_extract, ByteArray.size_extract]; omega
  · rw [he]; show (insAt _ _ _).size ≤ _
    unfold insAt
    rw [ByteArray.size_append, ByteArray.size_append, ByteArray.size_extract, ByteArray.size_extract]
    have : (bitC j).size = 1 := by unfold bitC; split <;> rfl
    omega
theorem slip_size {b i : Nat} {sh : Int} {m u0 : ByteArray} {ws : List ByteArray} (hb : 1 ≤ b) (hz : ∀ x ∈ ws, x.size = b) (hn : ws.length * (b + m.size) ≤ 1024) (h : SlipOf ws (i, sh, u0)) : (trackL m (ws.set i u0)).length ≤ 1000000 := by
  have h1 := trackL_len m (b + 1) (ws.set i u0) (fun x hx => by
    rcases List.mem_or_eq_of_mem_set hx with h2 | h2
    · have := hz x h2; omega
    · rw [h2]; exact slip_le hz h)
  rw [List.length_set] at h1
  have h2 : ws.length * (b + 1 + m.size) = ws.length * (b + m.size) + ws.length := by rw [show b + 1 + m.size = (b + m.size) + 1 from by omega, Nat.mul_succ]
  have h3 : ws.length ≤ ws.length * (b + m.size) := Nat.le_mul_of_pos_right _ (by omega)
  omega
theorem lt_y {X Y : World} {u : Nat} (h : u < X.heap.size) (hb : Hid (Below X.heap.size X Y)) : u < Y.heap.size := Nat.lt_of_lt_of_le h hb.out.size

theorem keeps_of_below {B : Nat} {X Z : World} (h : Below X.heap.size X Z) : KeepsFrom B X Z := ⟨h.size, fun k o _ hk _ => (h.block k (Array.getElem?_eq_some_iff.1 hk).1).trans hk⟩
theorem val_next {b : Nat} {m : ByteArray} {ws : List ByteArray} {w w1 X Z : World} {pre : List (Nat × Int × ByteArray)} {x : Nat × Int × ByteArray} {a : Act} (hb : Below X.heap.size X Z) (hg : GoodS b m ws x) (hp : ∀ y ∈ pre, GoodS b m ws y) (hx : Below w1.heap.size w1 X) :
    postT w1.heap.size KpC (IVal b m ws w1) (XVal b m ws w w1) (pre ++ [x]) X .normal a Z :=
  ⟨keeps_of_below hb, KpC.of_below hb, fun y hy => by
    rcases List.mem_append.1 hy with h | h
    · exact hp y h
    · rw [List.mem_singleton.1 h]; exact hg, hx.trans (hb.mono hx.size)⟩
theorem val_ret {b : Nat} {m : ByteArray} {ws : List ByteArray} {w w1 X Z : World} {k : List (Nat × Int × ByteArray)} {a : Act} (hb : Below X.heap.size X Z) (h6 : Boxed Z (w.heap.size + 1 + 1 + 1) 4 (.bool false)) (hn : ¬ ValidP b m ws) (hx : Below w1.heap.size w1 X) (hw : Below w.heap.size w w1) (hs : w.heap.size + 4 ≤ w1.heap.size) :
    postT w1.heap.size KpC (IVal b m ws w1) (XVal b m ws w w1) k X .ret a (Z.setCell ⟨w.heap.size + 1 + 1 + 1, 0, none⟩ (.bool false)) := by
  have h1 := hx.size
  have h2 := hb.size
  refine ⟨(keeps_of_below hb).trans ((KeepsOthers.setCell _ _ _).from _), rfl, hn, h6.set _, ?_, by simp; omega⟩
  exact ((hw.trans (hx.mono (by omega))).trans (hb.mono (by omega))).setCell (by simp; omega) _

/-- The round's own slip, in a block of its own. -/
def SlipBox (W : World) (u : Nat) (x : Nat × Int × ByteArray) : Prop := W.cell? ⟨u, 0, none⟩ = some (.int .i64 (x.1 : Int)) ∧ W.cell? ⟨u, 1, none⟩ = some (.int .i64 x.2.1) ∧ W.cell? ⟨u, 2, none⟩ = some (.string x.2.2) ∧ u < W.heap.size
theorem cell_turn0 {W W' : World} {row : Option Nat} {B : Nat} {a : Addr} {v : Value} (h : W.cell? a = some v) (hg : W.grownBy W' row) (hr : ∀ r, row = some r → TurnT B (fun _ _ => False) r W) : W'.cell? a = some v := by
  obtain ⟨o, ho⟩ : ∃ o, W.heap[a.block]? = some o := by
    unfold World.cell? at h
    cases e : W.heap[a.block]? with
    | none => simp [e] at h
    | some o => exact ⟨o, rfl⟩
  have hb : W'.heap[a.block]? = W.heap[a.block]? := hg.block _ (Array.getElem?_eq_some_iff.1 ho).1 (fun e => by
    rcases hr _ e.symm with h0 | ⟨_, o2, ho2, hc2⟩
    · exact h0
    · rw [ho] at ho2; cases ho2
      rw [isCells_of_cell h o ho] at hc2; cases hc2)
  rw [← h]; unfold World.cell?; rw [hb]
theorem SlipBox.turn {W W' : World} {row : Option Nat} {B u : Nat} {x : Nat × Int × ByteArray} (h : SlipBox W u x) (hg : W.grownBy W' row) (hr : ∀ r, row = some r → TurnT B (fun _ _ => False) r W) : SlipBox W' u x :=
  ⟨cell_turn0 h.1 hg hr, cell_turn0 h.2.1 hg hr, cell_turn0 h.2.2.1 hg hr, Nat.lt_of_lt_of_le h.2.2.2 hg.size⟩

set_option maxRecDepth 100000 in
set_option maxHeartbeats 4000000 in
theorem valid_any (b : Nat) (m : ByteArray) (ws : List ByteArray) (p : Option Addr) (c : Nat) (hb1 : 1 ≤ b) (hb2 : b ≤ 100000) (hm : 0 < m.size) (hm2 : m.size ≤ 100000) (hz : ∀ x ∈ ws, x.size = b) (hn : ws.length * (b + m.size) ≤ 1024) (w : World) (hS : StrsAt w p ws) :
    Calls Try.prog 57 #[.int .i64 (b : Int), .string m, .slice p ws.length c] w (RetIff (ValidP b m ws) w) := by
  have hwl : ws.length ≤ 1024 := Nat.le_trans (by have := Nat.le_mul_of_pos_right ws.length (show 0 < b + m.size by omega); exact this) hn
  refine calls_marks Try.func57 rfl ?_
  simp only [Try.ntmps57, List.size_toArray, List.length_cons, List.length_nil, Nat.reduceAdd, Nat.reduceSub, Array.replicate_succ, Array.replicate_zero, List.push_toArray, List.append_toArray, List.nil_append, List.cons_append]
  go_wp2_with (go_at_call 75; go_fit (slips_any p ws.length c _); rintro e w1 ⟨rfl, hw1⟩; have Hw1 := Lib.hid hw1; clear hw1)
  have hs1 : w1.heap.size = w.heap.size + 5 := by rw [Hw1.out]; simp
  have hbl : Boxed w1 (w.heap.size + 1 + 1 + 1 + 1) 42 (.slice p ws.length c) := by
    rw [Hw1.out]
    have := Boxed.new ((((w.alloc (.cells #[.int .i64 (b : Int)] 3)).alloc (.cells #[.string m] 9)).alloc (.cells #[.slice p ws.length c] 42)).alloc (.cells #[.bool false] 4)) 42 (.slice p ws.length c)
    simpa using this
  have hb6 : Boxed w1 (w.heap.size + 1 + 1 + 1) 4 (.bool false) := by
    rw [Hw1.out]
    have := (Boxed.new (((w.alloc (.cells #[.int .i64 (b : Int)] 3)).alloc (.cells #[.string m] 9)).alloc (.cells #[.slice p ws.length c] 42)) 4 (.bool false)).alloc (.cells #[.slice p ws.length c] 42)
    simpa using this
  have hb5 : Boxed w1 (w.heap.size + 1 + 1) 42 (.slice p ws.length c) := by
    rw [Hw1.out]
    have := ((Boxed.new ((w.alloc (.cells #[.int .i64 (b : Int)] 3)).alloc (.cells #[.string m] 9)) 42 (.slice p ws.length c)).alloc (.cells #[.bool false] 4)).alloc (.cells #[.slice p ws.length c] 42)
    simpa using this
  have hb4 : Boxed w1 (w.heap.size + 1) 9 (.string m) := by
    rw [Hw1.out]
    have := (((Boxed.new (w.alloc (.cells #[.int .i64 (b : Int)] 3)) 9 (.string m)).alloc (.cells #[.slice p ws.length c] 42)).alloc (.cells #[.bool false] 4)).alloc (.cells #[.slice p ws.length c] 42)
    simpa using this
  have hb3 : Boxed w1 w.heap.size 3 (.int .i64 (b : Int)) := by
    rw [Hw1.out]
    exact ((((Boxed.new w 3 (.int .i64 (b : Int))).alloc _).alloc _).alloc _).alloc _
  have hw10 : Below w.heap.size w w1 := by
    rw [Hw1.out]
    exact (((((Below.refl _ _).alloc (Nat.le_refl _) _).alloc (by simp) _).alloc (by simp; omega) _).alloc (by simp; omega) _).alloc (by simp; omega) _
  have hS1 : StrsAt w1 p ws := hS.below (Nat.le_refl _) hw10
  clear Hw1
  refine rangeW2 (gf := 91) (lb := #[.pointer (some ⟨w.heap.size + 1 + 1 + 1 + 1, 0, none⟩)]) rfl (enters_of Try.func91 (by kernel_rfl) rfl)
    (encs := encS) (G := fun _ x _ => SlipOf ws x) (S := fun xs => ∀ x, SlipOf ws x → x ∈ xs) (T := fun _ _ => False) (Kp := KpC)
    (Pre := fun X => Boxed X (w.heap.size + 1 + 1 + 1 + 1) 42 (.slice p ws.length c) ∧ StrsAt X p ws)
    (fun l J Jx X hX hJ _ hY h0 => slips1_in l _ ws p c J Jx hJ hY X hX.1 hX.2 (by omega) (fun x hx => by rw [hz x hx]; omega) h0)
    (by rintro r X h; exact h.elim) (fun h k => h.trans k) (fun X l o o' hl ho hc => KpC.put o' ho hc)
    (fun X hX => ⟨(hX.block _ hbl.lt).trans hbl, hS1.below (Nat.le_refl _) hX⟩) (fun _ => rfl)
    (IVal b m ws w1) (XVal b m ws w w1) IVal.abides (XVal.abides (by omega))
    ⟨by simp, Below.refl _ _⟩
    (fun q W => IVal b m ws w1 q.1 W ∧ SlipOf ws q.2.1 ∧ ∃ u, w1.heap.size ≤ u ∧ SlipBox W u q.2.1 ∧ q.2.2 = { tmps := #[.int .i64 (b : Int), .string m, .slice p ws.length c, .pointer (some ⟨w.heap.size, 0, none⟩), .pointer (some ⟨w.heap.size + 1, 0, none⟩), .pointer (some ⟨w.heap.size + 1 + 1, 0, none⟩), .pointer (some ⟨w.heap.size + 1 + 1 + 1, 0, none⟩), .pointer (some ⟨u, 0, none⟩), undef, undef, undef, undef, .slice p ws.length c, .func (.func 91) #[] #[.pointer (some ⟨w.heap.size + 1 + 1 + 1 + 1, 0, none⟩)], .agg #[.int .i64 (q.2.1.1 : Int), .int .i64 q.2.1.2.1, .string q.2.1.2.2], undef, undef, undef, undef, undef, undef, undef, undef, undef, undef, undef, undef, undef, undef, undef, undef, undef, undef, undef, undef, undef, undef, undef, undef, undef, undef, undef, undef, undef, undef, undef, undef, undef, undef], defers := [] })
    ?hM ?assign ?body ?done ?stop
  case hM =>
    rintro ⟨pre, z, a⟩ W W' row ⟨h1, h2, u, h3, h4, h5⟩ hg hr
    exact ⟨IVal.abides _ _ _ _ h1 hg hr, h2, u, h3, h4.turn hg (fun r e => hr r e), h5⟩
  case assign =>
    intro l pre z X K hI hz hK
    dsimp only [encS]
    gi_wp2
    have hX : w1.heap.size ≤ X.heap.size := hI.2.size
    refine hK _ _ ⟨⟨hI.1, hI.2.alloc hX _⟩, hz, X.heap.size, hX, ⟨?_, ?_, ?_, by simp⟩, rfl⟩ ((KeepsOthers.alloc _ _).from _) (KpC.of_below ((Below.refl _ _).alloc (Nat.le_refl _) _))
    · simp
    · simp
    · simp
  case body =>
    rintro l pre ⟨i, sh, u0⟩ a X ⟨⟨hgood, hbx⟩, hz, u, hu, ⟨c0, c1, c2, hult⟩, hae⟩
    dsimp only at hgood hbx hz c0 c1 c2 hae
    subst hae
    have hX : w1.heap.size ≤ X.heap.size := hbx.size
    have hx3 : Boxed X w.heap.size 3 (.int .i64 (b : Int)) := (hbx.block _ (by omega)).trans hb3
    have hx4 : Boxed X (w.heap.size + 1) 9 (.string m) := (hbx.block _ (by omega)).trans hb4
    have hx5 : Boxed X (w.heap.size + 1 + 1) 42 (.slice p ws.length c) := (hbx.block _ (by omega)).trans hb5
    have hx6 : Boxed X (w.heap.size + 1 + 1 + 1) 4 (.bool false) := (hbx.block _ (by omega)).trans hb6
    have hSX : StrsAt X p ws := hS1.below (Nat.le_refl _) hbx
    have h5c := hx5.cell
    have hi : i < ws.length := hz.1
    have Hgood := Lib.hid hgood
    have Hz := Lib.hid hz
    have HSX := Lib.hid hSX
    have Hzz := Lib.hid hz
    clear hgood hz hSX hS hS1 hb3 hb4 hb5 hb6 hbl
    gi_wp2
    refine CallsIn.mono (CallsIn.inRound l (callsIn_wide.2 (cloneStrs_any ws p c X HSX.out (by omega) (by omega)))) ?_
    rintro e W2 ⟨g, cap, rfl, ho, hb⟩
    have Ho := Lib.hid ho
    have Hb := Lib.hid hb
    have d0 := (hb.cell (p := ⟨u, 0, none⟩) hult).trans c0
    have d1 := (hb.cell (p := ⟨u, 1, none⟩) hult).trans c1
    have d2 := (hb.cell (p := ⟨u, 2, none⟩) hult).trans c2
    have hg1 : X.heap.size ≤ g := (World.ownsRow.lt ho g rfl).1
    have hg2 : g < W2.heap.size := (World.ownsRow.lt ho g rfl).2
    have dg := World.ownsRow.cellAt ho i (by omega)
    have dgf := World.ownsRow.frozenAt ho i
    have hi0 : (0 : Int) ≤ (i : Int) := by omega
    have hi1 : (i : Int) < (ws.length : Int) := by omega
    rw [List.getElem?_map, List.getElem?_eq_getElem hi] at dg
    simp only [Option.map_some] at dg
    clear ho hb
    gi_wp2
    have hst := World.ownsRow.stored Ho.out i (.string u0)
    have HbY : Hid (Below X.heap.size X (W2.setCell ⟨g, i, none⟩ (.string u0))) := Lib.hid (Hb.out.setCell hg1 _)
    have HoY : Hid (OwnStrs (W2.setCell ⟨g, i, none⟩ (.string u0)) X.heap.size (.slice (some ⟨g, 0, none⟩) (ws.set i u0).length cap) (ws.set i u0)) := Lib.hid (by
      unfold OwnStrs
      rw [List.length_set, List.map_set]
      exact hst.1)
    clear hst Ho dg dgf d0 d1 d2 hg2 h5c
    generalize W2.setCell ⟨g, i, none⟩ (.string u0) = Y at *
    clear Hb
    have y3 := (HbY.out.cell (p := ⟨w.heap.size, 0, none⟩) hx3.lt).trans hx3.cell
    have y4 := (HbY.out.cell (p := ⟨w.heap.size + 1, 0, none⟩) hx4.lt).trans hx4.cell
    have htl : (trackL m (ws.set i u0)).length ≤ 1000000 := slip_size (by omega) hz hn Hz.out
    have Htr : Hid (Calls Try.prog 42 #[.string m, .slice (some ⟨g, 0, none⟩) ws.length cap] Y.drew fun e w' => e = .returned (.string ⟨(trackL m (ws.set i u0)).toArray⟩) ∧ Below Y.heap.size Y.drew w') := Lib.hid (by
      obtain ⟨p', c', he, _, hS', _⟩ := (HoY.out.drewN 1).form
      cases he
      have h := track_any m (ws.set i u0) (some ⟨g, 0, none⟩) cap Y.drew hS' (by rw [List.length_set]; omega) (by omega)
      rw [List.length_set] at h
      exact h)
    have HL : Hid (∀ W, Calls Try.prog 41 #[.int .i64 (b : Int), .string m, .string ⟨(trackL m (ws.set i u0)).toArray⟩] W (RetLoc (slipL b m ws (i, sh, u0)) W)) := Lib.hid (fun W => locate_any b m _ hb1 hb2 hm hm2 (by simp [ByteArray.size]; omega) W)
    obtain ⟨L, hL⟩ : ∃ L, slipL b m ws (i, sh, u0) = L := ⟨_, rfl⟩
    rw [hL] at HL
    have HLe := Lib.hid hL
    have HLl : Hid (L.length ≤ 1000000) := Lib.hid (by rw [← hL]; exact Nat.le_trans (blksW_len b m _ hm) (by simp [ByteArray.size]; omega))
    clear hL htl
    generalize (⟨(trackL m (ws.set i u0)).toArray⟩ : ByteArray) = TT at *
    have hlS := HbY.out.size
    refine region_lift (by kernel_rfl) (by kernel_rfl) (by rintro ⟨_, _, h⟩; exact h) ?_
    refine wpAny_of_held (S := fun W => W.cell? ⟨w.heap.size, 0, none⟩ = some (.int .i64 (b : Int)) ∧ W.cell? ⟨w.heap.size + 1, 0, none⟩ = some (.string m)) _ _ _ _ ?_
    have hSS : Y.drew.cell? ⟨w.heap.size, 0, none⟩ = some (.int .i64 (b : Int)) ∧ Y.drew.cell? ⟨w.heap.size + 1, 0, none⟩ = some (.string m) := ⟨y3, y4⟩
    refine wpAnyH_take (i := 0) (v := ?_) rfl (by kernel_rfl) (by kernel_rfl) (by kernel_rfl) (fun _ _ _ h => h) (Or.inl ⟨by rfl, ?_⟩) hSS ?_
    rotate_left 1
    next => intro w hSw; obtain ⟨hSw1, hSw2⟩ := hSw; go_simp; try with_reducible rfl
    refine wpAnyH_take (i := 1) (v := ?_) rfl (by kernel_rfl) (by kernel_rfl) (by kernel_rfl) (fun _ _ _ h => h) (Or.inl ⟨by rfl, ?_⟩) hSS ?_
    rotate_left 1
    next => intro w hSw; obtain ⟨hSw1, hSw2⟩ := hSw; go_simp; try with_reducible rfl
    refine wpAnyH_take (i := 2) (v := ?_) rfl (by kernel_rfl) (by kernel_rfl) (by kernel_rfl) (fun _ _ _ h => h) (Or.inl ⟨by rfl, ?_⟩) hSS ?_
    rotate_left 1
    next => intro w hSw; obtain ⟨hSw1, hSw2⟩ := hSw; go_simp; try with_reducible rfl
    refine wpAnyH_take (i := 3) (v := ?_) rfl (by kernel_rfl) (by kernel_rfl) (by kernel_rfl) (fun _ _ _ h => h) (Or.inl ⟨by rfl, ?_⟩) hSS ?_
    rotate_left 1
    next => intro w hSw; obtain ⟨hSw1, hSw2⟩ := hSw; go_simp; try with_reducible rfl
    refine wpAnyH_ready (rs := [4]) (by kernel_rfl) (by simp) ?_
    refine AllReadyH.cons rfl (fun K hK => ?_) AllReadyH.nil
    go_simp
    refine Htr.out.mono ?_
    rintro e W3 ⟨rfl, hb3⟩
    have hSS := hSS
    rw [← hb3.cell (p := ⟨w.heap.size, 0, none⟩) (lt_y hx3.lt HbY), ← hb3.cell (p := ⟨w.heap.size + 1, 0, none⟩) (lt_y hx4.lt HbY)] at hSS
    have Hb3 := Lib.hid hb3
    clear hb3
    dsimp only
    refine hK.out _ _ hSS (fun _ => ?_)
    clear hK K
    refine wpAnyH_ready (rs := [5]) (by kernel_rfl) (by simp) ?_
    refine AllReadyH.cons rfl (fun K hK => ?_) AllReadyH.nil
    go_simp
    refine (HL.out _).mono ?_
    rintro e W4 ⟨v4, rfl, hv4, ho4, hb4⟩
    have hlt3 := Hb3.out.size
    have hSS2 := hSS
    rw [← hb4.cell (p := ⟨w.heap.size, 0, none⟩) (by have := lt_y hx3.lt HbY; exact Nat.lt_of_lt_of_le this hlt3), ← hb4.cell (p := ⟨w.heap.size + 1, 0, none⟩) (by have := lt_y hx4.lt HbY; exact Nat.lt_of_lt_of_le this hlt3)] at hSS2
    have Ho4 := Lib.hid ho4
    have Hb4 := Lib.hid hb4
    have Hv4 := Lib.hid hv4
    clear ho4 hb4 hv4
    dsimp only
    refine hK.out _ _ hSS2 (fun _ => ?_)
    clear hK K
    refine wpAnyH_take (i := 6) (v := ?_) rfl (by kernel_rfl) (by kernel_rfl) (by kernel_rfl) (fun _ _ _ h => h) (Or.inl ⟨by rfl, ?_⟩) hSS2 ?_
    rotate_left 1
    next => intro w hSw; obtain ⟨hSw1, hSw2⟩ := hSw; go_simp; try with_reducible rfl
    refine wpAnyH_take (i := 7) (v := ?_) rfl (by kernel_rfl) (by kernel_rfl) (by kernel_rfl) (fun _ _ _ h => h) (Or.inl ⟨by rfl, ?_⟩) hSS2 ?_
    rotate_left 1
    next => intro w hSw; obtain ⟨hSw1, hSw2⟩ := hSw; go_simp; try with_reducible rfl
    refine wpAnyH_take (i := 8) (v := ?_) rfl (by kernel_rfl) (by kernel_rfl) (by kernel_rfl) (fun _ _ _ h => h) (Or.inl ⟨by rfl, ?_⟩) hSS2 ?_
    rotate_left 1
    next => intro w hSw; obtain ⟨hSw1, hSw2⟩ := hSw; go_simp; try with_reducible rfl
    refine wpAnyH_take (i := 9) (v := ?_) rfl (by kernel_rfl) (by kernel_rfl) (by kernel_rfl) (fun _ _ _ h => h) (Or.inl ⟨by rfl, ?_⟩) hSS2 ?_
    rotate_left 1
    next => intro w hSw; obtain ⟨hSw1, hSw2⟩ := hSw; go_simp; try with_reducible rfl
    refine wpAnyH_take (i := 10) (v := ?_) rfl (by kernel_rfl) (by kernel_rfl) (by kernel_rfl) (fun _ _ _ h => h) (Or.inl ⟨by rfl, ?_⟩) hSS2 ?_
    rotate_left 1
    next => intro w hSw; obtain ⟨hSw1, hSw2⟩ := hSw; go_simp; try with_reducible rfl
    refine wpAnyH_done (by kernel_rfl) ?_ _
    have HB4 : Hid (Below X.heap.size X W4) := Lib.hid (((HbY.out.drew).trans (Hb3.out.mono hlS)).trans (Hb4.out.mono (Nat.le_trans hlS hlt3)))
    have h54 := (HB4.out.cell (p := ⟨w.heap.size + 1 + 1, 0, none⟩) hx5.lt).trans hx5.cell
    have h64 : Boxed W4 (w.heap.size + 1 + 1 + 1) 4 (.bool false) := (HB4.out.block _ hx6.lt).trans hx6
    have hlt4 := HB4.out.size
    have hown := made_ints W4 ws.length (by omega)
    have hmk : (Instr.makeSlice 25 (.int .i64 (ws.length : Int)) (.int .i64 (ws.length : Int))).run Try.prog W4 = .ok _ _ := make_ints .i64 .i64 ws.length (by omega) W4
    have HB5 : Hid (Below X.heap.size X (W4.alloc (.cells (madeCells #[.int .i64 0] ws.length) 3))) := Lib.hid (HB4.out.alloc hlt4 _)
    have hb45 := (Below.refl W4.heap.size W4).alloc (Nat.le_refl _) (.cells (madeCells #[.int .i64 0] ws.length) 3)
    have h65 := h64.alloc (.cells (madeCells #[.int .i64 0] ws.length) 3)
    clear hSS hSS2 y3 y4 Htr HL
    generalize W4.alloc (.cells (madeCells #[.int .i64 0] ws.length) 3) = W5 at *
    have hg4 := hlt4
    generalize hN : W4.heap.size = N at *
    have e0 := (HB5.out.cell (p := ⟨u, 0, none⟩) hult).trans c0
    have e1 := (HB5.out.cell (p := ⟨u, 1, none⟩) hult).trans c1
    have en := World.ownsRow.cellAt (show W5.ownsRow N 3 1 (.slice (some ⟨N, 0, none⟩) ws.length ws.length) ws.length ((List.replicate ws.length (0 : Int)).map (Value.int .i64)) by unfold OwnInts at hown; rw [List.length_replicate] at hown; exact hown) i (by omega)
    have enf := World.ownsRow.frozenAt (show W5.ownsRow N 3 1 (.slice (some ⟨N, 0, none⟩) ws.length ws.length) ws.length ((List.replicate ws.length (0 : Int)).map (Value.int .i64)) by unfold OwnInts at hown; rw [List.length_replicate] at hown; exact hown) i
    rw [List.map_replicate, List.getElem?_replicate, if_pos hi] at en
    clear c0 c1 c2
    have hst := (World.ownsRow.stored (show W5.ownsRow N 3 1 (.slice (some ⟨N, 0, none⟩) ws.length ws.length) ws.length ((List.replicate ws.length (0 : Int)).map (Value.int .i64)) by unfold OwnInts at hown; rw [List.length_replicate] at hown; exact hown) i (.int .i64 sh)).1
    have HB6 : Hid (Below X.heap.size X (W5.setCell ⟨N, i, none⟩ (.int .i64 sh))) := Lib.hid (HB5.out.setCell hg4 _)
    have HB46 : Hid (Below N W4 (W5.setCell ⟨N, i, none⟩ (.int .i64 sh))) := Lib.hid (hb45.setCell (Nat.le_refl _) _)
    have HI6 : Hid (IntsAt (W5.setCell ⟨N, i, none⟩ (.int .i64 sh)) (some ⟨N, 0, none⟩) ((List.replicate ws.length (0 : Int)).set i sh)) := Lib.hid (by
      have h2 : OwnInts (W5.setCell ⟨N, i, none⟩ (.int .i64 sh)) N (.slice (some ⟨N, 0, none⟩) ((List.replicate ws.length (0 : Int)).set i sh).length ws.length) ((List.replicate ws.length (0 : Int)).set i sh) := by
        unfold OwnInts
        rw [List.length_set, List.length_replicate, List.map_set]
        exact hst
      obtain ⟨p', c', he, _, hS', _⟩ := h2.form
      cases he
      exact hS')
    have h66 : Boxed (W5.setCell ⟨N, i, none⟩ (.int .i64 sh)) (w.heap.size + 1 + 1 + 1) 4 (.bool false) := (HB6.out.block _ hx6.lt).trans hx6
    have h66c := h66.cell
    have h66f := h66.frozen
    have hfar : ¬ N = w.heap.size + 1 + 1 + 1 := by have := hx6.lt; omega
    clear hst hown h65 h64 hb45
    cases hok : okB L
    · have HNV : Hid (¬ ValidP b m ws) := Lib.hid (fun h => by
        have h1 := (h _ Hz.out).1
        rw [HLe.out, hok] at h1; cases h1)
      clear hok
      gi_wp2
      exact val_ret HB6.out h66 HNV.out hbx hw10 (by omega)
    · have hv : OwnInts W4 W3.heap.size v4 (L.map (·.2)) := by have := Ho4.out; rw [hok] at this; exact this
      obtain ⟨q, cq, rfl, _, hI4, _⟩ := hv.form
      have HI4 := Lib.hid (hI4.below (by rw [hN]; exact Nat.le_refl _) HB46.out)
      have HE := Lib.hid (eqInts_any (L.map (·.2)) ((List.replicate ws.length (0 : Int)).set i sh) q (some ⟨N, 0, none⟩) cq ws.length _ HI4.out HI6.out (by rw [List.length_map]; have := HLl.out; omega) (by rw [List.length_set, List.length_replicate]; omega))
      rw [List.length_set, List.length_replicate, List.length_map] at HE
      cases heq : (L.map (·.2) == (List.replicate ws.length (0 : Int)).set i sh)
      · have HNV : Hid (¬ ValidP b m ws) := Lib.hid (fun h => by
          have h1 := (h _ Hz.out).2
          rw [HLe.out] at h1
          rw [h1] at heq
          simp at heq)
        rw [heq] at HE
        clear hok heq hI4 hv
        gi_wp2
        refine CallsIn.mono (CallsIn.inRound l (callsIn_wide.2 HE.out)) ?_
        rintro e W7 ⟨rfl, hd7⟩
        have h67 : Boxed W7 (w.heap.size + 1 + 1 + 1) 4 (.bool false) := by unfold Boxed; rw [hd7.heap]; exact h66
        have HB7 : Hid (Below X.heap.size X W7) := Lib.hid (HB6.out.trans (Drawn.below hd7 _))
        have h67c := h67.cell
        have h67f := h67.frozen
        clear hd7
        gi_wp2
        exact val_ret HB7.out h67 HNV.out hbx hw10 (by omega)
      · have HG : Hid (GoodS b m ws (i, sh, u0)) := Lib.hid ⟨by rw [HLe.out]; exact hok, by rw [HLe.out]; exact eq_of_beq heq⟩
        rw [heq] at HE
        clear hok heq hI4 hv
        gi_wp2
        refine CallsIn.mono (CallsIn.inRound l (callsIn_wide.2 HE.out)) ?_
        rintro e W7 ⟨rfl, hd7⟩
        have HB7 : Hid (Below X.heap.size X W7) := Lib.hid (HB6.out.trans (Drawn.below hd7 _))
        clear hd7
        gi_wp2
        exact val_next HB7.out HG.out Hgood.out hbx
  case done =>
    rintro D xs X hD hS ⟨hgood, hbx⟩ hK
    have HV : Hid (ValidP b m ws) := Lib.hid (fun x hx => hgood x (hS x hx))
    have h6 : Boxed X (w.heap.size + 1 + 1 + 1) 4 (.bool false) := (hbx.block _ (by omega)).trans hb6
    have h6c := h6.cell
    have h6f := h6.frozen
    have HK := Lib.hid hK
    have HBX : Hid (Below w.heap.size w X) := Lib.hid (hw10.trans (hbx.mono (by omega)))
    clear hgood hbx hK hS hw10 hb3 hb4 hb5 hb6 hbl hS1
    go_wp2
    have v0 := (h6.set (.bool true)).cell
    have v2 : Below w.heap.size w (X.setCell ⟨w.heap.size + 1 + 1 + 1, 0, none⟩ (.bool true)) := HBX.out.setCell (by simp; omega) _
    have hK4 : (X.setCell ⟨w.heap.size + 1 + 1 + 1, 0, none⟩ (.bool true)).heap[D]? = some (.deferred (some [])) := (Below.heap_setCell _ _ _ D (by simp; omega)).trans HK.out
    generalize X.setCell ⟨w.heap.size + 1 + 1 + 1, 0, none⟩ (.bool true) = V at *
    refine ⟨by simp, .inl ⟨_, _, rfl, run_takeDeferred hK4, ?_⟩⟩
    have f0 := (cell_of_block (World.putObj_heap_other (w := V) (o := .deferred none) (show w.heap.size + 1 + 1 + 1 ≠ D by omega)) 0).trans v0
    refine ⟨.bool true, ?_, true, rfl, ⟨fun _ => HV.out, fun _ => rfl⟩, ?_⟩
    · simp [results, Try.results57, go_sem, f0]
    · exact v2.trans (belowK_b (w := w) (Nat.le_refl _) _ D _ _ (by omega) hK4 rfl rfl)
  case stop =>
    rintro D c pre X hD ⟨rfl, hL, h6, hb, _⟩ hK
    have h6c := h6.cell
    have HL := Lib.hid hL
    have HK := Lib.hid hK
    clear hL hK
    go_wp2
    refine ⟨by simp, .inl ⟨_, _, rfl, run_takeDeferred HK.out, ?_⟩⟩
    have f0 := (cell_of_block (World.putObj_heap_other (w := X) (o := .deferred none) (show w.heap.size + 1 + 1 + 1 ≠ D by omega)) 0).trans h6c
    refine ⟨.bool false, ?_, false, rfl, ⟨fun h => (by cases h), fun h => absurd h HL.out⟩, ?_⟩
    · simp [results, Try.results57, go_sem, f0]
    · exact hb.trans (belowK_b (w := w) (Nat.le_refl _) _ D _ _ (by omega) HK.out rfl rfl)
end Go.Proofs.Ytlkajmdcffemeaa
