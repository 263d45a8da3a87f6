/- The slips of words: what they are, in plain words; the walk of marker.slips and of its iterator. -/
import Derived.Test.YtlkajmdcffemeaaLoc
import Derived.Test.YtlkajmdcffemeaaStrs
namespace Go.Proofs.Ytlkajmdcffemeaa
open Go.RowKit Go.Shelf
attribute [local go_sem] Oper.semAt_some

def dropAt (x : ByteArray) (k : Nat) : ByteArray := x.extract 0 k ++ x.extract (k + 1) x.size
def insAt (x : ByteArray) (k : Nat) (c : ByteArray) : ByteArray := x.extract 0 k ++ c ++ x.extract k x.size
def bitC (j : Nat) : ByteArray := if j = 0 then ⟨#[48]⟩ else ⟨#[49]⟩
/-- A slip of words: the block, the shift, what stands there. -/
def SlipOf (ws : List ByteArray) (x : Nat × Int × ByteArray) : Prop :=
  x.1 < ws.length ∧ ((∃ k, k < (ws.getD x.1 ByteArray.empty).size ∧ x.2 = ((-1 : Int), dropAt (ws.getD x.1 ByteArray.empty) k)) ∨
    ∃ k j, k < (ws.getD x.1 ByteArray.empty).size + 1 ∧ j < 2 ∧ x.2 = ((1 : Int), insAt (ws.getD x.1 ByteArray.empty) k (bitC j)))
def encS (x : Nat × Int × ByteArray) : Array Value := #[.agg #[.int .i64 (x.1 : Int), .int .i64 x.2.1, .string x.2.2]]
/-- What a round keeps: all cells. -/
def KpC (W W' : World) : Prop := W.heap.size ≤ W'.heap.size ∧ ∀ (b : Nat) (o : Obj), W.heap[b]? = some o → o.isCells = true → W'.heap[b]? = some o
theorem KpC.trans {A B C : World} (h : KpC A B) (k : KpC B C) : KpC A C := ⟨Nat.le_trans h.1 k.1, fun b o hb hc => k.2 b o (h.2 b o hb hc) hc⟩
theorem KpC.put {W : World} {l : Nat} {o : Obj} (o' : Obj) (hl : W.heap[l]? = some o) (hc : o.isCells = false) : KpC W (W.putObj l o') :=
  ⟨by simp, fun b p hb hp => by
    by_cases e : b = l
    · subst e; rw [hl] at hb; cases hb; rw [hc] at hp; cases hp
    · rw [World.putObj_heap_other e]; exact hb⟩
theorem KpC.of_below {W W' : World} (h : Below W.heap.size W W') : KpC W W' := ⟨h.size, fun b o hb _ => by rw [h.block b (Array.getElem?_eq_some_iff.1 hb).1]; exact hb⟩
theorem KpC.cell {W W' : World} (h : KpC W W') {a : Addr} {v : Value} (hc : W.cell? a = some v) (ho : ∀ o, W.heap[a.block]? = some o → o.isCells = true) : W'.cell? a = some v := by
  obtain ⟨o, hb, _⟩ : ∃ o, W.heap[a.block]? = some o ∧ True := by
    unfold World.cell? at hc
    cases e : W.heap[a.block]? with
    | none => simp [e] at hc
    | some o => exact ⟨o, rfl, trivial⟩
  have := h.2 _ _ hb (ho _ hb)
  rw [← hc]; unfold World.cell?; rw [this, hb]
theorem isCells_of_cell {W : World} {a : Addr} {v : Value} (hc : W.cell? a = some v) (o : Obj) (ho : W.heap[a.block]? = some o) : o.isCells = true := by
  unfold World.cell? at hc
  rw [ho] at hc
  cases o <;> simp_all [Obj.isCells]
theorem StrsAt.kept {W W' : World} {p : Option Addr} {ws : List ByteArray} (h : StrsAt W p ws) (k : KpC W W') : StrsAt W' p ws := by
  rcases h with h | ⟨b, off, rfl, hlt, hc⟩
  · exact .inl h
  · exact .inr ⟨b, off, rfl, Nat.lt_of_lt_of_le hlt k.1, fun i hi j hj => k.cell (hc i hi j hj) (isCells_of_cell (hc i hi j hj))⟩

/-- The two letters, in a block of their own. -/
def BitsAt (W : World) (N : Nat) : Prop := ∀ j, j < 2 → W.cell? ⟨N, j, none⟩ = some (.string (bitC j))
theorem BitsAt.kept {W W' : World} {N : Nat} (h : BitsAt W N) (k : KpC W W') : BitsAt W' N := fun j hj => k.cell (h j hj) (isCells_of_cell (h j hj))
theorem cell_new2 (w : World) (u v : Value) (t : TypeId) (j : Nat) (hj : j < 2) : (w.alloc (.cells #[u, v] t (0, 0))).cell? ⟨w.heap.size, j, none⟩ = #[u, v][j]? := by
  match j, hj with
  | 0, _ => simp
  | 1, _ => simp
theorem AbT.drew {β : Type} {T : Nat → World → Prop} {I : β → World → Prop} (h : AbT T I) {s : β} {W : World} (hs : I s W) : I s W.drew :=
  h s W _ none hs (below_grown0 ((Below.refl _ W).drew)) (fun r e => by cases e)

set_option maxRecDepth 100000 in
set_option maxHeartbeats 4000000 in
theorem slips1_in (l BL : Nat) (ws : List ByteArray) (p : Option Addr) (c : Nat) (J Jx : List (Nat × Int × ByteArray) → World → Prop) (hJ : AbT (fun _ _ => False) J)
    (hY : ∀ pre x W1, J pre W1 → SlipOf ws x → YieldAt Fence.wide 2 Try.prog l (encS x) W1 fun e W' => (e = .returned (.bool true) ∧ J (pre ++ [x]) W' ∧ KpC W1 W') ∨ (e = .returned (.bool false) ∧ Jx (pre ++ [x]) W'))
    (W : World) (hl : Boxed W BL 42 (.slice p ws.length c)) (hS : StrsAt W p ws) (hn : ws.length ≤ 1000000000) (hz : ∀ x ∈ ws, x.size ≤ 1000000000) (h0 : J [] W) :
    CallsIn Fence.wide 3 Try.prog 91 #[.func (.yield l) #[] #[], .pointer (some ⟨BL, 0, none⟩)] W fun e W' => (∃ v, e = .returned v) ∧ ((∃ xs, (∀ x, SlipOf ws x → x ∈ xs) ∧ J xs W') ∨ ∃ pre, Jx pre W') := by
  refine callsIn_of_wp Try.func91 rfl trivial ?_ rfl
  simp only [Try.ntmps91, List.size_toArray, List.length_cons, List.length_nil, Nat.reduceAdd, Nat.reduceSub, Array.replicate_succ, Array.replicate_zero, List.push_toArray, List.append_toArray, List.nil_append, List.cons_append]
  have hlc := hl.cell
  have HY := Lib.hid hY
  have HJ := Lib.hid hJ
  have HZ := Lib.hid hz
  clear hY hJ hz
  refine wpIn_wide.2 ?_
  go_wp2
  go_loopw [11] (fun i wr => ∃ (k : Nat) (pre : List (Nat × Int × ByteArray)), k ≤ ws.length ∧ i = .int .i64 k ∧ Hid (StrsAt wr p ws) ∧ Hid (J pre wr) ∧ Hid (∀ x, SlipOf ws x → x.1 < k → x ∈ pre)) (fun i _ => ws.length - (intOf i).toNat)
  case atStart => exact ⟨0, [], by omega, rfl, Lib.hid hS, Lib.hid h0, Lib.hid (fun x _ h => by omega)⟩
  case round =>
    clear hlc hl hS h0
    obtain ⟨i, pre, hi, rfl, HS, HJ1, Hcov⟩ := hrel
    by_cases hlt : i < ws.length
    · obtain ⟨sb, so, rfl, hsb, hsc⟩ := StrsAt.cells HS.out hlt
      have hx := hsc i hlt
      have hxz := HZ.out _ (getD_mem ws i ByteArray.empty hlt)
      obtain ⟨x, hxe⟩ : ∃ x, ws.getD i ByteArray.empty = x := ⟨_, rfl⟩
      rw [hxe] at hx hxz
      have Hxe := Lib.hid hxe
      have hi0 : (0 : Int) ≤ (i : Int) := by omega
      have hi1 : (i : Int) < (ws.length : Int) := by omega
      clear hsc hxe
      go_wp2
      go_loopw [18] (fun v wr => ∃ (k : Nat) (pre : List (Nat × Int × ByteArray)), k ≤ x.size ∧ v = .int .i64 k ∧ Hid (StrsAt wr (some ⟨sb, so, none⟩) ws) ∧ Hid (J pre wr) ∧ Hid (∀ y, SlipOf ws y → y.1 < i → y ∈ pre) ∧ Hid (∀ j, j < k → (i, (-1 : Int), dropAt x j) ∈ pre)) (fun v _ => x.size - (intOf v).toNat)
      case atStart => exact ⟨0, pre, by omega, rfl, HS, HJ1, Hcov, Lib.hid (fun j h => by omega)⟩
      case round =>
        clear hx HS HJ1 Hcov pre
        obtain ⟨k, pre, hk, rfl, HS, HJ1, Hcov, Hdr⟩ := hrel
        by_cases hltk : k < x.size
        · have hk1 : (k : Int) < (x.size : Int) := by omega
          obtain ⟨q, hq⟩ : ∃ q, k + 1 = q := ⟨_, rfl⟩
          have ew : IntKind.i64.wrap ((k : Int) + 1) = (q : Int) := by rw [IntWalk.i64_in _ (by omega)]; omega
          have q0 : (0 : Int) ≤ (q : Int) := by omega
          have q1 : (q : Int) ≤ (x.size : Int) := by omega
          have hsum : ¬ 9223372036854775807 < k + (x.size - q) := by omega
          go_upto_region 6 with (fail)
          refine (wpIn_wide (n := 3)).1 ?_
          refine wpIn_region_any (by kernel_rfl) ?_
          change wpAnyIn _ _ _ _ _ _ _ _ _ (World.drew _)
          refine wpAnyIn_take (i := 0) (v := ?_) rfl rfl (by kernel_rfl) (by kernel_rfl) (by kernel_rfl) (fun _ _ _ h => h) ⟨Or.inl ⟨by rfl, ?_⟩, fun _ => rfl⟩ ?_
          rotate_left 1
          next => intro w; go_simp; try with_reducible rfl
          refine wpAnyIn_take (i := 1) (v := ?_) rfl rfl (by kernel_rfl) (by kernel_rfl) (by kernel_rfl) (fun _ _ _ h => h) ⟨Or.inl ⟨by rfl, ?_⟩, fun _ => rfl⟩ ?_
          rotate_left 1
          next => intro w; go_simp; try with_reducible rfl
          refine wpAnyIn_take (i := 2) (v := ?_) rfl rfl (by kernel_rfl) (by kernel_rfl) (by kernel_rfl) (fun _ _ _ h => h) ⟨Or.inl ⟨by rfl, ?_⟩, fun _ => rfl⟩ ?_
          rotate_left 1
          next => intro w; go_simp; try with_reducible rfl
          refine wpAnyIn_take (i := 3) (v := ?_) rfl rfl (by kernel_rfl) (by kernel_rfl) (by kernel_rfl) (fun _ _ _ h => h) ⟨Or.inl ⟨by rfl, ?_⟩, fun _ => rfl⟩ ?_
          rotate_left 1
          next => intro w; go_simp; try with_reducible rfl
          refine wpAnyIn_take (i := 4) (v := ?_) rfl rfl (by kernel_rfl) (by kernel_rfl) (by kernel_rfl) (fun _ _ _ h => h) ⟨Or.inl ⟨by rfl, ?_⟩, fun _ => rfl⟩ ?_
          rotate_left 1
          next => intro w; go_simp; try with_reducible rfl
          refine wpAnyIn_take (i := 5) (v := ?_) rfl rfl (by kernel_rfl) (by kernel_rfl) (by kernel_rfl) (fun _ _ _ h => h) ⟨Or.inl ⟨by rfl, ?_⟩, fun _ => rfl⟩ ?_
          rotate_left 1
          next => intro w; go_simp; try with_reducible rfl
          refine wpAnyIn_take (i := 6) (v := ?_) rfl rfl (by kernel_rfl) (by kernel_rfl) (by kernel_rfl) (fun _ _ _ h => h) ⟨Or.inl ⟨by rfl, ?_⟩, fun _ => rfl⟩ ?_
          rotate_left 1
          next => intro w; go_simp; try with_reducible rfl
          refine wpAnyIn_take (i := 7) (v := ?_) rfl rfl (by kernel_rfl) (by kernel_rfl) (by kernel_rfl) (fun _ _ _ h => h) ⟨Or.inl ⟨by rfl, ?_⟩, fun _ => rfl⟩ ?_
          rotate_left 1
          next => intro w; go_simp; try with_reducible rfl
          refine wpAnyIn_take (i := 8) (v := ?_) rfl rfl (by kernel_rfl) (by kernel_rfl) (by kernel_rfl) (fun _ _ _ h => h) ⟨Or.inl ⟨by rfl, ?_⟩, fun _ => rfl⟩ ?_
          rotate_left 1
          next => intro w; go_simp; try with_reducible rfl
          refine wpAnyIn_take (i := 9) (v := ?_) rfl rfl (by kernel_rfl) (by kernel_rfl) (by kernel_rfl) (fun _ _ _ h => h) ⟨Or.inl ⟨by rfl, ?_⟩, fun _ => rfl⟩ ?_
          rotate_left 1
          next => intro w; go_simp; try with_reducible rfl
          refine wpAnyIn_take (i := 10) (v := ?_) rfl rfl (by kernel_rfl) (by kernel_rfl) (by kernel_rfl) (fun _ _ _ h => h) ⟨Or.inl ⟨by rfl, ?_⟩, fun _ => rfl⟩ ?_
          rotate_left 1
          next => intro w; go_simp; try with_reducible rfl
          refine wpAnyIn_ready (rs := [11]) (by kernel_rfl) (by simp) ?_
          refine AllReadyIn.cons rfl (fun K hK => ?_) AllReadyIn.nil
          go_simp
          obtain ⟨fn, tmps, assign, body, hyl, hR⟩ := HY.out pre (i, -1, dropAt x k) wr.drew (HJ.out.drew HJ1.out) ⟨hlt, .inl ⟨k, by rw [Hxe.out]; exact hltk, by rw [Hxe.out]⟩⟩
          dsimp only [encS, dropAt] at hyl
          rw [hq] at hyl
          rw [hyl, Oper.uponIn_round]
          refine ⟨fun h => by simp [Fence.wide] at h, hR.mono ?_⟩
          rintro e W3 (⟨rfl, hJ3, hk3⟩ | ⟨rfl, hJx3⟩)
          · have HJ3 := Lib.hid hJ3
            have HS3 := Lib.hid ((HS.out.below (Nat.le_refl _) ((Below.refl _ _).drew)).kept hk3)
            clear hJ3 hR hyl
            dsimp only
            refine hK _ _ ?_
            clear hK K
            refine wpAnyIn_take (i := 12) (v := ?_) rfl rfl (by kernel_rfl) (by kernel_rfl) (by kernel_rfl) (fun _ _ _ h => h) ⟨Or.inl ⟨by rfl, ?_⟩, fun _ => rfl⟩ ?_
            rotate_left 1
            next => intro w; go_simp; try with_reducible rfl
            refine wpAnyIn_done (by kernel_rfl) ?_ _
            go_wp2
            go_roundw
            case rel => exact ⟨k + 1, _, by omega, by go_num, HS3, HJ3, Lib.hid (fun y h1 h2 => List.mem_append_left _ (Hcov.out y h1 h2)), Lib.hid (fun j hj => by
              by_cases e : j = k
              · rw [e]; exact List.mem_append_right _ (List.mem_singleton.2 rfl)
              · exact List.mem_append_left _ (Hdr.out j (by omega)))⟩
            case measure => simp [intOf]; omega
          · have HJ := Lib.hid hJx3
            clear hJx3 hR hyl
            dsimp only
            refine hK _ _ ?_
            clear hK K
            refine wpAnyIn_take (i := 12) (v := ?_) rfl rfl (by kernel_rfl) (by kernel_rfl) (by kernel_rfl) (fun _ _ _ h => h) ⟨Or.inl ⟨by rfl, ?_⟩, fun _ => rfl⟩ ?_
            rotate_left 1
            next => intro w; go_simp; try with_reducible rfl
            refine wpAnyIn_done (by kernel_rfl) ?_ _
            go_wp2
            refine bodyPost_ret (results_none rfl _ _ _) rfl ?_
            exact ⟨⟨_, rfl⟩, .inr ⟨_, HJ.out⟩⟩
        · have hk1 : ¬ (k : Int) < (x.size : Int) := by omega
          have hke : k = x.size := by omega
          have Hdr2 : Hid (∀ j, j < x.size → (i, (-1 : Int), dropAt x j) ∈ pre) := Lib.hid (by rw [← hke]; exact Hdr.out)
          clear hke Hdr
          go_wp2
          go_loopw [38] (fun v wr => ∃ (k : Nat) (pre : List (Nat × Int × ByteArray)), k ≤ x.size + 1 ∧ v = .int .i64 k ∧ Hid (StrsAt wr (some ⟨sb, so, none⟩) ws) ∧ Hid (J pre wr) ∧ Hid (∀ y, SlipOf ws y → y.1 < i → y ∈ pre) ∧ Hid (∀ j, j < x.size → (i, (-1 : Int), dropAt x j) ∈ pre) ∧ Hid (∀ j c, j < k → c < 2 → (i, (1 : Int), insAt x j (bitC c)) ∈ pre)) (fun v _ => x.size + 1 - (intOf v).toNat)
          case atStart => exact ⟨0, pre, by omega, by go_num, HS, HJ1, Hcov, Hdr2, Lib.hid (fun j c h _ => by omega)⟩
          case round =>
            clear hk1 HS HJ1 Hcov Hdr2 hk hltk
            obtain ⟨k, pre, hk, rfl, HS, HJ1, Hcov, Hdr, Hin⟩ := hrel
            by_cases hltk : k < x.size + 1
            · have hk1 : (k : Int) < (x.size : Int) + 1 := by omega
              go_wp2
              have HBt : Hid (BitsAt (wr.alloc (.cells #[.string ⟨#[48]⟩, .string ⟨#[49]⟩] 9)) wr.heap.size) := Lib.hid (fun j hj => by
                match j, hj with
                | 0, _ => exact cell_new2 wr _ _ _ 0 (by decide)
                | 1, _ => exact cell_new2 wr _ _ _ 1 (by decide))
              have HS := Lib.hid (HS.out.below (Nat.le_refl _) ((Below.refl _ wr).alloc (Nat.le_refl _) (.cells #[.string ⟨#[48]⟩, .string ⟨#[49]⟩] 9)))
              have HJ1 := Lib.hid (HJ.out.alloc (.cells #[.string ⟨#[48]⟩, .string ⟨#[49]⟩] 9) HJ1.out)
              generalize wr.alloc (.cells #[.string ⟨#[48]⟩, .string ⟨#[49]⟩] 9) = W2 at *
              generalize wr.heap.size = N at *
              have hkx : k ≤ x.size := by omega
              go_loopw [43] (fun v wr => ∃ (j : Nat) (pre : List (Nat × Int × ByteArray)), j ≤ 2 ∧ v = .int .i64 j ∧ Hid (StrsAt wr (some ⟨sb, so, none⟩) ws) ∧ Hid (J pre wr) ∧ Hid (BitsAt wr N) ∧ Hid (∀ y, SlipOf ws y → y.1 < i → y ∈ pre) ∧ Hid (∀ j, j < x.size → (i, (-1 : Int), dropAt x j) ∈ pre) ∧ Hid (∀ j c, j < k → c < 2 → (i, (1 : Int), insAt x j (bitC c)) ∈ pre) ∧ Hid (∀ c, c < j → (i, (1 : Int), insAt x k (bitC c)) ∈ pre)) (fun v _ => 2 - (intOf v).toNat)
              case atStart => exact ⟨0, pre, by omega, by go_num, HS, HJ1, HBt, Hcov, Hdr, Hin, Lib.hid (fun c h => by omega)⟩
              case round =>
                clear HS HJ1 Hcov Hdr Hin HBt
                obtain ⟨j, pre, hj, rfl, HS, HJ1, HBt, Hcov, Hdr, Hin, Hj⟩ := hrel
                by_cases hltj : j < 2
                · have hj1 : (j : Int) < 2 := by omega
                  have hj0 : (0 : Int) ≤ (j : Int) := by omega
                  have hbc := HBt.out j hltj
                  obtain ⟨cc, hcc⟩ : ∃ cc, bitC j = cc := ⟨_, rfl⟩
                  have hcs : cc.size = 1 := by rw [← hcc]; unfold bitC; split <;> rfl
                  rw [hcc] at hbc
                  have hk2 : (k : Int) ≤ (x.size : Int) := by omega
                  have hk0 : (0 : Int) ≤ (k : Int) := by omega
                  have hs1 : ¬ 9223372036854775807 < k + 1 := by omega
                  have hs2 : ¬ 9223372036854775807 < k + 1 + (x.size - k) := by omega
                  go_upto_region 14 with (fail)
                  refine (wpIn_wide (n := 3)).1 ?_
                  refine wpIn_region_any (by kernel_rfl) ?_
                  change wpAnyIn _ _ _ _ _ _ _ _ _ (World.drew _)
                  refine wpAnyIn_take (i := 0) (v := ?_) rfl rfl (by kernel_rfl) (by kernel_rfl) (by kernel_rfl) (fun _ _ _ h => h) ⟨Or.inl ⟨by rfl, ?_⟩, fun _ => rfl⟩ ?_
                  rotate_left 1
                  next => intro w; go_simp; try with_reducible rfl
                  refine wpAnyIn_take (i := 1) (v := ?_) rfl rfl (by kernel_rfl) (by kernel_rfl) (by kernel_rfl) (fun _ _ _ h => h) ⟨Or.inl ⟨by rfl, ?_⟩, fun _ => rfl⟩ ?_
                  rotate_left 1
                  next => intro w; go_simp; try with_reducible rfl
                  refine wpAnyIn_take (i := 2) (v := ?_) rfl rfl (by kernel_rfl) (by kernel_rfl) (by kernel_rfl) (fun _ _ _ h => h) ⟨Or.inl ⟨by rfl, ?_⟩, fun _ => rfl⟩ ?_
                  rotate_left 1
                  next => intro w; go_simp; try with_reducible rfl
                  refine wpAnyIn_take (i := 3) (v := ?_) rfl rfl (by kernel_rfl) (by kernel_rfl) (by kernel_rfl) (fun _ _ _ h => h) ⟨Or.inl ⟨by rfl, ?_⟩, fun _ => rfl⟩ ?_
                  rotate_left 1
                  next => intro w; go_simp; try with_reducible rfl
                  refine wpAnyIn_take (i := 4) (v := ?_) rfl rfl (by kernel_rfl) (by kernel_rfl) (by kernel_rfl) (fun _ _ _ h => h) ⟨Or.inl ⟨by rfl, ?_⟩, fun _ => rfl⟩ ?_
                  rotate_left 1
                  next => intro w; go_simp; try with_reducible rfl
                  refine wpAnyIn_take (i := 5) (v := ?_) rfl rfl (by kernel_rfl) (by kernel_rfl) (by kernel_rfl) (fun _ _ _ h => h) ⟨Or.inl ⟨by rfl, ?_⟩, fun _ => rfl⟩ ?_
                  rotate_left 1
                  next => intro w; go_simp; try with_reducible rfl
                  refine wpAnyIn_take (i := 6) (v := ?_) rfl rfl (by kernel_rfl) (by kernel_rfl) (by kernel_rfl) (fun _ _ _ h => h) ⟨Or.inl ⟨by rfl, ?_⟩, fun _ => rfl⟩ ?_
                  rotate_left 1
                  next => intro w; go_simp; try with_reducible rfl
                  refine wpAnyIn_take (i := 7) (v := ?_) rfl rfl (by kernel_rfl) (by kernel_rfl) (by kernel_rfl) (fun _ _ _ h => h) ⟨Or.inl ⟨by rfl, ?_⟩, fun _ => rfl⟩ ?_
                  rotate_left 1
                  next => intro w; go_simp; try with_reducible rfl
                  refine wpAnyIn_take (i := 8) (v := ?_) rfl rfl (by kernel_rfl) (by kernel_rfl) (by kernel_rfl) (fun _ _ _ h => h) ⟨Or.inl ⟨by rfl, ?_⟩, fun _ => rfl⟩ ?_
                  rotate_left 1
                  next => intro w; go_simp; try with_reducible rfl
                  refine wpAnyIn_take (i := 9) (v := ?_) rfl rfl (by kernel_rfl) (by kernel_rfl) (by kernel_rfl) (fun _ _ _ h => h) ⟨Or.inl ⟨by rfl, ?_⟩, fun _ => rfl⟩ ?_
                  rotate_left 1
                  next => intro w; go_simp; try with_reducible rfl
                  refine wpAnyIn_take (i := 10) (v := ?_) rfl rfl (by kernel_rfl) (by kernel_rfl) (by kernel_rfl) (fun _ _ _ h => h) ⟨Or.inl ⟨by rfl, ?_⟩, fun _ => rfl⟩ ?_
                  rotate_left 1
                  next => intro w; go_simp; try with_reducible rfl
                  refine wpAnyIn_take (i := 11) (v := ?_) rfl rfl (by kernel_rfl) (by kernel_rfl) (by kernel_rfl) (fun _ _ _ h => h) ⟨Or.inl ⟨by rfl, ?_⟩, fun _ => rfl⟩ ?_
                  rotate_left 1
                  next => intro w; go_simp; try with_reducible rfl
                  refine wpAnyIn_ready (rs := [12]) (by kernel_rfl) (by simp) ?_
                  refine AllReadyIn.cons rfl (fun K hK => ?_) AllReadyIn.nil
                  go_simp
                  obtain ⟨fn, tmps, assign, body, hyl, hR⟩ := HY.out pre (i, 1, insAt x k (bitC j)) wr.drew (HJ.out.drew HJ1.out) ⟨hlt, .inr ⟨k, j, by rw [Hxe.out]; exact hltk, hltj, by rw [Hxe.out]⟩⟩
                  dsimp only [encS, insAt] at hyl
                  rw [hcc] at hyl
                  rw [hyl, Oper.uponIn_round]
                  refine ⟨fun h => by simp [Fence.wide] at h, hR.mono ?_⟩
                  rintro e W3 (⟨rfl, hJ3, hk3⟩ | ⟨rfl, hJx3⟩)
                  · have HJ3 := Lib.hid hJ3
                    have HS3 := Lib.hid ((HS.out.below (Nat.le_refl _) ((Below.refl _ _).drew)).kept hk3)
                    have HBt3 := Lib.hid (BitsAt.kept (W := wr.drew) HBt.out hk3)
                    clear hJ3 hR hyl
                    dsimp only
                    refine hK _ _ ?_
                    clear hK K
                    refine wpAnyIn_take (i := 13) (v := ?_) rfl rfl (by kernel_rfl) (by kernel_rfl) (by kernel_rfl) (fun _ _ _ h => h) ⟨Or.inl ⟨by rfl, ?_⟩, fun _ => rfl⟩ ?_
                    rotate_left 1
                    next => intro w; go_simp; try with_reducible rfl
                    refine wpAnyIn_done (by kernel_rfl) ?_ _
                    go_wp2
                    go_roundw
                    case rel => exact ⟨j + 1, _, by omega, by go_num, HS3, HJ3, HBt3, Lib.hid (fun y h1 h2 => List.mem_append_left _ (Hcov.out y h1 h2)), Lib.hid (fun j hj => List.mem_append_left _ (Hdr.out j hj)), Lib.hid (fun j c hj hc => List.mem_append_left _ (Hin.out j c hj hc)), Lib.hid (fun c hc => by
                      by_cases e : c = j
                      · rw [e]; exact List.mem_append_right _ (List.mem_singleton.2 rfl)
                      · exact List.mem_append_left _ (Hj.out c (by omega)))⟩
                    case measure => simp [intOf]; omega
                  · have HJ := Lib.hid hJx3
                    clear hJx3 hR hyl
                    dsimp only
                    refine hK _ _ ?_
                    clear hK K
                    refine wpAnyIn_take (i := 13) (v := ?_) rfl rfl (by kernel_rfl) (by kernel_rfl) (by kernel_rfl) (fun _ _ _ h => h) ⟨Or.inl ⟨by rfl, ?_⟩, fun _ => rfl⟩ ?_
                    rotate_left 1
                    next => intro w; go_simp; try with_reducible rfl
                    refine wpAnyIn_done (by kernel_rfl) ?_ _
                    go_wp2
                    refine bodyPost_ret (results_none rfl _ _ _) rfl ?_
                    exact ⟨⟨_, rfl⟩, .inr ⟨_, HJ.out⟩⟩
                · have hj1 : ¬ (j : Int) < 2 := by omega
                  have hj2 : j = 2 := by omega
                  have Hj2 : Hid (∀ c, c < 2 → (i, (1 : Int), insAt x k (bitC c)) ∈ pre) := Lib.hid (by rw [← hj2]; exact Hj.out)
                  clear Hj hj2
                  go_wp2
                  go_roundw
                  case rel => exact ⟨k + 1, pre, by omega, by go_num, HS, HJ1, Hcov, Hdr, Lib.hid (fun q c hq hc => by
                    by_cases e : q = k
                    · rw [e]; exact Hj2.out c hc
                    · exact Hin.out q c (by omega) hc)⟩
                  case measure => simp [intOf]; omega
            · have hk1 : ¬ (k : Int) < (x.size : Int) + 1 := by omega
              go_wp2
              go_roundw
              case rel => exact ⟨i + 1, pre, by omega, by go_num, HS, HJ1, Lib.hid (fun y h1 h2 => by
                by_cases e : y.1 < i
                · exact Hcov.out y h1 e
                · obtain ⟨y1, y2⟩ := y
                  have e1 : y1 = i := by have : y1 < i + 1 := h2; have : ¬ y1 < i := e; omega
                  subst e1
                  rcases h1.2 with ⟨j, hj, he⟩ | ⟨j, c, hj, hc, he⟩
                  · have hj : j < (ws.getD y1 ByteArray.empty).size := hj
                    have he : y2 = ((-1 : Int), dropAt (ws.getD y1 ByteArray.empty) j) := he
                    rw [Hxe.out] at hj he
                    rw [he]; exact Hdr.out j hj
                  · have hj : j < (ws.getD y1 ByteArray.empty).size + 1 := hj
                    have he : y2 = ((1 : Int), insAt (ws.getD y1 ByteArray.empty) j (bitC c)) := he
                    rw [Hxe.out] at hj he
                    rw [he]; exact Hin.out j c (by omega) hc)⟩
              case measure => simp [intOf]; omega
    · have hi1 : ¬ (i : Int) < (ws.length : Int) := by omega
      go_wp2
      go_end0
      have Hc := Hcov.out
      exact ⟨⟨_, rfl⟩, .inl ⟨pre, fun y1 y2 y3 hy => Hc (y1, y2, y3) hy (by have : y1 < ws.length := hy.1; show y1 < i; omega), HJ1.out⟩⟩
end Go.Proofs.Ytlkajmdcffemeaa
