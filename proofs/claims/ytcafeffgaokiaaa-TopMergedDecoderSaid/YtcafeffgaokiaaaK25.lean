/- maps.All over a map from strings to ints: an iterator. -/
import Derived.Test.YtcafeffgaokiaaaK24
namespace Go.Proofs.Ytcafeffgaokiaaa
open Go.RowKit Go.Maps
attribute [local go_sem] Oper.semAt_some wideF
/-- What a round keeps: all blocks of no cells, but the record of the loop. -/
def KpA (L : Nat) (W W' : World) : Prop := W.heap.size ≤ W'.heap.size ∧ ∀ (b : Nat) (o : Obj), b ≠ L → W.heap[b]? = some o → o.isCells = false → W'.heap[b]? = some o
theorem KpA.refl (L : Nat) (W : World) : KpA L W W := ⟨Nat.le_refl _, fun _ _ _ h _ => h⟩
theorem KpA.trans {L : Nat} {A B C : World} (h : KpA L A B) (k : KpA L B C) : KpA L A C := ⟨Nat.le_trans h.1 k.1, fun b o hb hc hd => k.2 b o hb (h.2 b o hb hc hd) hd⟩
theorem KpA.put {L : Nat} (W : World) (o' : Obj) : KpA L W (W.putObj L o') := ⟨by simp, fun b o hb ho _ => (World.putObj_heap_other hb).trans ho⟩
theorem OwnM.keptA {W W' : World} {B n L : Nat} {D : DataW Unit} (h : OwnM W B n D) (k : KpA L W W') (hB : B ≠ L) : OwnM W' B n D := by
  obtain ⟨o, ho, hc⟩ := h.obj
  exact h.of_block ((k.2 B o hB ho hc).trans ho.symm)
theorem RngM.keptA {W W' : World} {B r n L cnt : Nat} {D : DataW Unit} {left : Lit → Bool} (h : RngM W B r n D left cnt) (k : KpA L W W') (hB : B ≠ L) (hr : r ≠ L) : RngM W' B r n D left cnt := by
  have h1 : OwnM W B n D := World.ranges.owns h
  obtain ⟨o, ho, hc⟩ := h1.obj
  obtain ⟨o2, ho2, hc2⟩ := h.obj
  exact h.of_block ((k.2 B o hB ho hc).trans ho.symm) ((k.2 r o2 hr ho2 hc2).trans ho2.symm)
theorem invKS (key : Value) (kl : Lit) (h : keyOf Try.prog 9 key = some kl) : ∃ x : ByteArray, key = .string x := by
  obtain ⟨x, hx, _⟩ := Maps.keyOf_str Try.underlying9 h
  exact ⟨_, hx⟩
theorem invVI (v : Value) (y : DataW Unit × List MemPlace) (h : plainElem Try.prog 3 v = some y) : ∃ c : Int, v = .int .i64 c := by
  obtain ⟨c, hc, _⟩ := plainElem_int_inv Try.underlying3 h
  exact ⟨c, hc⟩
theorem keyS_inv {w : ByteArray} {kl : Lit} (h : keyOf Try.prog 9 (.string w) = some kl) : kl = kyL w := by
  obtain ⟨x, hx, he, _⟩ := Maps.keyOf_str Try.underlying9 h
  have : w = ⟨x.toArray⟩ := by injection hx
  rw [he, this]; unfold kyL; simp
set_option maxRecDepth 100000 in
set_option maxHeartbeats 4000000 in
theorem all_in (l B n L gm : Nat) (D : DataW Unit) (ps : List (ByteArray × Nat)) (hM : MapOf D ps) (hBL : B < L) (J Jx : List (ByteArray × Nat) → World → Prop) (hJ : AbT (TB (L + 1)) J)
    (hY : ∀ pre x W1, J pre W1 → (x ∈ ps ∧ x.1 ∉ pre.map (·.1)) → YieldAt Fence.wide 0 Try.prog l (encP x) W1 fun e W' => (e = .returned (.bool true) ∧ J (pre ++ [x]) W' ∧ KpA L W1 W') ∨ (e = .returned (.bool false) ∧ Jx (pre ++ [x]) W'))
    (W : World) (hL : L + 1 ≤ W.heap.size) (hc : W.cell? ⟨gm, 0, none⟩ = some (.map (some B))) (hown : OwnM W B n D) (h0 : J [] W) :
    CallsIn Fence.wide 0 Try.prog 86 #[.func (.yield l) #[] #[], .pointer (some ⟨gm, 0, none⟩)] W fun e W' => (∃ v, e = .returned v) ∧ ((∃ xs, Full ps xs ∧ J xs W') ∨ ∃ pre, Jx pre W') := by
  have HY := Lib.hid hY
  have HJA := Lib.hid hJ
  have HM := Lib.hid hM
  have H0 := Lib.hid h0
  have hown' : W.ownsMap Try.prog 9 (plainElem Try.prog 3) B n D := hown
  clear hY hJ hM h0 hown
  refine callsIn_of_wp Try.func86 rfl trivial ?_ rfl
  simp only [Try.ntmps86, List.size_toArray, List.length_cons, List.length_nil, Nat.reduceAdd, Nat.reduceSub, Array.replicate_succ, Array.replicate_zero, List.push_toArray, List.append_toArray, List.nil_append, List.cons_append]
  refine wpIn_wide.2 ?_
  obtain ⟨r, hr⟩ : ∃ r, W.heap.size = r := ⟨_, rfl⟩
  go_wp2_with (first
    | (at_range; refine wpList_range_own _ rfl _ 109 rfl 9 3 lawS Try.underlying109 _ B n _ rfl hown' ?_; intro w0 hrg0 hg0 hs0)
    | go_in)
  go_frame
  rw [hr] at hrg0 hs0 ⊢
  have HJ0 : Hid (J [] w0) := Lib.hid (HJA.out [] W w0 none H0.out hg0 (fun r e => by cases e))
  have HC0 := Lib.hid (came_nil D)
  have hrL : L + 1 ≤ r := by omega
  clear H0 hg0 hs0 hc hr hown'
  go_loopw [7] (fun _ wr => ∃ (pre : List (ByteArray × Nat)) (left : Lit → Bool) (cnt : Nat), Hid (J pre wr) ∧ wr.ranges Try.prog 9 (plainElem Try.prog 3) B r n D left cnt ∧ Hid (Came D left pre)) (fun _ wr => wr.rangeLeft B r)
  case atStart => exact ⟨[], _, _, HJ0, hrg0, HC0⟩
  case round =>
    clear HJ0 hrg0 HC0
    obtain ⟨pre, left, cnt, HJ1, hrg, HC⟩ := hrel
    go_wp2_with (first
      | (at_next; refine wpList_next_ranges _ rfl _ rfl 9 lawS (plainElem Try.prog 3) Value.string (Value.int .i64) invKS invVI B r n _ _ _ rfl hrg ?_ ?_)
      | go_in)
    · intro hc0 hl0
      have HF := Lib.hid (came_end HC.out hl0 HM.out)
      clear hc0 hl0
      go_wp2
      go_end0
      exact ⟨⟨_, rfl⟩, .inl ⟨pre, HF.out, HJ1.out⟩⟩
    · intro x c kl yd yp w1 cnt1 hkey hlx hat0 hat hrg1 hlt hg1 hs1 hen
      have ekl := keyS_inv hkey
      subst ekl
      obtain ⟨c', ec, ey, _⟩ := plainElem_int_inv Try.underlying3 hat0
      have ey1 : yd = .lit (.int .i64 c') := congrArg Prod.fst ey
      have hfr := came_fresh HC.out hlx
      obtain ⟨i, hi⟩ := (HM.out.2.1 x).1 hfr.1
      have hci : c = (i : Int) := by
        have h1 := hat (.lit .nil)
        rw [HM.out.2.2 x i _ hi] at h1
        simp only [ey1] at h1
        injection ec with _ ec
        unfold inD at h1
        injection h1 with h1
        injection h1 with _ h1
        omega
      subst hci
      have hat2 : ∀ z, D.atKey (kyL x) z = inD i := fun z => HM.out.2.2 x i z hi
      have HCn := Lib.hid (came_step HC.out hlx hat2)
      have HG : Hid ((x, i) ∈ ps ∧ (x, i).1 ∉ pre.map (·.1)) := Lib.hid ⟨hi, hfr.2⟩
      have hro := RngM.obj (show RngM wr B r n D left cnt from hrg)
      have HJ2 : Hid (J pre w1) := Lib.hid (HJA.out pre wr w1 (some r) HJ1.out hg1 (fun r' e => by cases e; exact ⟨by omega, hro⟩))
      have HEn := Lib.hid hen
      have HRg := Lib.hid hrg1
      have HLt := Lib.hid (show cnt1 < wr.rangeLeft B r by rw [hrg.left_eq]; exact hlt)
      clear hkey hlx hat0 hat ec ey ey1 hfr hi hat2 hg1 hs1 hro hrg1 hrg hlt HJ1 HC
      go_upto_region 3 with (fail)
      obtain ⟨fn, tmps, assign, body, hyl, hR⟩ := HY.out pre (x, i) w1 HJ2.out HG.out
      have HR := Lib.hid hR
      clear hR
      dsimp only [encP] at hyl
      refine (wpIn_wide (n := 0)).1 ?_
      gi_wp2
      refine ⟨rfl, HR.out.mono ?_⟩
      rintro e W3 (⟨rfl, hJ3, hk3⟩ | ⟨rfl, hJx3⟩)
      · have HJ3 := Lib.hid hJ3
        have hrg3 : RngM W3 B r n D _ cnt1 := RngM.keptA HRg.out hk3 (by omega) (by omega)
        have hrg3' : W3.ranges Try.prog 9 (plainElem Try.prog 3) B r n D _ cnt1 := hrg3
        clear hJ3 hk3 hyl HR hen hrg3
        gi_wp2
        go_wp2
        go_roundw
        case rel => exact ⟨pre ++ [(x, i)], _, cnt1, HJ3, hrg3', HCn⟩
        case measure => rw [hrg3'.left_eq]; exact HLt.out
      · have HJx := Lib.hid hJx3
        clear hJx3 hyl HR hen
        gi_wp2
        go_wp2
        refine bodyPost_ret (results_none rfl _ _ _) rfl ?_
        exact ⟨⟨_, rfl⟩, .inr ⟨_, HJx.out⟩⟩
theorem all_seq (B n L gm : Nat) (D : DataW Unit) (ps : List (ByteArray × Nat)) (hM : MapOf D ps) (hBL : B < L) :
    SeqT Try.prog 0 86 #[.pointer (some ⟨gm, 0, none⟩)] encP (fun pre x _ => x ∈ ps ∧ x.1 ∉ pre.map (·.1)) (Full ps) (TB (L + 1)) (KpA L) (fun W => L + 1 ≤ W.heap.size ∧ W.cell? ⟨gm, 0, none⟩ = some (.map (some B)) ∧ OwnM W B n D) :=
  fun l J Jx W hP hJ _ hY h0 => all_in l B n L gm D ps hM hBL J Jx hJ hY W hP.1 hP.2.1 hP.2.2 h0
theorem all_any (B : Nat) (w : World) :
    Calls Try.prog 59 #[.map (some B)] w fun e w' => e = .returned (.func (.func 86) #[] #[.pointer (some ⟨w.heap.size, 0, none⟩)]) ∧ w' = w.alloc (.cells #[.map (some B)] 109) := by
  go_enter Try.func59, Try.ntmps59
  go_wp2
  go_ret
  exact ⟨rfl, rfl⟩
end Go.Proofs.Ytcafeffgaokiaaa
