/- propagation.written: what it yields. A region that draws its order, inside a round: by the plain walk's laws. -/
import Derived.Test.YtcafeffgaokiaaaK13
import Derived.Test.YtcafeffgaokiaaaK12
import Derived.OrdersIn
import Derived.OrdersHeld
import Derived.TacticsIn
namespace Go.Proofs.Ytcafeffgaokiaaa
open Go.RowKit
attribute [local go_sem] Oper.semAt_some wideF
set_option maxRecDepth 100000 in
set_option maxHeartbeats 8000000 in
theorem written_in (w0 : World) (lo hi : Nat) (l be bn : Nat) (hlo : w0.heap.size ≤ lo) (h3 : be < lo ∨ hi ≤ be) (h4 : bn < lo ∨ hi ≤ bn) (L b i : Int) (m : EM) (p : Option Addr) (c : Nat) (I B n : Nat) (hAt : m.At w0 p) (hm : m.Ok I B) (hI : I ≤ 256) (hr : m.r ≤ 64) (hn : n ≤ 16) (hB : B ≤ 16) (J Jx : List ByteArray → World → Prop) (hJ : AbT (fun _ _ => False) J)
    (hY : ∀ pre x W1, J pre W1 → (∃ post, pre ++ x :: post = wordsE m n) → YieldAt Fence.wide 0 Try.prog l #[.string x] W1 fun e W' => (e = .returned (.bool true) ∧ J (pre ++ [x]) W' ∧ KpH lo hi W1 W') ∨ (e = .returned (.bool false) ∧ Jx (pre ++ [x]) W'))
    (W : World) (hhi : hi ≤ W.heap.size) (hL : Low w0 W) (hE : EBox W be L b i m p c) (hbn : W.cell? ⟨bn, 0, none⟩ = some (.int .i64 (n : Int))) (h0 : J [] W) :
    CallsIn Fence.wide 0 Try.prog 92 #[.func (.yield l) #[] #[], .pointer (some ⟨be, 0, none⟩), .pointer (some ⟨bn, 0, none⟩)] W fun e W' => (∃ v, e = .returned v) ∧ ((∃ xs, xs = wordsE m n ∧ J xs W') ∨ ∃ pre, Jx pre W') := by
  have HFI := Lib.hid (fun gy gf h1 h2 => from_in w0 lo hi l gy be gf hlo h1 h2 h3 L b i m p c I B hAt hm hI hr (wordsE m n) J Jx hJ hY)
  have HJA := Lib.hid hJ
  have hal1 := (Below.refl W.heap.size W).alloc (Nat.le_refl _) (.cells #[.func (.yield l) #[] #[]] 148)
  have hsf := fun (a : Addr) (lb : Array Value) (w : World) => run_store Try.prog w a (.func (.func 93) #[] lb) .plain rfl
  refine callsIn_of_wp Try.func92 rfl trivial ?_ rfl
  simp only [Try.ntmps92, List.size_toArray, List.length_cons, List.length_nil, Nat.reduceAdd, Nat.reduceSub, Array.replicate_succ, Array.replicate_zero, List.push_toArray, List.append_toArray, List.nil_append, List.cons_append]
  refine wpIn_wide.2 ?_
  go_upto_region 3 with (fail)
  obtain ⟨gy, hgy⟩ : ∃ g, W.heap.size = g := ⟨_, rfl⟩
  obtain ⟨gf, hgf⟩ : ∃ g, gy + 1 = g := ⟨_, rfl⟩
  rw [hgy, hgf]
  obtain ⟨fv, hfv⟩ : ∃ v : Value, v = .func (.func 93) #[] #[.pointer (some ⟨gy, 0, none⟩), .pointer (some ⟨be, 0, none⟩), .pointer (some ⟨gf, 0, none⟩)] := ⟨_, rfl⟩
  rw [← hfv]
  obtain ⟨V, hV⟩ : ∃ V, (W.alloc (.cells #[.func (.yield l) #[] #[]] 148)).alloc (.cells #[fv] 149) = V := ⟨_, rfl⟩
  have hy0 : V.cell? ⟨gy, 0, none⟩ = some (.func (.yield l) #[] #[]) := by
    rw [← hV, ← hgy]
    exact (((Below.refl _ (W.alloc (.cells #[.func (.yield l) #[] #[]] 148))).alloc (Nat.le_refl _) (.cells #[fv] 149)).cell (p := ⟨W.heap.size, 0, none⟩) (by simp)).trans (cell_new0 W _ _)
  have hf0 : V.cell? ⟨gf, 0, none⟩ = some fv := by
    rw [← hV, ← hgf, ← hgy]
    simp
  have hbV : Below W.heap.size W V := by rw [← hV]; exact hal1.alloc hal1.size _
  have hJV : J [] V := by rw [← hV]; exact hJ.alloc _ (hJ.alloc _ h0)
  have hkV : KpH lo hi W V := KpH.of_below hbV
  have hgy1 : hi ≤ gy := by omega
  have hgf1 : hi ≤ gf := by omega
  have hFr : FrB w0 V l gy be gf L b i m p c := ⟨hy0, by rw [hf0, hfv], hE.kept hkV h3, hL.kept hlo hkV⟩
  have hnV := hkV.cell hbn h4
  obtain ⟨e0, e1, e2, e3⟩ := hE.kept hkV h3
  have HKf := Lib.hid (fun (V V' : World) (h : FrB w0 V l gy be gf L b i m p c) (k : KpH lo hi V V') => h.kept k hlo hgy1 hgf1 h3)
  have HFJ := Lib.hid (HFI.out gy gf hgy1 hgf1)
  have HKn := Lib.hid (fun (V V' : World) (v : Value) (k : KpH lo hi V V') (h : V.cell? ⟨bn, 0, none⟩ = some v) => k.cell h h4)
  rw [hV]
  have HFr := Lib.hid hFr
  have HnV := Lib.hid hnV
  have HJV : Hid (J (wordsS m n 0) V) := Lib.hid hJV
  have HWn : Hid (wordsE m n = wordsS m n m.r) := Lib.hid rfl
  have Hm := Lib.hid hm
  have HfV := Lib.hid hfv
  clear hV hy0 hf0 hbV hJV hkV hFr hnV hAt hal1 hE hbn h0 hY hJ hm hgf hgy hsf hfv hL hhi hlo h3 h4 hgy1 hgf1 HFI
  go_wp2
  go_loopw [10] (fun sv wr => ∃ s : Nat, s ≤ m.r ∧ sv = .int .i64 (s : Nat) ∧ Hid (J (wordsS m n s) wr) ∧ Hid (KpH lo hi V wr)) (fun sv _ => m.r - (intOf sv).toNat)
  case atStart => exact ⟨0, by omega, by go_num, HJV, Lib.hid (KpH.refl lo hi V)⟩
  case round =>
    clear HJV e0 e1 e2 e3
    obtain ⟨s, hs, rfl, HJ1, HK⟩ := hrel
    by_cases hlt : s < m.r
    · have s0 : (0 : Int) ≤ (s : Int) := by omega
      have s1 : (s : Int) < (m.r : Int) := by omega
      obtain ⟨y0, f0, _⟩ := HKf.out _ _ HFr.out HK.out
      have n0 := HKn.out _ _ _ HK.out HnV.out
      have HNx : Hid (wordsS m n (s + 1) = wordsS m n s ++ wordsL m n s ⟨#[]⟩) := Lib.hid (wordsS_succ m n s)
      have HPost : Hid (∃ post2, wordsS m n s ++ wordsL m n s ⟨#[]⟩ ++ post2 = wordsE m n) := Lib.hid (by
        refine ⟨((List.range m.r).drop (s + 1)).flatMap fun s => wordsL m n s ByteArray.empty, ?_⟩
        rw [← HNx.out]
        unfold wordsS wordsE
        rw [← List.flatMap_append]
        congr 1
        have h1 : List.range (s + 1) = (List.range m.r).take (s + 1) := by
          rw [List.take_range]
          congr 1
          omega
        rw [h1, List.take_append_drop])
      obtain ⟨p2, hp2⟩ := HPost.out
      have hbd : n * B ≤ 16 * 16 := Nat.mul_le_mul hn hB
      have HC := Lib.hid (HFJ.out n s ⟨#[]⟩ (wordsS m n s) p2 wr hn hlt hp2 HJ1.out (HKf.out _ _ HFr.out HK.out) (by show 0 + n * B ≤ 1000000; omega))
      clear hp2 HPost p2 hbd
      go_upto_region 6 with (fail)
      refine (wpIn_wide (n := 0)).1 ?_
      gi_wp2
      refine ⟨rfl, HC.out.mono ?_⟩
      rintro e W3 (⟨rfl, hJ3, hk3⟩ | ⟨rfl, hJx3⟩)
      · have HJ3 : Hid (J (wordsS m n (s + 1)) W3) := Lib.hid (by rw [HNx.out]; exact hJ3)
        have HK3 := Lib.hid (HK.out.trans hk3)
        clear hJ3 hk3 HC y0 f0 n0
        gi_wp2
        go_wp2
        go_roundw
        case rel => exact ⟨s + 1, by omega, by go_num, HJ3, HK3⟩
        case measure => simp [intOf]; omega
      · have HJx := Lib.hid hJx3
        clear hJx3 HC y0 f0 n0
        gi_wp2
        go_wp2
        refine bodyPost_ret (results_none rfl _ _ _) rfl ?_
        exact ⟨⟨_, rfl⟩, .inr HJx.out⟩
    · have s1 : ¬ (s : Int) < (m.r : Int) := by omega
      have hse : s = m.r := by omega
      rw [hse] at HJ1
      clear hse
      go_wp2
      go_end0
      exact ⟨⟨_, rfl⟩, .inl HJ1.out⟩
/-- .. as the contract of an iterator. -/
theorem written_seq (w0 : World) (lo hi : Nat) (be bn : Nat) (hlo : w0.heap.size ≤ lo) (h3 : be < lo ∨ hi ≤ be) (h4 : bn < lo ∨ hi ≤ bn) (L b i : Int) (m : EM) (p : Option Addr) (c : Nat) (I B n : Nat) (hAt : m.At w0 p) (hm : m.Ok I B) (hI : I ≤ 256) (hr : m.r ≤ 64) (hn : n ≤ 16) (hB : B ≤ 16) :
    SeqT Try.prog 0 92 #[.pointer (some ⟨be, 0, none⟩), .pointer (some ⟨bn, 0, none⟩)] (fun x => #[.string x]) (fun pre x _ => ∃ post, pre ++ x :: post = wordsE m n) (fun xs => xs = wordsE m n) (fun _ _ => False) (KpH lo hi) (fun W => hi ≤ W.heap.size ∧ Low w0 W ∧ EBox W be L b i m p c ∧ W.cell? ⟨bn, 0, none⟩ = some (.int .i64 (n : Int))) :=
  fun l J Jx W hP hJ _ hY h0 => written_in w0 lo hi l be bn hlo h3 h4 L b i m p c I B n hAt hm hI hr hn hB J Jx hJ hY W hP.1 hP.2.1 hP.2.2.1 hP.2.2.2 h0
end Go.Proofs.Ytcafeffgaokiaaa
namespace Go.Proofs.Ytcafeffgaokiaaa
open Go.RowKit

theorem op_lift {l n : Nat} {P : Program} {o : Oper} {a : Act} {w : World} {K : Act → World → Prop} {Q : Exit → Act → World → Prop} (hd : ∀ c, o.op ≠ .defer c) (h : o.wp P a w K Q) : o.wpIn (Fence.wide.inRound l) n P a w K Q := by
  unfold Oper.wp at h
  unfold Oper.wpIn
  refine ⟨fun _ _ => trivial, ?_⟩
  rw [show (Fence.wide.inRound l).round = some l from rfl, Oper.semAt_some l _ o hd]
  generalize (execOp a.eval o).run P w = r at *
  cases r with
  | ok x w' =>
    cases x <;> simp only [Oper.upon, Oper.uponIn] at h ⊢
    case value => exact h
    case skip => exact h
    case defer => exact h
    case enter f args => exact ⟨fun h => by simp [Fence.wide, Fence.inRound] at h, CallsIn.inRound l (callsIn_wide.2 h)⟩
    case row row args => exact ⟨fun h => by simp [Fence.wide, Fence.inRound] at h, fun c cs _ => let ⟨v, w', r, s⟩ := h c cs; ⟨v, w', r, stepsIn_wide.2 s⟩⟩
  | halt x w' => cases x <;> simp only [Oper.upon, Oper.uponIn] at h ⊢ <;> exact h
theorem any_lift {l n : Nat} {P : Program} {md : Region.Mode} {ops : Array Oper} {Q : Exit → Act → World → Prop} (hops : ∀ (i : Nat) (o : Oper), ops[i]? = some o → ∀ c, o.op ≠ .defer c) (hQ : ¬ LetsOut Q) :
    ∀ (fuel : Nat) (listed : Array Bool) (a : Act) (w : World), wpAny P md ops Q fuel listed a w → wpAnyIn (Fence.wide.inRound l) n P md ops Q fuel listed a w := by
  intro fuel
  induction fuel with
  | zero => intro listed a w h; exact h
  | succ fuel ih =>
    intro listed a w h
    refine ⟨h.1, fun i hi => ?_⟩
    have h2 := h.2 i hi
    unfold wpOp at h2
    unfold wpOpIn
    cases ho : ops[i]? with
    | none => rw [ho] at h2; exact ih _ _ _ h2
    | some o =>
      rw [ho] at h2
      dsimp only at h2 ⊢
      split
      · rename_i hw
        rw [if_pos hw] at h2
        rcases h2 with h3 | ⟨_, h3⟩
        · exact op_lift (hops i o ho) (Oper.wp_mono (fun a w h => ih _ a w h) h3)
        · exact absurd h3 hQ
      · rename_i hw
        rw [if_neg hw] at h2
        exact ⟨fun _ _ => trivial, ih _ _ _ h2⟩
/-- No defer statement. -/
def noDefer (ops : Array Oper) : Bool := ops.all fun o => match o.op with | .defer _ => false | _ => true
theorem noDefer_spec {ops : Array Oper} (h : noDefer ops = true) (i : Nat) (o : Oper) (ho : ops[i]? = some o) (c : Call) : o.op ≠ .defer c := by
  intro he
  have h2 := Array.all_eq_true_iff_forall_mem.1 h o (Array.mem_of_getElem? ho)
  rw [he] at h2
  cases h2
/-- A region that draws its order, inside a round: what is left to show is the plain walk's. -/
theorem region_lift {l n id : Nat} {P : Program} {ops : Array Oper} {Q : Exit → Act → World → Prop} {a : Act} {w : World} (hm : P.follows .mixedOrders = true) (hops : noDefer ops = true) (hQ : ¬ LetsOut Q)
    (h : wpAny P .any ops Q ops.size (Array.replicate ops.size false) a w.drew) : (Code.region id ops true).wpIn (Fence.wide.inRound l) n P Q a w :=
  wpIn_region_any hm (any_lift (noDefer_spec hops) hQ _ _ _ _ h)
end Go.Proofs.Ytcafeffgaokiaaa
