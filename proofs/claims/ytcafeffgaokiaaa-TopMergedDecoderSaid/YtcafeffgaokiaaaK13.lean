/- propagation.written: the walk of its iterator. -/
import Derived.Test.YtcafeffgaokiaaaK11
import Derived.Test.YtcafeffgaokiaaaK12
namespace Go.Proofs.Ytcafeffgaokiaaa
open Go.RowKit
theorem wideF (f : FuncId) : Fence.wide.fn f = True := rfl
attribute [local go_sem] Oper.semAt_some wideF
/-- What a round keeps: all cells but those of the blocks from lo to hi. -/
def KpH (lo hi : Nat) (W W' : World) : Prop := W.heap.size ≤ W'.heap.size ∧ ∀ (b : Nat) (o : Obj), (b < lo ∨ hi ≤ b) → W.heap[b]? = some o → o.isCells = true → W'.heap[b]? = some o
theorem KpH.refl (lo hi : Nat) (W : World) : KpH lo hi W W := ⟨Nat.le_refl _, fun _ _ _ h _ => h⟩
theorem KpH.trans {lo hi : Nat} {A B C : World} (h : KpH lo hi A B) (k : KpH lo hi B C) : KpH lo hi A C := ⟨Nat.le_trans h.1 k.1, fun b o hb hc hd => k.2 b o hb (h.2 b o hb hc hd) hd⟩
theorem KpH.put {lo hi : Nat} {W : World} {l : Nat} {o : Obj} (o' : Obj) (hl : W.heap[l]? = some o) (hc : o.isCells = false) : KpH lo hi W (W.putObj l o') :=
  ⟨by simp, fun b p _ hb hp => by
    by_cases e : b = l
    · subst e; rw [hl] at hb; cases hb; rw [hc] at hp; cases hp
    · rw [World.putObj_heap_other e]; exact hb⟩
theorem KpH.of_below {lo hi : Nat} {W W' : World} (h : Below W.heap.size W W') : KpH lo hi W W' := ⟨h.size, fun b o _ hb _ => by rw [h.block b (Array.getElem?_eq_some_iff.1 hb).1]; exact hb⟩
theorem kpc_cells {W : World} {a : Addr} {v : Value} (hc : W.cell? a = some v) (o : Obj) (ho : W.heap[a.block]? = some o) : o.isCells = true := by
  unfold World.cell? at hc
  rw [ho] at hc
  cases o <;> simp_all [Obj.isCells]
theorem cell_kept {W W' : World} {a : Addr} {v : Value} (hc : W.cell? a = some v) (h : ∀ o, W.heap[a.block]? = some o → o.isCells = true → W'.heap[a.block]? = some o) : W'.cell? a = some v := by
  obtain ⟨o, hb, _⟩ : ∃ o, W.heap[a.block]? = some o ∧ True := by
    unfold World.cell? at hc
    cases e : W.heap[a.block]? with
    | none => simp [e] at hc
    | some o => exact ⟨o, rfl, trivial⟩
  have := h _ hb (kpc_cells hc _ hb)
  rw [← hc]; unfold World.cell?; rw [this, hb]
theorem KpH.cell {lo hi : Nat} {W W' : World} (h : KpH lo hi W W') {a : Addr} {v : Value} (hc : W.cell? a = some v) (ha : a.block < lo ∨ hi ≤ a.block) : W'.cell? a = some v := cell_kept hc fun o ho hd => h.2 _ o ha ho hd
/-- The cells that lay there at the beginning. -/
def Low (w0 W : World) : Prop := w0.heap.size ≤ W.heap.size ∧ ∀ (b : Nat) (o : Obj), w0.heap[b]? = some o → o.isCells = true → W.heap[b]? = some o
theorem Low.kept {lo hi : Nat} {w0 W W' : World} (h : Low w0 W) (hlo : w0.heap.size ≤ lo) (k : KpH lo hi W W') : Low w0 W' :=
  ⟨Nat.le_trans h.1 k.1, fun b o hb hc => k.2 b o (.inl (Nat.lt_of_lt_of_le (Array.getElem?_eq_some_iff.1 hb).1 hlo)) (h.2 b o hb hc) hc⟩
theorem Low.of_below {w0 W : World} (h : Below w0.heap.size w0 W) : Low w0 W := ⟨h.size, fun b o hb _ => by rw [h.block b (Array.getElem?_eq_some_iff.1 hb).1]; exact hb⟩
theorem SlAt.low {sz : Nat} {w0 W : World} {p : Option Addr} {n : Nat} {C : Nat → Nat → Value} (h : SlAt sz w0 p n C) (k : Low w0 W) : SlAt sz W p n C := by
  rcases h with h | ⟨b, off, rfl, hlt, hc⟩
  · exact .inl h
  · exact .inr ⟨b, off, rfl, Nat.lt_of_lt_of_le hlt k.1, fun i hi j hj => cell_kept (hc i hi j hj) fun o ho hd => k.2 _ o ho hd⟩
theorem EM.At.low {m : EM} {w0 W : World} {p : Option Addr} (h : m.At w0 p) (k : Low w0 W) : m.At W p := by
  obtain ⟨H, h1, h2⟩ := h
  exact ⟨H, h1.low k, fun i hi => (h2 i hi).low k⟩
theorem AbT.drew {β : Type} {T : Nat → World → Prop} {I : β → World → Prop} (h : AbT T I) {s : β} {W : World} (hs : I s W) : I s W.drew :=
  h s W _ none hs (below_grown0 ((Below.refl _ W).drew)) (fun r e => by cases e)
/-- An encoder's box. -/
def EBox (W : World) (be : Nat) (L b i : Int) (m : EM) (p : Option Addr) (c : Nat) : Prop :=
  W.cell? ⟨be, 0, none⟩ = some (.int .i64 L) ∧ W.cell? ⟨be, 1, none⟩ = some (.int .i64 b) ∧ W.cell? ⟨be, 2, none⟩ = some (.int .i64 i) ∧ W.cell? ⟨be, 3, none⟩ = some (.slice p m.r c)
theorem EBox.kept {lo hi : Nat} {W W' : World} {be : Nat} {L b i : Int} {m : EM} {p : Option Addr} {c : Nat} (h : EBox W be L b i m p c) (k : KpH lo hi W W') (hb : be < lo ∨ hi ≤ be) : EBox W' be L b i m p c :=
  ⟨k.cell h.1 hb, k.cell h.2.1 hb, k.cell h.2.2.1 hb, k.cell h.2.2.2 hb⟩
/-- What the function from finds. -/
def FrB (w0 W : World) (l gy be gf : Nat) (L b i : Int) (m : EM) (p : Option Addr) (c : Nat) : Prop :=
  W.cell? ⟨gy, 0, none⟩ = some (.func (.yield l) #[] #[]) ∧ W.cell? ⟨gf, 0, none⟩ = some (.func (.func 93) #[] #[.pointer (some ⟨gy, 0, none⟩), .pointer (some ⟨be, 0, none⟩), .pointer (some ⟨gf, 0, none⟩)]) ∧ EBox W be L b i m p c ∧ Low w0 W
theorem FrB.kept {lo hi : Nat} {w0 W W' : World} {l gy be gf : Nat} {L b i : Int} {m : EM} {p : Option Addr} {c : Nat} (h : FrB w0 W l gy be gf L b i m p c) (k : KpH lo hi W W') (h0 : w0.heap.size ≤ lo) (h1 : hi ≤ gy) (h2 : hi ≤ gf) (h3 : be < lo ∨ hi ≤ be) : FrB w0 W' l gy be gf L b i m p c :=
  ⟨k.cell h.1 (.inr h1), k.cell h.2.1 (.inr h2), h.2.2.1.kept k h3, h.2.2.2.kept h0 k⟩
def FrPost (lo hi : Nat) (J Jx : List ByteArray → World → Prop) (pre add : List ByteArray) (W : World) (e : Ending) (W' : World) : Prop :=
  (e = .returned (.bool true) ∧ J (pre ++ add) W' ∧ KpH lo hi W W') ∨ (e = .returned (.bool false) ∧ ∃ q, Jx q W')
set_option maxRecDepth 100000 in
set_option maxHeartbeats 8000000 in
theorem from_in (w0 : World) (lo hi : Nat) (l gy be gf : Nat) (hlo : w0.heap.size ≤ lo) (h1 : hi ≤ gy) (h2 : hi ≤ gf) (h3 : be < lo ∨ hi ≤ be) (L b i : Int) (m : EM) (p : Option Addr) (c : Nat) (I B : Nat) (hAt : m.At w0 p) (hm : m.Ok I B) (hI : I ≤ 256) (hr : m.r ≤ 64) (ws : List ByteArray) (J Jx : List ByteArray → World → Prop) (hJ : AbT (fun _ _ => False) J)
    (hY : ∀ pre x W1, J pre W1 → (∃ post, pre ++ x :: post = ws) → YieldAt Fence.wide 0 Try.prog l #[.string x] W1 fun e W' => (e = .returned (.bool true) ∧ J (pre ++ [x]) W' ∧ KpH lo hi W1 W') ∨ (e = .returned (.bool false) ∧ Jx (pre ++ [x]) W')) :
    ∀ (n s : Nat) (x : ByteArray) (pre post : List ByteArray) (W : World), n ≤ 16 → s < m.r → pre ++ wordsL m n s x ++ post = ws → J pre W → FrB w0 W l gy be gf L b i m p c → x.size + n * B ≤ 1000000 →
      CallsIn Fence.wide 0 Try.prog 93 #[.int .i64 (s : Int), .int .i64 (n : Int), .string x, .pointer (some ⟨gy, 0, none⟩), .pointer (some ⟨be, 0, none⟩), .pointer (some ⟨gf, 0, none⟩)] W (FrPost lo hi J Jx pre (wordsL m n s x) W) := by
  have HY := Lib.hid hY
  have HJA := Lib.hid hJ
  have HM := Lib.hid hm
  have HAt := Lib.hid hAt
  have HKf := Lib.hid (fun (V V' : World) (h : FrB w0 V l gy be gf L b i m p c) (k : KpH lo hi V V') => h.kept k hlo h1 h2 h3)
  have HLo := Lib.hid (fun (V V' : World) (h : Low w0 V) (k : KpH lo hi V V') => h.kept hlo k)
  clear hY hJ hm hAt hlo h1 h2 h3
  intro n
  induction n with
  | zero =>
    intro s x pre post W _ hs hw h0 hF hx
    have HW := Lib.hid hw
    have H0 := Lib.hid h0
    obtain ⟨y0, _, _⟩ := hF
    clear hw h0 hx hs
    refine callsIn_of_wp Try.func93 rfl trivial ?_ rfl
    simp only [Try.ntmps93, List.size_toArray, List.length_cons, List.length_nil, Nat.reduceAdd, Nat.reduceSub, Array.replicate_succ, Array.replicate_zero, List.push_toArray, List.append_toArray, List.nil_append, List.cons_append]
    refine wpIn_wide.2 ?_
    go_upto_region 2 with (fail)
    obtain ⟨fn, tmps, assign, body, hyl, hR⟩ := HY.out pre x _ H0.out ⟨post, by rw [← HW.out]; simp [wordsL]⟩
    have HR := Lib.hid hR
    clear hR
    refine (wpIn_wide (n := 0)).1 ?_
    gi_wp2
    refine ⟨rfl, HR.out.mono ?_⟩
    rintro e W3 (⟨rfl, hJ3, hk3⟩ | ⟨rfl, hJx3⟩)
    · have HR3 : Hid (FrPost lo hi J Jx pre (wordsL m 0 s x) W (.returned (.bool true)) W3) := Lib.hid (.inl ⟨rfl, hJ3, hk3⟩)
      clear hJ3 hk3 hyl HR
      gi_wp2
      go_wp2
      go_ret
      exact HR3.out
    · have HR3 : Hid (FrPost lo hi J Jx pre (wordsL m 0 s x) W (.returned (.bool false)) W3) := Lib.hid (.inr ⟨rfl, _, hJx3⟩)
      clear hJx3 hyl HR
      gi_wp2
      go_wp2
      go_ret
      exact HR3.out
  | succ n ih =>
    intro s x pre post W hn hs hw h0 hF hx
    obtain ⟨y0, f0, ⟨e0, e1, e2, e3⟩, hLw⟩ := hF
    obtain ⟨eb, eo, q, cq, rfl, _, hrow, _⟩ := (HAt.out.low hLw).row hs
    have HF : Hid (FrB w0 W l gy be gf L b i m (some ⟨eb, eo, none⟩) c) := Lib.hid ⟨y0, f0, ⟨e0, e1, e2, e3⟩, hLw⟩
    have HLw := Lib.hid hLw
    have hcells : SlAt 2 W q (m.L s) (m.cell s) := by
      obtain ⟨_, _, q2, _, e9, _, hrow9, hcells9⟩ := (HAt.out.low hLw).row hs
      cases e9
      rw [hrow9] at hrow
      cases hrow
      exact hcells9
    have HCs := Lib.hid hcells
    have HRw : Hid (∀ V, KpH lo hi W V → SlAt 2 V q (m.L s) (m.cell s)) := Lib.hid (fun V k => by
      obtain ⟨b9, o9, q2, _, e9, _, hrow9, hcells9⟩ := (HAt.out.low (HLo.out _ _ hLw k)).row hs
      obtain ⟨b8, o8, q8, _, e8, _, hrow8, hcells8⟩ := HAt.out.row hs
      cases e9
      cases e8
      have h7 := cell_kept hrow8 fun o ho hd => hLw.2 _ o ho hd
      have h6 := cell_kept hrow8 fun o ho hd => (HLo.out _ _ hLw k).2 _ o ho hd
      rw [h7] at hrow
      rw [h6] at hrow9
      cases hrow
      cases hrow9
      exact hcells9)
    have HW := Lib.hid hw
    have H0 : Hid (J (pre ++ wordsK m n s x 0) W) := Lib.hid (by simpa [wordsK] using h0)
    have HI := Lib.hid ih
    have hLs : m.L s ≤ 256 := by rw [HM.out.len s hs]; exact hI
    obtain ⟨N, hN⟩ : ∃ N, n + 1 = N := ⟨_, rfl⟩
    have N0 : ((N : Int) == 0) = false := by rw [beq_eq_false_iff_ne]; omega
    have N1 : (N : Int) - 1 = (n : Int) := by omega
    have N2 : wrap64 (n : Int) = (n : Int) := IntWalk.wrap64_in _ (by omega)
    have s0 : (0 : Int) ≤ (s : Int) := by omega
    have s1 : (s : Int) < (m.r : Int) := by omega
    have Hx : Hid (x.size + (n + 1) * B ≤ 1000000) := Lib.hid hx
    have HWL : Hid (wordsL m N s x = wordsK m n s x (m.L s)) := Lib.hid (by rw [← hN]; rfl)
    rw [hN]
    have HW2 : Hid (pre ++ wordsK m n s x (m.L s) ++ post = ws) := Lib.hid (by rw [← HW.out]; rfl)
    have HsR := Lib.hid hs
    have Hn := Lib.hid hn
    clear hw h0 hLw ih hcells hN hx HW hn hs
    refine callsIn_of_wp Try.func93 rfl trivial ?_ rfl
    simp only [Try.ntmps93, List.size_toArray, List.length_cons, List.length_nil, Nat.reduceAdd, Nat.reduceSub, Array.replicate_succ, Array.replicate_zero, List.push_toArray, List.append_toArray, List.nil_append, List.cons_append]
    refine wpIn_wide.2 ?_
    go_wp2
    go_loopw [23] (fun kv wr => ∃ k : Nat, k ≤ m.L s ∧ kv = .int .i64 (k : Nat) ∧ Hid (J (pre ++ wordsK m n s x k) wr) ∧ Hid (KpH lo hi W wr)) (fun kv _ => m.L s - (intOf kv).toNat)
    case atStart => exact ⟨0, by omega, by go_num, H0, Lib.hid (KpH.refl lo hi W)⟩
    case round =>
      clear y0 f0 e0 e1 e2 e3 hrow H0
      obtain ⟨k, hk, rfl, HJ1, HK⟩ := hrel
      by_cases hlt : k < m.L s
      · have k0 : (0 : Int) ≤ (k : Int) := by omega
        have k1 : (k : Int) < (m.L s : Int) := by omega
        obtain ⟨fb, fo, rfl, hfb, d0, d1⟩ := EM.cells (HRw.out wr HK.out) hlt
        have hkI : k < I := by rw [← HM.out.len s HsR.out]; exact hlt
        have ht0 := HM.out.to0 s k HsR.out hkI
        have ht1 := HM.out.to1 s k HsR.out hkI
        have hd := HM.out.wd s k HsR.out hkI
        obtain ⟨t, ht⟩ : ∃ t : Nat, (m.T s k).toNat = t := ⟨_, rfl⟩
        have htI : m.T s k = (t : Int) := by omega
        obtain ⟨dd, hdd⟩ : ∃ d, m.D s k = d := ⟨_, rfl⟩
        have hsz : dd.size = B := by rw [← hdd]; exact hd
        have hov : ¬ 9223372036854775807 < x.size + dd.size := by
          have h := Hx.out
          rw [Nat.add_mul] at h
          omega
        have HNx : Hid (wordsK m n s x (k + 1) = wordsK m n s x k ++ wordsL m n t (x ++ dd)) := Lib.hid (by rw [wordsK_succ, ht, hdd])
        have HPost : Hid (∃ post2, (pre ++ wordsK m n s x k) ++ wordsL m n t (x ++ dd) ++ post2 = ws) := Lib.hid (by
          refine ⟨(((List.range (m.L s)).drop (k + 1)).flatMap fun k => wordsL m n (m.T s k).toNat (x ++ m.D s k)) ++ post, ?_⟩
          rw [← HW2.out, List.append_assoc pre, ← HNx.out]
          rw [← List.append_assoc, List.append_assoc pre]
          congr 2
          unfold wordsK
          rw [← List.flatMap_append]
          congr 1
          have h1 : List.range (k + 1) = (List.range (m.L s)).take (k + 1) := by
            rw [List.take_range]
            congr 1
            omega
          rw [h1, List.take_append_drop])
        have Hsz2 : Hid ((x ++ dd).size + n * B ≤ 1000000) := Lib.hid (by
          have h := Hx.out
          rw [Nat.add_mul] at h
          rw [ByteArray.size_append]
          omega)
        rw [htI] at d0
        rw [hdd] at d1
        have Ht1 : Hid (t < m.r) := Lib.hid (by rw [← ht]; exact ht1)
        clear ht0 ht1 hd ht htI hdd hkI
        go_upto_region 6 with (fail)
        have hal := (Below.refl wr.heap.size wr).alloc (Nat.le_refl _) (.cells #[.int .i64 (t : Int), .string dd] 84)
        have HJ2 : Hid (J (pre ++ wordsK m n s x k) (wr.alloc (.cells #[.int .i64 (t : Int), .string dd] 84))) := Lib.hid (HJA.out.alloc _ HJ1.out)
        have HK2 := Lib.hid (HK.out.trans (KpH.of_below hal))
        obtain ⟨gt, hgt⟩ : ∃ g, wr.heap.size = g := ⟨_, rfl⟩
        have t0 : (wr.alloc (.cells #[.int .i64 (t : Int), .string dd] 84)).cell? ⟨gt, 0, none⟩ = some (.int .i64 (t : Int)) := by rw [← hgt]; simp
        have t1 : (wr.alloc (.cells #[.int .i64 (t : Int), .string dd] 84)).cell? ⟨gt, 1, none⟩ = some (.string dd) := by rw [← hgt]; simp
        rw [hgt]
        clear hgt hal d0 d1 hfb HJ1 HK
        generalize wr.alloc (.cells #[.int .i64 (t : Int), .string dd] 84) = V at *
        obtain ⟨y0, f0, _⟩ := HKf.out _ _ HF.out HK2.out
        have HIH := Lib.hid (fun p2 (h : (pre ++ wordsK m n s x k) ++ wordsL m n t (x ++ dd) ++ p2 = ws) => HI.out t (x ++ dd) (pre ++ wordsK m n s x k) p2 V (by have := Hn.out; omega) Ht1.out h HJ2.out (HKf.out _ _ HF.out HK2.out) Hsz2.out)
        obtain ⟨p2, hp2⟩ := HPost.out
        have HC := Lib.hid (HIH.out p2 hp2)
        clear hp2 HIH HPost p2
        refine (wpIn_wide (n := 0)).1 ?_
        gi_wp2
        refine ⟨rfl, HC.out.mono ?_⟩
        rintro e W3 (⟨rfl, hJ3, hk3⟩ | ⟨rfl, hJx3⟩)
        · have HJ3 : Hid (J (pre ++ wordsK m n s x (k + 1)) W3) := Lib.hid (by rw [HNx.out, ← List.append_assoc]; exact hJ3)
          have HK3 := Lib.hid (HK2.out.trans hk3)
          clear hJ3 hk3 HC y0 f0 t0 t1
          gi_wp2
          go_wp2
          go_roundw
          case rel => exact ⟨k + 1, by omega, by go_num, HJ3, HK3⟩
          case measure => simp [intOf]; omega
        · have HR3 : Hid (FrPost lo hi J Jx pre (wordsL m N s x) W (.returned (.bool false)) W3) := Lib.hid (.inr ⟨rfl, hJx3⟩)
          clear hJx3 HC y0 f0 t0 t1
          gi_wp2
          go_wp2
          go_ret
          exact HR3.out
      · have k1 : ¬ (k : Int) < (m.L s : Int) := by omega
        have hke : k = m.L s := by omega
        have HR3 : Hid (FrPost lo hi J Jx pre (wordsL m N s x) W (.returned (.bool true)) wr) := Lib.hid (.inl ⟨rfl, by rw [HWL.out, ← hke]; exact HJ1.out, HK.out⟩)
        clear hke
        go_wp2
        go_ret
        exact HR3.out
end Go.Proofs.Ytcafeffgaokiaaa
