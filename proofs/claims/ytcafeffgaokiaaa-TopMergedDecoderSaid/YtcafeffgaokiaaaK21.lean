/- propagation.replacements: what it yields. -/
import Derived.Test.YtcafeffgaokiaaaK16
import Derived.LoopIn
import Derived.OrdersHeld
import Derived.Deep.RegionHeld
namespace Go.Proofs.Ytcafeffgaokiaaa
open Go.RowKit
attribute [local go_sem] Oper.semAt_some wideF
theorem indexAll (c : UInt8) (w : World) :
    Calls Try.prog 66 #[.string ({ data := #[48, 49, 50, 51, 52, 53, 54, 55, 56, 57, 97, 98, 99, 100, 101, 102] } : ByteArray), .int .u8 c.toNat] w fun e w' => e = .returned (.int .i64 (idxL 16 c)) ∧ w' = w := by
  have hbb : ((c.toNat : Nat) : Int).toNat.toUInt8 = c := by simp
  have := Try.strings_IndexByte ({ data := #[48, 49, 50, 51, 52, 53, 54, 55, 56, 57, 97, 98, 99, 100, 101, 102] } : ByteArray) c.toNat w
  rw [hbb] at this
  exact this
theorem written_any (L b i : Int) (p : Option Addr) (r c : Nat) (n : Nat) (W : World) :
    Calls Try.prog 70 #[.agg #[.int .i64 L, .int .i64 b, .int .i64 i, .slice p r c], .int .i64 (n : Int)] W fun e w' =>
      e = .returned (.func (.func 92) #[] #[.pointer (some ⟨W.heap.size, 0, none⟩), .pointer (some ⟨W.heap.size + 1, 0, none⟩)]) ∧
      w' = (W.alloc (.cells #[.int .i64 L, .int .i64 b, .int .i64 i, .slice p r c] 24)).alloc (.cells #[.int .i64 (n : Int)] 3) := by
  go_enter Try.func70, Try.ntmps70
  go_wp2
  go_ret
  exact ⟨rfl, rfl⟩
/-- What a round of replacements finds. -/
structure RFr (w0 W : World) (l gy be bd : Nat) (L b i : Int) (m : EM) (p : Option Addr) (c : Nat) (dl db di dp df : Int) (da : Option Addr) (dn dc : Nat) : Prop where
  y : W.cell? ⟨gy, 0, none⟩ = some (.func (.yield l) #[] #[])
  e : EBox W be L b i m p c
  d : DBox W bd dl db di dp df da dn dc
  low : Low w0 W
theorem RFr.kept {lo hi : Nat} {w0 W W' : World} {l gy be bd : Nat} {L b i : Int} {m : EM} {p : Option Addr} {c : Nat} {dl db di dp df : Int} {da : Option Addr} {dn dc : Nat}
    (h : RFr w0 W l gy be bd L b i m p c dl db di dp df da dn dc) (k : KpH lo hi W W') (hlo : w0.heap.size ≤ lo) (h1 : hi ≤ gy) (h2 : be < lo ∨ hi ≤ be) (h3 : bd < lo ∨ hi ≤ bd) :
    RFr w0 W' l gy be bd L b i m p c dl db di dp df da dn dc :=
  ⟨k.cell h.y (.inr h1), h.e.kept k h2, h.d.kept k h3, h.low.kept hlo k⟩
set_option maxRecDepth 100000 in
set_option maxHeartbeats 8000000 in
theorem repl_in (w0 : World) (B1 lo hi : Nat) (l be bn bd : Nat) (hlo : w0.heap.size ≤ lo) (h3 : be < lo ∨ hi ≤ be) (h4 : bn < lo ∨ hi ≤ bn) (h5 : bd < lo ∨ hi ≤ bd) (L : Nat) (b i : Int) (m : EM) (p : Option Addr) (c : Nat) (I B n : Nat) (hAt : m.At w0 p) (hm : m.Ok I B) (hI : I ≤ 256) (hr : m.r ≤ 64) (hn : n ≤ 16) (hB : B ≤ 16)
    (db di dp df : Int) (es : List Ent) (da : Option Addr) (dc : Nat) (hEs : EntsAt w0 da es) (hwins : WinsFit es) (hL16 : L ≤ 16) (hok : ∀ x ∈ wordsE m n, decErr (L : Int) db di dp df es x = 0)
    (J Jx : List Rp → World → Prop) (hJ : AbT (TB B1) J) (hJx : AbT (TB B1) Jx)
    (hY : ∀ pre x W1, J pre W1 → (∃ post, pre ++ x :: post = rpE (decOut (L : Int) db di dp df es) L (wordsE m n)) → YieldAt Fence.wide 0 Try.prog l (encR x) W1 fun e W' => (e = .returned (.bool true) ∧ J (pre ++ [x]) W' ∧ KpO B1 lo hi W1 W') ∨ (e = .returned (.bool false) ∧ Jx (pre ++ [x]) W' ∧ KeepsFrom B1 W1 W'))
    (W : World) (hB1 : B1 ≤ W.heap.size) (hhi : hi ≤ W.heap.size) (hL : Low w0 W) (hE : EBox W be (L : Int) b i m p c) (hbn : W.cell? ⟨bn, 0, none⟩ = some (.int .i64 (n : Int))) (hD : DBox W bd (L : Int) db di dp df da es.length dc) (h0 : J [] W) :
    CallsIn Fence.wide 0 Try.prog 69 #[.func (.yield l) #[] #[], .pointer (some ⟨be, 0, none⟩), .pointer (some ⟨bn, 0, none⟩), .pointer (some ⟨bd, 0, none⟩)] W fun e W' => (∃ v, e = .returned v) ∧ ((∃ xs, xs = rpE (decOut (L : Int) db di dp df es) L (wordsE m n) ∧ J xs W') ∨ ∃ pre, Jx pre W') := by
  refine calls_marks0 Try.func69 rfl ?_
  simp only [Try.ntmps69, List.size_toArray, List.length_cons, List.length_nil, Nat.reduceAdd, Nat.reduceSub, Array.replicate_succ, Array.replicate_zero, List.push_toArray, List.append_toArray, List.nil_append, List.cons_append]
  obtain ⟨gy, hgy⟩ : ∃ g, W.heap.size = g := ⟨_, rfl⟩
  go_upto_region 1 with (fail)
  have hbV := (Below.refl W.heap.size W).alloc (Nat.le_refl _) (.cells #[.func (.yield l) #[] #[]] 123)
  have hy0 := cell_new0 W (.func (.yield l) #[] #[]) 123
  rw [hgy] at hy0
  have hsV : (W.alloc (.cells #[.func (.yield l) #[] #[]] 123)).heap.size = gy + 1 := by simp [hgy]
  have hJV := hJ.below h0 hbV
  generalize W.alloc (.cells #[.func (.yield l) #[] #[]] 123) = V at *
  have hkV : KpH lo hi W V := KpH.of_below hbV
  have hgy1 : hi ≤ gy := by omega
  have hFr : RFr w0 V l gy be bd (L : Int) b i m p c (L : Int) db di dp df da es.length dc := ⟨hy0, hE.kept hkV h3, hD.kept hkV h5, hL.kept hlo hkV⟩
  have hnV := hkV.cell hbn h4
  have HKf := Lib.hid (fun (V V' : World) (h : RFr w0 V l gy be bd (L : Int) b i m p c (L : Int) db di dp df da es.length dc) (k : KpH lo hi V V') => h.kept k hlo hgy1 h3 h5)
  obtain ⟨e0, e1, e2, e3⟩ := hFr.e
  have HFr := Lib.hid hFr
  have HJV := Lib.hid hJV
  have hB1V : B1 ≤ V.heap.size := by omega
  clear hFr hJV hy0 hE hD hL h0 hkV hbn hbV
  obtain ⟨g1, hg1'⟩ : ∃ g, gy + 1 = g := ⟨_, rfl⟩
  have hg1 : V.heap.size = g1 := by omega
  clear hsV
  go_wp2_with (go_at_call 70; go_fit (written_any (L : Int) b i p m.r c n _); rintro e w1 ⟨rfl, hw1⟩; have Hw1 := Lib.hid hw1; clear hw1)
  have hb1 : Below g1 V w1 := by
    rw [Hw1.out, ← hg1]
    exact ((Below.refl _ V).alloc (Nat.le_refl _) _).alloc (by simp) _
  have hs1 : w1.heap.size = g1 + 2 := by rw [Hw1.out]; simp [hg1]
  have hE1 : EBox w1 g1 (L : Int) b i m p c := by
    rw [Hw1.out, ← hg1]
    refine ⟨?_, ?_, ?_, ?_⟩ <;> simp
  have hn1 : w1.cell? ⟨g1 + 1, 0, none⟩ = some (.int .i64 (n : Int)) := by
    rw [Hw1.out, ← hg1]
    simp
  have hbb1 : Below V.heap.size V w1 := by rw [hg1]; exact hb1
  have hFr1 := HKf.out _ _ HFr.out (KpH.of_below hbb1)
  have hJ1 := hJ.below HJV.out hbb1
  have HJA := Lib.hid (hJ.up (show B1 ≤ w1.heap.size by omega))
  have HJXA := Lib.hid (hJx.up (show B1 ≤ w1.heap.size by omega))
  have HJA0 := Lib.hid hJ
  have HJXA0 := Lib.hid hJx
  have HSeq := Lib.hid (written_seq w0 lo hi g1 (g1 + 1) hlo (.inr (by omega)) (.inr (by omega)) (L : Int) b i m p c I B n hAt hm hI hr hn hB)
  have HLo := Lib.hid (fun (V V' : World) (h : Low w0 V) (k : KpH lo hi V V') => h.kept hlo k)
  have HY := Lib.hid hY
  have HEs := Lib.hid hEs
  have HWi := Lib.hid hwins
  have HOk := Lib.hid hok
  have HSz : Hid (∀ x ∈ wordsE m n, x.size ≤ 1000000) := Lib.hid (fun x hx => by
    obtain ⟨s, hs, hx⟩ := List.mem_flatMap.1 hx
    have := wordsL_size hm n s _ (List.mem_range.1 hs) x hx
    have h2 : n * B ≤ 16 * 16 := Nat.mul_le_mul hn hB
    have h3 : ByteArray.empty.size = 0 := rfl
    omega)
  clear hY hEs hwins hok hJ hJx Hw1 hbb1 hAt hm hI hr hn hB HFr HJV e0 e1 e2 e3 hnV hb1
  refine rangeW0 (gf := 92) (lb := #[.pointer (some ⟨g1, 0, none⟩), .pointer (some ⟨g1 + 1, 0, none⟩)]) rfl (enters_of Try.func92 (by kernel_rfl) rfl)
    (HSeq.out.toX (Kx := fun _ _ => True)) (fun _ _ _ => trivial) (by rintro r X h; exact h.elim) (fun h k => h.trans k) (fun X o o' ho hc => KpH.put o' ho hc)
    (fun X hX _ => ⟨by have := hX.size; omega, HLo.out _ _ hFr1.low (KpH.of_below hX), hE1.kept (lo := lo) (hi := hi) (KpH.of_below hX) (.inr (by omega)), (KpH.of_below (lo := lo) (hi := hi) hX).cell hn1 (.inr (by show hi ≤ g1 + 1; omega))⟩) (fun _ => rfl)
    (fun x s W W' row h _ _ => h)
    (fun pre X => J (rpE (decOut (L : Int) db di dp df es) L pre) X ∧ RFr w0 X l gy be bd (L : Int) b i m p c (L : Int) db di dp df da es.length dc) (fun c _ X => c = .ret ∧ ∃ q, Jx q X)
    (fun s A B row h hg hr => ⟨HJA.out _ _ _ _ h.1 hg hr, HKf.out _ _ h.2 (KpH.turn hg hr)⟩) (fun c s A B row h hg hr => ⟨h.1, h.2.choose, HJXA.out _ _ _ _ h.2.choose_spec hg hr⟩)
    ⟨by simpa [rpE] using hJ1, hFr1⟩
    (fun x => { tmps := #[.func (.yield l) #[] #[], .pointer (some ⟨be, 0, none⟩), .pointer (some ⟨bn, 0, none⟩), .pointer (some ⟨bd, 0, none⟩), .pointer (some ⟨gy, 0, none⟩), .string x, undef, undef, undef, undef, undef, undef, .agg #[.int .i64 (L : Int), .int .i64 b, .int .i64 i, .slice p m.r c], .int .i64 (n : Int), .func (.func 92) #[] #[.pointer (some ⟨g1, 0, none⟩), .pointer (some ⟨g1 + 1, 0, none⟩)], .string x, undef, undef, undef, undef, undef, undef, undef, undef, undef, undef, undef, undef, undef, undef, undef, undef, undef, undef, undef, undef, undef, undef, undef, undef, undef, undef, undef, undef, undef, undef, undef, undef, undef, undef, undef, undef, undef, undef, undef, undef, undef, undef, undef, undef], defers := [] })
    ?assign ?body ?done ?stop
  case assign =>
    intro l2 x X K hK
    gi_wp2
    exact hK
  case done =>
    rintro D xs X hD rfl ⟨hj, _⟩ hK
    have HK := Lib.hid hK
    have HJ := Lib.hid hj
    clear hK hj hJ1 hFr1 hE1
    go_wp2
    refine ⟨by simp, .inl ⟨_, _, rfl, run_takeDeferred HK.out, ?_⟩⟩
    refine ⟨_, results_none rfl _ _ _, ⟨_, rfl⟩, .inl ⟨_, rfl, ?_⟩⟩
    exact HJA0.out _ _ _ (some D) HJ.out (grownBy_putObj' X D _) (fun r e => by cases e; exact ⟨by omega, _, HK.out, rfl⟩)
  case stop =>
    rintro D c2 pre X hD ⟨rfl, q, hq⟩ hK
    have HK := Lib.hid hK
    have HJ := Lib.hid hq
    clear hK hq hJ1 hFr1 hE1
    go_wp2
    refine ⟨by simp, .inl ⟨_, _, rfl, run_takeDeferred HK.out, ?_⟩⟩
    refine ⟨_, results_none rfl _ _ _, ⟨_, rfl⟩, .inr ⟨q, ?_⟩⟩
    exact HJXA0.out _ _ _ (some D) HJ.out (grownBy_putObj' X D _) (fun r e => by cases e; exact ⟨by omega, _, HK.out, rfl⟩)
  case body =>
    intro l2 pre x X ⟨hj, hF⟩ ⟨post, hG⟩
    have hxm : x ∈ wordsE m n := by rw [← hG]; simp
    have HG := Lib.hid hG
    have HF := Lib.hid hF
    have HJ := Lib.hid hj
    have hxe := HOk.out x hxm
    have HXe := Lib.hid hxe
    obtain ⟨d0, d1, d2, d3, d4, d5⟩ := hF.d
    have hxs : x.size ≤ 1000000 := HSz.out x hxm
    have HhX : Hid (hi ≤ X.heap.size) := Lib.hid (by have := World.block_lt_of_cell? X _ hF.y; dsimp only at this; omega)
    have HB : Hid (B1 ≤ w1.heap.size) := Lib.hid (by omega)
    clear hG hxm hxe hF hj hJ1 hFr1 hE1 hn1 HSeq HLo HJA HJXA HOk HSz
    clear hlo h3 h4 h5 hB1 hhi hB1V hg1 hg1' hgy1 hgy
    gi_wp2
    clear hs1
    refine ⟨rfl, CallsIn.mono (CallsIn.inRound l2 (callsIn_wide.2 (decode_any (L : Int) db di dp df es da dc x X (HEs.out.low HF.out.low) HWi.out (by omega)))) ?_⟩
    rintro e W2 ⟨v, rfl, ho, hb⟩
    obtain ⟨pv, cv, rfl, _, hI2, hpv⟩ := ho.form
    have HI2 := Lib.hid hI2
    have HJ2 := Lib.hid (HJA0.out.below HJ.out hb)
    have HF2 := Lib.hid (HKf.out _ _ HF.out (KpH.of_below hb))
    have HX2 : Hid (KpO B1 lo hi X W2) := Lib.hid (KpO.of_below hb)
    have HPv : Hid (∀ b, pv = some b → b.block < lo ∨ hi ≤ b.block) := Lib.hid (fun b e => .inr (Nat.le_trans HhX.out (hpv b e)))
    clear ho hb hI2 hpv HJ HF d0 d1 d2 d3 d4 d5
    gi_wp2
    gi_loopw [24] (fun av wr => ∃ k : Nat, k ≤ x.size ∧ av = .int .i64 (k : Int) ∧ Hid (J (rpE (decOut (L : Int) db di dp df es) L pre ++ rpA (decOut (L : Int) db di dp df es) x L k) wr) ∧ Hid (KpO B1 lo hi W2 wr)) (fun av _ => x.size - (intOf av).toNat)
    case atStart => exact ⟨0, by omega, by go_num, Lib.hid (by simpa [rpA] using HJ2.out), Lib.hid (KpO.refl _ _ _ _)⟩
    case round =>
      obtain ⟨k, hk, rfl, HJ3, HK3⟩ := hrel
      by_cases hlt : k < x.size
      · have k0 : (0 : Int) ≤ (k : Int) := by omega
        have k1 : (k : Int) < (x.size : Int) := by omega
        have HF3 := Lib.hid (HKf.out _ _ HF2.out HK3.out.1)
        have f0 := HF3.out.e.1
        gi_wp2
        gi_loopw [29] (fun qv wr => ∃ q : Nat, q ≤ L ∧ qv = .int .i64 (q : Int) ∧ Hid (J (rpE (decOut (L : Int) db di dp df es) L pre ++ rpA (decOut (L : Int) db di dp df es) x L k ++ rpK (decOut (L : Int) db di dp df es) x k q) wr) ∧ Hid (KpO B1 lo hi W2 wr)) (fun qv _ => L - (intOf qv).toNat)
        case atStart => exact ⟨0, by omega, by go_num, Lib.hid (by simpa [rpK] using HJ3.out), HK3⟩
        case round =>
          clear f0 HF3 HJ3 HK3
          obtain ⟨q, hq, rfl, HJ4, HK4⟩ := hrel
          by_cases hql : q < L
          · have q0 : (0 : Int) ≤ (q : Int) := by omega
            have q1 : (q : Int) < (L : Int) := by omega
            cases hmm : (idxL 16 x[k] == (q : Int)) with
            | true =>
              gi_wp2
              refine ⟨rfl, CallsIn.mono (CallsIn.inRound l2 (callsIn_wide.2 (indexAll x[k] _))) ?_⟩
              rintro e W4 ⟨rfl, rfl⟩
              gi_wp2
              go_roundw
              case rel => exact ⟨q + 1, by omega, by go_num, Lib.hid (by rw [rpK_hit (by rw [ba_getD x k hlt]; exact hmm)]; exact HJ4.out), HK4⟩
              case measure => simp [intOf]; omega
            | false =>
              gi_wp2
              refine ⟨rfl, CallsIn.mono (CallsIn.inRound l2 (callsIn_wide.2 (indexAll x[k] _))) ?_⟩
              rintro e W4 ⟨rfl, rfl⟩
              gi_wp2
              have HFw := Lib.hid (HKf.out _ _ HF2.out HK4.out.1)
              have HRp := Lib.hid (fun (w : World) => replaced_any x k q hlt (by omega) (by omega) w)
              have hrs : (replS x k q).size = x.size := replS_size x k q hlt (by omega)
              have HDc : Hid (∀ Y, KpH lo hi W4 Y → Calls Try.prog 11 #[.agg #[.int .i64 (L : Int), .int .i64 db, .int .i64 di, .int .i64 dp, .int .i64 df, .slice da es.length dc], .string (replS x k q)] Y fun e w' =>
                  ∃ v, e = .returned (.tuple #[v, .int .i64 (decErr (L : Int) db di dp df es (replS x k q))]) ∧ OwnInts w' Y.heap.size v (decOut (L : Int) db di dp df es (replS x k q)) ∧ Below Y.heap.size Y w') :=
                Lib.hid (fun Y hY => decode_any (L : Int) db di dp df es da dc (replS x k q) Y (HEs.out.low (HKf.out _ _ HFw.out hY).low) HWi.out (by omega))
              have HErr : Hid (decErr (L : Int) db di dp df es (replS x k q) = 0) := Lib.hid (replS_err hlt (by omega) (by omega) HXe.out)
              have HLen : Hid ((decOut (L : Int) db di dp df es (replS x k q)).length = (decOut (L : Int) db di dp df es x).length) := Lib.hid (by rw [decOut_len HErr.out, decOut_len HXe.out, hrs])
              have hKlt := HK4.out.1.1
              refine region_lift (by kernel_rfl) (by kernel_rfl) (by rintro ⟨_, _, h⟩; exact h) ?_
              refine wpAny_of_held (S := fun W => DBox W bd (L : Int) db di dp df da es.length dc) _ _ _ _ ?_
              have hSS : DBox W4.drew bd (L : Int) db di dp df da es.length dc := HFw.out.d
              refine wpAnyH_take (i := 0) (v := ?_) rfl (by kernel_rfl) (by kernel_rfl) (by kernel_rfl) (fun _ _ _ h => h) (Or.inl ⟨by rfl, ?_⟩) hSS ?_
              rotate_left 1
              next => intro w hSw; obtain ⟨s0, s1, s2, s3, s4, s5⟩ := hSw; go_simp; try with_reducible rfl
              refine wpAnyH_take (i := 1) (v := ?_) rfl (by kernel_rfl) (by kernel_rfl) (by kernel_rfl) (fun _ _ _ h => h) (Or.inl ⟨by rfl, ?_⟩) hSS ?_
              rotate_left 1
              next => intro w hSw; obtain ⟨s0, s1, s2, s3, s4, s5⟩ := hSw; go_simp; try with_reducible rfl
              refine wpAnyH_take (i := 2) (v := ?_) rfl (by kernel_rfl) (by kernel_rfl) (by kernel_rfl) (fun _ _ _ h => h) (Or.inl ⟨by rfl, ?_⟩) hSS ?_
              rotate_left 1
              next => intro w hSw; obtain ⟨s0, s1, s2, s3, s4, s5⟩ := hSw; go_simp; try with_reducible rfl
              refine wpAnyH_take (i := 3) (v := ?_) rfl (by kernel_rfl) (by kernel_rfl) (by kernel_rfl) (fun _ _ _ h => h) (Or.inl ⟨by rfl, ?_⟩) hSS ?_
              rotate_left 1
              next => intro w hSw; obtain ⟨s0, s1, s2, s3, s4, s5⟩ := hSw; go_simp; try with_reducible rfl
              refine wpAnyH_ready (rs := [4]) (by kernel_rfl) (by simp) ?_
              refine AllReadyH.cons rfl (fun K hK => ?_) AllReadyH.nil
              go_simp
              refine (HRp.out _).mono ?_
              rintro e W5 ⟨rfl, hdr⟩
              have hb5 : Below W4.heap.size W4 W5 := ((Below.refl _ W4).drew).trans (hdr.below _)
              have hSS2 : DBox W5 bd (L : Int) db di dp df da es.length dc := (HKf.out _ _ HFw.out (KpH.of_below hb5)).d
              dsimp only
              refine hK.out _ _ hSS2 (fun _ => ?_)
              clear hK K hdr hSS
              refine wpAnyH_ready (rs := [5]) (by kernel_rfl) (by simp) ?_
              refine AllReadyH.cons rfl (fun K hK => ?_) AllReadyH.nil
              go_simp
              refine (HDc.out W5 (KpH.of_below hb5)).mono ?_
              rintro e W6 ⟨v6, rfl, ho6, hb6⟩
              obtain ⟨p6, c6, rfl, _, hI6, hp6⟩ := ho6.form
              have HP6 : Hid (∀ b, p6 = some b → b.block < lo ∨ hi ≤ b.block) := Lib.hid (fun b e => .inr (Nat.le_trans (Nat.le_trans (Nat.le_trans HhX.out HX2.out.1.1) (Nat.le_trans hKlt hb5.size)) (hp6 b e)))
              have hb46 : Below W4.heap.size W4 W6 := hb5.trans (hb6.mono hb5.size)
              have HI6 := Lib.hid hI6
              have HK6 : Hid (KpO B1 lo hi W2 W6) := Lib.hid (HK4.out.trans (KpO.of_below hb46))
              have HJ6 := Lib.hid (HJA0.out.below HJ4.out hb46)
              have HF6 := Lib.hid (HKf.out _ _ HF2.out HK6.out.1)
              have hSS3 : DBox W6 bd (L : Int) db di dp df da es.length dc := HF6.out.d
              have HI1 : Hid (IntsAt W6 pv (decOut (L : Int) db di dp df es x)) := Lib.hid (HI2.out.kph HK6.out.1 HPv.out)
              clear hb46 hb6 hb5 ho6 hI6 hp6 HJ4 HDc HRp
              dsimp only
              refine hK.out _ _ hSS3 (fun _ => ?_)
              clear hK K hSS2
              refine wpAnyH_take (i := 6) (v := ?_) rfl (by kernel_rfl) (by kernel_rfl) (by kernel_rfl) (fun _ _ _ h => h) (Or.inl ⟨by rfl, ?_⟩) hSS3 ?_
              rotate_left 1
              next => intro w hSw; obtain ⟨s0, s1, s2, s3, s4, s5⟩ := hSw; go_simp; try with_reducible rfl
              refine wpAnyH_take (i := 7) (v := ?_) rfl (by kernel_rfl) (by kernel_rfl) (by kernel_rfl) (fun _ _ _ h => h) (Or.inl ⟨by rfl, ?_⟩) hSS3 ?_
              rotate_left 1
              next => intro w hSw; obtain ⟨s0, s1, s2, s3, s4, s5⟩ := hSw; go_simp; try with_reducible rfl
              refine wpAnyH_take (i := 8) (v := ?_) rfl (by kernel_rfl) (by kernel_rfl) (by kernel_rfl) (fun _ _ _ h => h) (Or.inl ⟨by rfl, ?_⟩) hSS3 ?_
              rotate_left 1
              next => intro w hSw; obtain ⟨s0, s1, s2, s3, s4, s5⟩ := hSw; go_simp; try with_reducible rfl
              refine wpAnyH_take (i := 9) (v := ?_) rfl (by kernel_rfl) (by kernel_rfl) (by kernel_rfl) (fun _ _ _ h => h) (Or.inl ⟨by rfl, ?_⟩) hSS3 ?_
              rotate_left 1
              next => intro w hSw; obtain ⟨s0, s1, s2, s3, s4, s5⟩ := hSw; go_simp; try with_reducible rfl
              refine wpAnyH_take (i := 10) (v := ?_) rfl (by kernel_rfl) (by kernel_rfl) (by kernel_rfl) (fun _ _ _ h => h) (Or.inl ⟨by rfl, ?_⟩) hSS3 ?_
              rotate_left 1
              next => intro w hSw; obtain ⟨s0, s1, s2, s3, s4, s5⟩ := hSw; go_simp; try with_reducible rfl
              refine wpAnyH_done (by kernel_rfl) ?_ _
              have y6 := HF6.out.y
              obtain ⟨q2, hq2⟩ := rp_pre (D := decOut (L : Int) db di dp df es) HG.out hlt hql (by rw [ba_getD x k hlt]; exact hmm)
              have HCh : Hid (∀ Y, KpH lo hi W6 Y → Calls Try.prog 40 #[.slice pv (decOut (L : Int) db di dp df es x).length cv, .slice p6 (decOut (L : Int) db di dp df es (replS x k q)).length c6] Y fun e w' => ∃ v, e = .returned v ∧ OwnInts w' Y.heap.size v (diffs (decOut (L : Int) db di dp df es x) (decOut (L : Int) db di dp df es (replS x k q))) ∧ Below Y.heap.size Y w') :=
                Lib.hid (fun Y hY => by
                  rw [HLen.out]
                  exact changes_any _ _ pv p6 cv c6 Y (HI1.out.kph hY HPv.out) (HI6.out.kph hY HP6.out) HLen.out (by rw [decOut_len HXe.out]; exact Nat.lt_of_le_of_lt winCount_le (by omega)))
              have HYx := Lib.hid (fun Y hY => HY.out _ (rpN (decOut (L : Int) db di dp df es) x k q) Y hY ⟨q2, hq2⟩)
              clear hq2 q2 hSS3 HFw HI1 HI6
              gi_wp2
              refine region_lift0 (by kernel_rfl) (by kernel_rfl) ?_
              refine wpAnyIn_take (i := 1) (v := ?_) rfl rfl (by kernel_rfl) (by kernel_rfl) (by kernel_rfl) (fun _ _ _ h => h) ⟨Or.inl ⟨by rfl, ?_⟩, ?_⟩ ?_
              rotate_left 1
              next => intro w; go_simp; try with_reducible rfl
              next => intro w; rfl
              refine wpAnyIn_take (i := 2) (v := ?_) rfl rfl (by kernel_rfl) (by kernel_rfl) (by kernel_rfl) (fun _ _ _ h => h) ⟨Or.inl ⟨by rfl, ?_⟩, ?_⟩ ?_
              rotate_left 1
              next => intro w; go_simp; try with_reducible rfl
              next => intro w; rfl
              refine wpAnyIn_take (i := 3) (v := ?_) rfl rfl (by kernel_rfl) (by kernel_rfl) (by kernel_rfl) (fun _ _ _ h => h) ⟨Or.inl ⟨by rfl, ?_⟩, ?_⟩ ?_
              rotate_left 1
              next => intro w; go_simp; try with_reducible rfl
              next => intro w; rfl
              refine wpAnyIn_take (i := 4) (v := ?_) rfl rfl (by kernel_rfl) (by kernel_rfl) (by kernel_rfl) (fun _ _ _ h => h) ⟨Or.inl ⟨by rfl, ?_⟩, ?_⟩ ?_
              rotate_left 1
              next => intro w; go_simp; try with_reducible rfl
              next => intro w; rfl
              refine wpAnyIn_take (i := 5) (v := ?_) rfl rfl (by kernel_rfl) (by kernel_rfl) (by kernel_rfl) (fun _ _ _ h => h) ⟨Or.inl ⟨by rfl, ?_⟩, ?_⟩ ?_
              rotate_left 1
              next => intro w; go_simp; try with_reducible rfl
              next => intro w; rfl
              refine wpAnyIn_ready (rs := [0, 6]) (by kernel_rfl) (by simp) ?_
              refine AllReadyIn.cons rfl (fun K hK => ?_) (AllReadyIn.cons rfl (fun K hK => ?_) AllReadyIn.nil)
              · have HKK := Lib.hid hK
                clear hK
                go_simp
                refine HKK.out _ _ ?_
                clear HKK K
                refine wpAnyIn_ready (rs := [6]) (by kernel_rfl) (by simp) ?_
                refine AllReadyIn.cons rfl (fun K hK => ?_) AllReadyIn.nil
                have HKK := Lib.hid hK
                clear hK
                go_simp
                refine ⟨rfl, CallsIn.mono (callsIn_wide.2 (HCh.out _ (KpH.of_below ((Below.refl _ W6).drew)))) ?_⟩
                rintro e W7 ⟨v7, rfl, ho7, hb7⟩
                have hb7 : Below W6.heap.size W6 W7 := ((Below.refl _ W6).drew).trans hb7
                obtain ⟨p7, c7, rfl, _, _, _⟩ := ho7.form
                have HJ7 := Lib.hid (HJA0.out.below HJ6.out hb7)
                have HK7 := Lib.hid (HK6.out.trans (KpO.of_below hb7))
                have HF7 := Lib.hid (HKf.out _ _ HF2.out HK7.out.1)
                have y7 := HF7.out.y
                dsimp only
                refine HKK.out _ _ ?_
                clear HKK K ho7 hb7
                refine wpAnyIn_take (i := 7) (v := ?_) rfl rfl (by kernel_rfl) (by kernel_rfl) (by kernel_rfl) (fun _ _ _ h => h) ⟨Or.inl ⟨by rfl, ?_⟩, ?_⟩ ?_
                rotate_left 1
                next => intro w; go_simp; try with_reducible rfl
                next => intro w; rfl
                refine wpAnyIn_take (i := 8) (v := ?_) rfl rfl (by kernel_rfl) (by kernel_rfl) (by kernel_rfl) (fun _ _ _ h => h) ⟨Or.inl ⟨by rfl, ?_⟩, ?_⟩ ?_
                rotate_left 1
                next => intro w; go_simp; try with_reducible rfl
                next => intro w; rfl
                refine wpAnyIn_ready (rs := [9]) (by kernel_rfl) (by simp) ?_
                refine AllReadyIn.cons rfl (fun K hK => ?_) AllReadyIn.nil
                have HKK := Lib.hid hK
                clear hK
                obtain ⟨fn9, tm9, as9, bo9, hyl, hR⟩ := HYx.out W7 HJ7.out
                simp only [encR, rpN] at hyl
                have HR := Lib.hid hR
                clear hR
                go_simp
                refine ⟨rfl, HR.out.mono ?_⟩
                rintro e W8 (⟨rfl, hJ8, hk8⟩ | ⟨rfl, hJx8, hk8⟩)
                · have HJ8 : Hid (J (rpE (decOut (L : Int) db di dp df es) L pre ++ rpA (decOut (L : Int) db di dp df es) x L k ++ rpK (decOut (L : Int) db di dp df es) x k (q + 1)) W8) := Lib.hid (by rw [rpK_miss (by rw [ba_getD x k hlt]; exact hmm), ← List.append_assoc]; exact hJ8)
                  have HK8 := Lib.hid (HK7.out.trans hk8)
                  clear hJ8 hk8 hyl HR HJ7 HK7 HF7 y7
                  dsimp only
                  refine HKK.out _ _ ?_
                  clear HKK K
                  refine wpAnyIn_take (i := 10) (v := ?_) rfl rfl (by kernel_rfl) (by kernel_rfl) (by kernel_rfl) (fun _ _ _ h => h) ⟨Or.inl ⟨by rfl, ?_⟩, ?_⟩ ?_
                  rotate_left 1
                  next => intro w; go_simp; try with_reducible rfl
                  next => intro w; rfl
                  refine wpAnyIn_done (by kernel_rfl) ?_ _
                  gi_wp2
                  go_roundw
                  case rel => exact ⟨q + 1, by omega, by go_num, HJ8, HK8⟩
                  case measure => simp [intOf]; omega
                · have HJx8 := Lib.hid hJx8
                  have HK8 : Hid (KeepsFrom w1.heap.size X W8) := Lib.hid ((keepsUp ((HX2.out.trans HK7.out).2) HB.out).trans (keepsUp hk8 HB.out))
                  clear hJx8 hk8 hyl HR HJ7 HK7 HF7 y7
                  dsimp only
                  refine HKK.out _ _ ?_
                  clear HKK K
                  refine wpAnyIn_take (i := 10) (v := ?_) rfl rfl (by kernel_rfl) (by kernel_rfl) (by kernel_rfl) (fun _ _ _ h => h) ⟨Or.inl ⟨by rfl, ?_⟩, ?_⟩ ?_
                  rotate_left 1
                  next => intro w; go_simp; try with_reducible rfl
                  next => intro w; rfl
                  refine wpAnyIn_done (by kernel_rfl) ?_ _
                  gi_wp2
                  exact ⟨HK8.out, rfl, _, HJx8.out⟩
              · have HKK := Lib.hid hK
                clear hK
                go_simp
                refine ⟨rfl, CallsIn.mono (callsIn_wide.2 (HCh.out _ (KpH.of_below ((Below.refl _ W6).drew)))) ?_⟩
                rintro e W7 ⟨v7, rfl, ho7, hb7⟩
                have hb7 : Below W6.heap.size W6 W7 := ((Below.refl _ W6).drew).trans hb7
                obtain ⟨p7, c7, rfl, _, _, _⟩ := ho7.form
                have HJ7 := Lib.hid (HJA0.out.below HJ6.out hb7)
                have HK7 := Lib.hid (HK6.out.trans (KpO.of_below hb7))
                have HF7 := Lib.hid (HKf.out _ _ HF2.out HK7.out.1)
                have y7 := HF7.out.y
                dsimp only
                refine HKK.out _ _ ?_
                clear HKK K ho7 hb7
                refine wpAnyIn_take (i := 7) (v := ?_) rfl rfl (by kernel_rfl) (by kernel_rfl) (by kernel_rfl) (fun _ _ _ h => h) ⟨Or.inl ⟨by rfl, ?_⟩, ?_⟩ ?_
                rotate_left 1
                next => intro w; go_simp; try with_reducible rfl
                next => intro w; rfl
                refine wpAnyIn_take (i := 8) (v := ?_) rfl rfl (by kernel_rfl) (by kernel_rfl) (by kernel_rfl) (fun _ _ _ h => h) ⟨Or.inl ⟨by rfl, ?_⟩, ?_⟩ ?_
                rotate_left 1
                next => intro w; go_simp; try with_reducible rfl
                next => intro w; rfl
                refine wpAnyIn_ready (rs := [0]) (by kernel_rfl) (by simp) ?_
                refine AllReadyIn.cons rfl (fun K hK => ?_) AllReadyIn.nil
                have HKK := Lib.hid hK
                clear hK
                go_simp
                refine HKK.out _ _ ?_
                clear HKK K
                refine wpAnyIn_ready (rs := [9]) (by kernel_rfl) (by simp) ?_
                refine AllReadyIn.cons rfl (fun K hK => ?_) AllReadyIn.nil
                have HKK := Lib.hid hK
                clear hK
                obtain ⟨fn9, tm9, as9, bo9, hyl, hR⟩ := HYx.out W7 HJ7.out
                simp only [encR, rpN] at hyl
                have HR := Lib.hid hR
                clear hR
                go_simp
                refine ⟨rfl, HR.out.mono ?_⟩
                rintro e W8 (⟨rfl, hJ8, hk8⟩ | ⟨rfl, hJx8, hk8⟩)
                · have HJ8 : Hid (J (rpE (decOut (L : Int) db di dp df es) L pre ++ rpA (decOut (L : Int) db di dp df es) x L k ++ rpK (decOut (L : Int) db di dp df es) x k (q + 1)) W8) := Lib.hid (by rw [rpK_miss (by rw [ba_getD x k hlt]; exact hmm), ← List.append_assoc]; exact hJ8)
                  have HK8 := Lib.hid (HK7.out.trans hk8)
                  clear hJ8 hk8 hyl HR HJ7 HK7 HF7 y7
                  dsimp only
                  refine HKK.out _ _ ?_
                  clear HKK K
                  refine wpAnyIn_take (i := 10) (v := ?_) rfl rfl (by kernel_rfl) (by kernel_rfl) (by kernel_rfl) (fun _ _ _ h => h) ⟨Or.inl ⟨by rfl, ?_⟩, ?_⟩ ?_
                  rotate_left 1
                  next => intro w; go_simp; try with_reducible rfl
                  next => intro w; rfl
                  refine wpAnyIn_done (by kernel_rfl) ?_ _
                  gi_wp2
                  go_roundw
                  case rel => exact ⟨q + 1, by omega, by go_num, HJ8, HK8⟩
                  case measure => simp [intOf]; omega
                · have HJx8 := Lib.hid hJx8
                  have HK8 : Hid (KeepsFrom w1.heap.size X W8) := Lib.hid ((keepsUp ((HX2.out.trans HK7.out).2) HB.out).trans (keepsUp hk8 HB.out))
                  clear hJx8 hk8 hyl HR HJ7 HK7 HF7 y7
                  dsimp only
                  refine HKK.out _ _ ?_
                  clear HKK K
                  refine wpAnyIn_take (i := 10) (v := ?_) rfl rfl (by kernel_rfl) (by kernel_rfl) (by kernel_rfl) (fun _ _ _ h => h) ⟨Or.inl ⟨by rfl, ?_⟩, ?_⟩ ?_
                  rotate_left 1
                  next => intro w; go_simp; try with_reducible rfl
                  next => intro w; rfl
                  refine wpAnyIn_done (by kernel_rfl) ?_ _
                  gi_wp2
                  exact ⟨HK8.out, rfl, _, HJx8.out⟩
          · have q1 : ¬ (q : Int) < (L : Int) := by omega
            have hqe : q = L := by omega
            rw [hqe, List.append_assoc, ← rpA_succ] at HJ4
            clear hqe
            gi_wp2
            go_roundw
            case rel =>
              first
                | exact ⟨k + 1, by omega, by go_num, HJ4, HK4⟩
                | (refine ⟨_, _, _, _, _, ⟨k + 1, by omega, ?_, HJ4⟩, rfl, rfl, rfl, rfl, rfl⟩; go_num)
            case measure => simp [intOf]; omega
      · have k1 : ¬ (k : Int) < (x.size : Int) := by omega
        have hke : k = x.size := by omega
        rw [hke, ← rpE_snoc] at HJ3
        clear hke
        gi_wp2
        exact ⟨keepsUp (HX2.out.trans HK3.out).2 HB.out, (HX2.out.trans HK3.out).1, HJ3.out, HKf.out _ _ HF2.out HK3.out.1⟩
end Go.Proofs.Ytcafeffgaokiaaa
