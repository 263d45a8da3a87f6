/- window.paths: the walk of its iterator. -/
import Derived.Test.YtcafeffgaokiaaaK19
import Derived.Test.YtcafeffgaokiaaaK13
namespace Go.Proofs.Ytcafeffgaokiaaa
open Go.RowKit
attribute [local go_sem] Oper.semAt_some wideF
def encP (x : ByteArray × Nat) : Array Value := #[.string x.1, .int .i64 (x.2 : Int)]
/-- What the function follow finds. -/
def PaB (w0 W : World) (l gn gy be bp gf N P : Nat) (L b i : Int) (m : EM) (p : Option Addr) (c : Nat) : Prop :=
  W.cell? ⟨gn, 0, none⟩ = some (.int .i64 (N : Int)) ∧ W.cell? ⟨gy, 0, none⟩ = some (.func (.yield l) #[] #[]) ∧ W.cell? ⟨bp, 0, none⟩ = some (.int .i64 (P : Int)) ∧ W.cell? ⟨gf, 0, none⟩ = some (.func (.func 85) #[] #[.pointer (some ⟨gn, 0, none⟩), .pointer (some ⟨gy, 0, none⟩), .pointer (some ⟨be, 0, none⟩), .pointer (some ⟨bp, 0, none⟩), .pointer (some ⟨gf, 0, none⟩)]) ∧ EBox W be L b i m p c ∧ Low w0 W
theorem PaB.kept {lo hi : Nat} {w0 W W' : World} {l gn gy be bp gf N P : Nat} {L b i : Int} {m : EM} {p : Option Addr} {c : Nat} (h : PaB w0 W l gn gy be bp gf N P L b i m p c) (k : KpH lo hi W W') (h0 : w0.heap.size ≤ lo) (hn : hi ≤ gn) (h1 : hi ≤ gy) (h2 : hi ≤ gf) (h3 : be < lo ∨ hi ≤ be) (h4 : bp < lo ∨ hi ≤ bp) : PaB w0 W' l gn gy be bp gf N P L b i m p c :=
  ⟨k.cell h.1 (.inr hn), k.cell h.2.1 (.inr h1), k.cell h.2.2.1 h4, k.cell h.2.2.2.1 (.inr h2), h.2.2.2.2.1.kept k h3, h.2.2.2.2.2.kept h0 k⟩
def PaPost (lo hi : Nat) (J Jx : List (ByteArray × Nat) → World → Prop) (pre add : List (ByteArray × Nat)) (W : World) (e : Ending) (W' : World) : Prop :=
  (e = .returned (.bool true) ∧ J (pre ++ add) W' ∧ KpH lo hi W W') ∨ (e = .returned (.bool false) ∧ ∃ q, Jx q W')
set_option maxRecDepth 100000 in
set_option maxHeartbeats 8000000 in
theorem follow_in (w0 : World) (lo hi : Nat) (l gn gy be bp gf M P : Nat) (hlo : w0.heap.size ≤ lo) (hgn : hi ≤ gn) (h1 : hi ≤ gy) (h2 : hi ≤ gf) (h3 : be < lo ∨ hi ≤ be) (h4 : bp < lo ∨ hi ≤ bp) (L b i : Int) (m : EM) (p : Option Addr) (c : Nat) (I B : Nat) (hAt : m.At w0 p) (hm : m.Ok I B) (hI : I ≤ 256) (hr : m.r ≤ 64) (hM : M ≤ 64) (hP : P ≤ 64) (ws : List (ByteArray × Nat)) (J Jx : List (ByteArray × Nat) → World → Prop) (hJ : AbT (fun _ _ => False) J)
    (hY : ∀ pre x W1, J pre W1 → (∃ post, pre ++ x :: post = ws) → YieldAt Fence.wide 0 Try.prog l (encP x) W1 fun e W' => (e = .returned (.bool true) ∧ J (pre ++ [x]) W' ∧ KpH lo hi W1 W') ∨ (e = .returned (.bool false) ∧ Jx (pre ++ [x]) W')) :
    ∀ (n d s : Nat) (x : ByteArray) (inp : Nat) (pre post : List (ByteArray × Nat)) (W : World), d + n = M → s < m.r → pre ++ pathL m P n d s x inp ++ post = ws → J pre W → PaB w0 W l gn gy be bp gf M P L b i m p c → x.size + n * B ≤ 1000000 →
      CallsIn Fence.wide 0 Try.prog 85 #[.int .i64 (s : Int), .int .i64 (d : Int), .string x, .int .i64 (inp : Int), .pointer (some ⟨gn, 0, none⟩), .pointer (some ⟨gy, 0, none⟩), .pointer (some ⟨be, 0, none⟩), .pointer (some ⟨bp, 0, none⟩), .pointer (some ⟨gf, 0, none⟩)] W (PaPost lo hi J Jx pre (pathL m P n d s x inp) W) := by
  have HY := Lib.hid hY
  have HJA := Lib.hid hJ
  have HM := Lib.hid hm
  have HAt := Lib.hid hAt
  have HKf := Lib.hid (fun (V V' : World) (h : PaB w0 V l gn gy be bp gf M P L b i m p c) (k : KpH lo hi V V') => h.kept k hlo hgn h1 h2 h3 h4)
  have HLo := Lib.hid (fun (V V' : World) (h : Low w0 V) (k : KpH lo hi V V') => h.kept hlo k)
  clear hY hJ hm hAt hlo h1 h2 h3 h4 hgn
  intro n
  induction n with
  | zero =>
    intro d s x inp pre post W hd hs hw h0 hF hx
    have HW := Lib.hid hw
    have H0 := Lib.hid h0
    obtain ⟨n0, y0, p0, _⟩ := hF
    have hdM : ((d : Int) == (M : Int)) = true := by rw [beq_iff_eq]; omega
    clear hw h0 hx hs hd
    refine callsIn_of_wp Try.func85 rfl trivial ?_ rfl
    simp only [Try.ntmps85, List.size_toArray, List.length_cons, List.length_nil, Nat.reduceAdd, Nat.reduceSub, Array.replicate_succ, Array.replicate_zero, List.push_toArray, List.append_toArray, List.nil_append, List.cons_append]
    refine wpIn_wide.2 ?_
    go_upto_region 2 with (fail)
    obtain ⟨fn, tmps, assign, body, hyl, hR⟩ := HY.out pre (x, inp) _ H0.out ⟨post, by rw [← HW.out]; simp [pathL]⟩
    have HR := Lib.hid hR
    clear hR
    dsimp only [encP] at hyl
    refine (wpIn_wide (n := 0)).1 ?_
    gi_wp2
    refine ⟨rfl, HR.out.mono ?_⟩
    rintro e W3 (⟨rfl, hJ3, hk3⟩ | ⟨rfl, hJx3⟩)
    · have HR3 : Hid (PaPost lo hi J Jx pre (pathL m P 0 d s x inp) W (.returned (.bool true)) W3) := Lib.hid (.inl ⟨rfl, hJ3, hk3⟩)
      clear hJ3 hk3 hyl HR
      gi_wp2
      go_wp2
      go_ret
      exact HR3.out
    · have HR3 : Hid (PaPost lo hi J Jx pre (pathL m P 0 d s x inp) W (.returned (.bool false)) W3) := Lib.hid (.inr ⟨rfl, _, hJx3⟩)
      clear hJx3 hyl HR
      gi_wp2
      go_wp2
      go_ret
      exact HR3.out
  | succ n ih =>
    intro d s x inp pre post W hd hs hw h0 hF hx
    obtain ⟨n0, y0, p0, f0, ⟨e0, e1, e2, e3⟩, hLw⟩ := hF
    obtain ⟨eb, eo, q, cq, rfl, _, hrow, _⟩ := (HAt.out.low hLw).row hs
    have HF : Hid (PaB w0 W l gn gy be bp gf M P L b i m (some ⟨eb, eo, none⟩) c) := Lib.hid ⟨n0, y0, p0, f0, ⟨e0, e1, e2, e3⟩, hLw⟩
    have HRw : Hid (∀ V, KpH lo hi W V → SlAt 2 V q (m.L s) (m.cell s)) := Lib.hid (fun V k => by
      obtain ⟨b9, o9, q2, _, e9, _, hrow9, hcells9⟩ := (HAt.out.low (HLo.out _ _ hLw k)).row hs
      obtain ⟨b8, o8, q8, _, e8, _, hrow8, hcells8⟩ := HAt.out.row hs
      cases e9
      cases e8
      have h7 := cell_kept hrow8 fun o ho hd => hLw.2 _ o ho hd
      have h6 := cell_kept hrow8 fun o ho hd => (HLo.out _ _ hLw k).2 _ o ho hd
      rw [h7] at hrow
      rw [h6] at hrow9
      cases hrow
      cases hrow9
      exact hcells9)
    have HW := Lib.hid hw
    have H0 : Hid (J (pre ++ pathK m P n d s x inp 0) W) := Lib.hid (by simpa [pathK] using h0)
    have HI := Lib.hid ih
    have hLs : m.L s ≤ 256 := by rw [HM.out.len s hs]; exact hI
    obtain ⟨N, hN⟩ : ∃ N, n + 1 = N := ⟨_, rfl⟩
    obtain ⟨d1, hd1⟩ : ∃ d1, d + 1 = d1 := ⟨_, rfl⟩
    have N0 : ((d : Int) == (M : Int)) = false := by rw [beq_eq_false_iff_ne]; omega
    have N1 : (d : Int) + 1 = (d1 : Int) := by omega
    have N2 : wrap64 (d1 : Int) = (d1 : Int) := IntWalk.wrap64_in _ (by omega)
    have N3 : IntKind.i64.wrap (d1 : Int) = (d1 : Int) := (IntWalk.i64_left _).trans N2
    have s0 : (0 : Int) ≤ (s : Int) := by omega
    have s1 : (s : Int) < (m.r : Int) := by omega
    have Hx : Hid (x.size + (n + 1) * B ≤ 1000000) := Lib.hid hx
    have HWL : Hid (pathL m P N d s x inp = pathK m P n d s x inp (m.L s)) := Lib.hid (by rw [← hN]; rfl)
    rw [hN]
    have HW2 : Hid (pre ++ pathK m P n d s x inp (m.L s) ++ post = ws) := Lib.hid (by rw [← HW.out]; rfl)
    have HsR := Lib.hid hs
    have Hn : Hid (d1 + n = M) := Lib.hid (by omega)
    have Hd1 := Lib.hid hd1
    have HLw := Lib.hid hLw
    clear hw h0 hLw ih hN hx HW hd hs hd1
    refine callsIn_of_wp Try.func85 rfl trivial ?_ rfl
    simp only [Try.ntmps85, List.size_toArray, List.length_cons, List.length_nil, Nat.reduceAdd, Nat.reduceSub, Array.replicate_succ, Array.replicate_zero, List.push_toArray, List.append_toArray, List.nil_append, List.cons_append]
    refine wpIn_wide.2 ?_
    go_wp2
    go_loopw [30] (fun kv wr => ∃ k : Nat, k ≤ m.L s ∧ kv = .int .i64 (k : Nat) ∧ Hid (J (pre ++ pathK m P n d s x inp k) wr) ∧ Hid (KpH lo hi W wr)) (fun kv _ => m.L s - (intOf kv).toNat)
    case atStart => exact ⟨0, by omega, by go_num, H0, Lib.hid (KpH.refl lo hi W)⟩
    case round =>
      clear n0 y0 p0 f0 e0 e1 e2 e3 hrow H0
      obtain ⟨k, hk, rfl, HJ1, HK⟩ := hrel
      by_cases hlt : k < m.L s
      · have k0 : (0 : Int) ≤ (k : Int) := by omega
        have k1 : (k : Int) < (m.L s : Int) := by omega
        obtain ⟨fb, fo, rfl, hfb, d0, dv1⟩ := EM.cells (HRw.out wr HK.out) hlt
        have hkI : k < I := by rw [← HM.out.len s HsR.out]; exact hlt
        have ht0 := HM.out.to0 s k HsR.out hkI
        have ht1 := HM.out.to1 s k HsR.out hkI
        have hd := HM.out.wd s k HsR.out hkI
        obtain ⟨t, ht⟩ : ∃ t : Nat, (m.T s k).toNat = t := ⟨_, rfl⟩
        have htI : m.T s k = (t : Int) := by omega
        obtain ⟨dd, hdd⟩ : ∃ d, m.D s k = d := ⟨_, rfl⟩
        have hsz : dd.size = B := by rw [← hdd]; exact hd
        have hov : ¬ 9223372036854775807 < x.size + dd.size := by
          have h := Hx.out
          rw [Nat.add_mul] at h
          omega
        have HNx0 : Hid (pathK m P n d s x inp (k + 1) = pathK m P n d s x inp k ++ pathL m P n d1 t (x ++ dd) (if d = P then k else inp)) := Lib.hid (by rw [pathK_succ, ht, hdd, Hd1.out])
        have HPost0 : Hid (∃ post2, (pre ++ pathK m P n d s x inp k) ++ pathL m P n d1 t (x ++ dd) (if d = P then k else inp) ++ post2 = ws) := Lib.hid (by
          refine ⟨(((List.range (m.L s)).drop (k + 1)).flatMap fun k => pathL m P n (d + 1) (m.T s k).toNat (x ++ m.D s k) (if d = P then k else inp)) ++ post, ?_⟩
          rw [← HW2.out, List.append_assoc pre, ← HNx0.out]
          rw [← List.append_assoc, List.append_assoc pre]
          congr 2
          unfold pathK
          rw [← List.flatMap_append]
          congr 1
          have h1 : List.range (k + 1) = (List.range (m.L s)).take (k + 1) := by
            rw [List.take_range]
            congr 1
            omega
          rw [h1, List.take_append_drop])
        have Hsz2 : Hid ((x ++ dd).size + n * B ≤ 1000000) := Lib.hid (by
          have h := Hx.out
          rw [Nat.add_mul] at h
          rw [ByteArray.size_append]
          omega)
        rw [htI] at d0
        rw [hdd] at dv1
        have Ht1 : Hid (t < m.r) := Lib.hid (by rw [← ht]; exact ht1)
        clear ht0 ht1 hd ht htI hdd hkI
        go_upto_region 7 with (fail)
        have hal := (Below.refl wr.heap.size wr).alloc (Nat.le_refl _) (.cells #[.int .i64 (t : Int), .string dd] 84)
        have HJ2 : Hid (J (pre ++ pathK m P n d s x inp k) (wr.alloc (.cells #[.int .i64 (t : Int), .string dd] 84))) := Lib.hid (HJA.out.alloc _ HJ1.out)
        have HK2 := Lib.hid (HK.out.trans (KpH.of_below hal))
        obtain ⟨gt, hgt⟩ : ∃ g, wr.heap.size = g := ⟨_, rfl⟩
        have t0 : (wr.alloc (.cells #[.int .i64 (t : Int), .string dd] 84)).cell? ⟨gt, 0, none⟩ = some (.int .i64 (t : Int)) := by rw [← hgt]; simp
        have t1 : (wr.alloc (.cells #[.int .i64 (t : Int), .string dd] 84)).cell? ⟨gt, 1, none⟩ = some (.string dd) := by rw [← hgt]; simp
        rw [hgt]
        clear hgt hal d0 dv1 hfb HJ1 HK
        generalize wr.alloc (.cells #[.int .i64 (t : Int), .string dd] 84) = V at *
        obtain ⟨n0, y0, p0, f0, _⟩ := HKf.out _ _ HF.out HK2.out
        by_cases hdP : d = P
        · rw [if_pos hdP] at HNx0 HPost0
          have HNx := HNx0
          have HPost := HPost0
          have q1 : ((d : Int) == (P : Int)) = true := by rw [beq_iff_eq]; omega
          clear hdP HNx0 HPost0
          go_upto_region 9 with (fail)
          have HIH := Lib.hid (fun p2 (h : (pre ++ pathK m P n d s x inp k) ++ pathL m P n d1 t (x ++ dd) k ++ p2 = ws) => HI.out d1 t (x ++ dd) k (pre ++ pathK m P n d s x inp k) p2 V (by have := Hn.out; omega) Ht1.out h HJ2.out (HKf.out _ _ HF.out HK2.out) Hsz2.out)
          obtain ⟨p2, hp2⟩ := HPost.out
          have HC := Lib.hid (HIH.out p2 hp2)
          clear hp2 HIH HPost p2
          refine (wpIn_wide (n := 0)).1 ?_
          gi_wp2
          refine ⟨rfl, HC.out.mono ?_⟩
          rintro e W3 (⟨rfl, hJ3, hk3⟩ | ⟨rfl, hJx3⟩)
          · have HJ3 : Hid (J (pre ++ pathK m P n d s x inp (k + 1)) W3) := Lib.hid (by rw [HNx.out, ← List.append_assoc]; exact hJ3)
            have HK3 := Lib.hid (HK2.out.trans hk3)
            clear hJ3 hk3 HC y0 n0 f0 p0 t0 t1
            gi_wp2
            go_wp2
            go_roundw
            case rel => exact ⟨k + 1, by omega, by go_num, HJ3, HK3⟩
            case measure => simp [intOf]; omega
          · have HR3 : Hid (PaPost lo hi J Jx pre (pathL m P N d s x inp) W (.returned (.bool false)) W3) := Lib.hid (.inr ⟨rfl, hJx3⟩)
            clear hJx3 HC y0 n0 f0 p0 t0 t1
            gi_wp2
            go_wp2
            go_ret
            exact HR3.out
        · rw [if_neg hdP] at HNx0 HPost0
          have HNx := HNx0
          have HPost := HPost0
          have q1 : ((d : Int) == (P : Int)) = false := by rw [beq_eq_false_iff_ne]; omega
          clear hdP HNx0 HPost0
          go_upto_region 9 with (fail)
          have HIH := Lib.hid (fun p2 (h : (pre ++ pathK m P n d s x inp k) ++ pathL m P n d1 t (x ++ dd) inp ++ p2 = ws) => HI.out d1 t (x ++ dd) inp (pre ++ pathK m P n d s x inp k) p2 V (by have := Hn.out; omega) Ht1.out h HJ2.out (HKf.out _ _ HF.out HK2.out) Hsz2.out)
          obtain ⟨p2, hp2⟩ := HPost.out
          have HC := Lib.hid (HIH.out p2 hp2)
          clear hp2 HIH HPost p2
          refine (wpIn_wide (n := 0)).1 ?_
          gi_wp2
          refine ⟨rfl, HC.out.mono ?_⟩
          rintro e W3 (⟨rfl, hJ3, hk3⟩ | ⟨rfl, hJx3⟩)
          · have HJ3 : Hid (J (pre ++ pathK m P n d s x inp (k + 1)) W3) := Lib.hid (by rw [HNx.out, ← List.append_assoc]; exact hJ3)
            have HK3 := Lib.hid (HK2.out.trans hk3)
            clear hJ3 hk3 HC y0 n0 f0 p0 t0 t1
            gi_wp2
            go_wp2
            go_roundw
            case rel => exact ⟨k + 1, by omega, by go_num, HJ3, HK3⟩
            case measure => simp [intOf]; omega
          · have HR3 : Hid (PaPost lo hi J Jx pre (pathL m P N d s x inp) W (.returned (.bool false)) W3) := Lib.hid (.inr ⟨rfl, hJx3⟩)
            clear hJx3 HC y0 n0 f0 p0 t0 t1
            gi_wp2
            go_wp2
            go_ret
            exact HR3.out
      · have k1 : ¬ (k : Int) < (m.L s : Int) := by omega
        have hke : k = m.L s := by omega
        have HR3 : Hid (PaPost lo hi J Jx pre (pathL m P N d s x inp) W (.returned (.bool true)) wr) := Lib.hid (.inl ⟨rfl, by rw [HWL.out, ← hke]; exact HJ1.out, HK.out⟩)
        clear hke
        go_wp2
        go_ret
        exact HR3.out
end Go.Proofs.Ytcafeffgaokiaaa
