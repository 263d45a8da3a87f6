/- window.paths: what it yields. -/
import Derived.Test.YtcafeffgaokiaaaK20
import Derived.Test.YtcafeffgaokiaaaK24
namespace Go.Proofs.Ytcafeffgaokiaaa
open Go.RowKit
attribute [local go_sem] Oper.semAt_some wideF
theorem wrapN (k : Nat) (h : k ≤ 1000) : wrap64 (k : Int) = (k : Int) := IntWalk.wrap64_in _ (by omega)
set_option maxRecDepth 100000 in
set_option maxHeartbeats 8000000 in
theorem paths_in (w0 : World) (lo hi : Nat) (l be bp bf : Nat) (hlo : w0.heap.size ≤ lo) (h3 : be < lo ∨ hi ≤ be) (h4 : bp < lo ∨ hi ≤ bp) (h5 : bf < lo ∨ hi ≤ bf) (L b i : Int) (m : EM) (p : Option Addr) (c : Nat) (I B P F : Nat) (hAt : m.At w0 p) (hm : m.Ok I B) (hI : I ≤ 256) (hr : m.r ≤ 64) (hn : P + 1 + F ≤ 16) (hB : B ≤ 16) (J Jx : List (ByteArray × Nat) → World → Prop) (hJ : AbT (fun _ _ => False) J)
    (hY : ∀ pre x W1, J pre W1 → (∃ post, pre ++ x :: post = pathE m P (P + 1 + F)) → YieldAt Fence.wide 0 Try.prog l (encP x) W1 fun e W' => (e = .returned (.bool true) ∧ J (pre ++ [x]) W' ∧ KpH lo hi W1 W') ∨ (e = .returned (.bool false) ∧ Jx (pre ++ [x]) W'))
    (W : World) (hhi : hi ≤ W.heap.size) (hL : Low w0 W) (hE : EBox W be L b i m p c) (hbp : W.cell? ⟨bp, 0, none⟩ = some (.int .i64 (P : Int))) (hbf : W.cell? ⟨bf, 0, none⟩ = some (.int .i64 (F : Int))) (h0 : J [] W) :
    CallsIn Fence.wide 0 Try.prog 84 #[.func (.yield l) #[] #[], .pointer (some ⟨bp, 0, none⟩), .pointer (some ⟨bf, 0, none⟩), .pointer (some ⟨be, 0, none⟩)] W fun e W' => (∃ v, e = .returned v) ∧ ((∃ xs, xs = pathE m P (P + 1 + F) ∧ J xs W') ∨ ∃ pre, Jx pre W') := by
  obtain ⟨n, hnn⟩ : ∃ n, P + 1 + F = n := ⟨_, rfl⟩
  rw [hnn] at hY hn ⊢
  have HFI := Lib.hid (fun gn gy gf hgn h1 h2 => follow_in w0 lo hi l gn gy be bp gf n P hlo hgn h1 h2 h3 h4 L b i m p c I B hAt hm hI hr (by omega) (by omega) (pathE m P n) J Jx hJ hY)
  have HJA := Lib.hid hJ
  have q1 : wrap64 ((P : Int) + 1) = ((P + 1 : Nat) : Int) := wrapN (P + 1) (by omega)
  have q2 : wrap64 (((P + 1 : Nat) : Int) + (F : Int)) = (n : Int) := by rw [← Int.natCast_add, hnn]; exact wrapN n (Nat.le_trans hn (by decide))
  have q3 : IntKind.i64.wrap ((P : Int) + 1) = ((P + 1 : Nat) : Int) := (IntWalk.i64_left _).trans q1
  have q4 : IntKind.i64.wrap (((P + 1 : Nat) : Int) + (F : Int)) = (n : Int) := (IntWalk.i64_left _).trans q2
  obtain ⟨P1, hP1⟩ : ∃ x, P + 1 = x := ⟨_, rfl⟩
  rw [hP1] at q1 q2 q3 q4
  have hal1 := (Below.refl W.heap.size W).alloc (Nat.le_refl _) (.cells #[.func (.yield l) #[] #[]] 144)
  have hsf := fun (a : Addr) (lb : Array Value) (w : World) => run_store Try.prog w a (.func (.func 85) #[] lb) .plain rfl
  clear hnn hP1
  refine callsIn_of_wp Try.func84 rfl trivial ?_ rfl
  simp only [Try.ntmps84, List.size_toArray, List.length_cons, List.length_nil, Nat.reduceAdd, Nat.reduceSub, Array.replicate_succ, Array.replicate_zero, List.push_toArray, List.append_toArray, List.nil_append, List.cons_append]
  refine wpIn_wide.2 ?_
  go_upto_region 1 with (fail)
  have HB1 := Lib.hid hal1
  have hkV1 : KpH lo hi W (W.alloc (.cells #[.func (.yield l) #[] #[]] 144)) := KpH.of_below hal1
  have hb1 := hkV1.cell hbp h4
  have hb2 := hkV1.cell hbf h5
  go_upto_region 4 with (fail)
  obtain ⟨gy, hgy⟩ : ∃ g, W.heap.size = g := ⟨_, rfl⟩
  obtain ⟨gn, hgn⟩ : ∃ g, gy + 1 = g := ⟨_, rfl⟩
  obtain ⟨gf, hgf⟩ : ∃ g, gn + 1 = g := ⟨_, rfl⟩
  rw [hgy, hgn, hgf]
  obtain ⟨fv, hfv⟩ : ∃ v : Value, v = .func (.func 85) #[] #[.pointer (some ⟨gn, 0, none⟩), .pointer (some ⟨gy, 0, none⟩), .pointer (some ⟨be, 0, none⟩), .pointer (some ⟨bp, 0, none⟩), .pointer (some ⟨gf, 0, none⟩)] := ⟨_, rfl⟩
  rw [← hfv]
  obtain ⟨U, hU⟩ : ∃ U, (W.alloc (.cells #[.func (.yield l) #[] #[]] 144)).alloc (.cells #[.int .i64 (n : Int)] 3) = U := ⟨_, rfl⟩
  obtain ⟨V, hV⟩ : ∃ V, U.alloc (.cells #[fv] 145) = V := ⟨_, rfl⟩
  have hsU : U.heap.size = gf := by rw [← hU]; simp; omega
  have hbU : Below U.heap.size U V := by rw [← hV]; exact (Below.refl _ U).alloc (Nat.le_refl _) _
  have hy0 : V.cell? ⟨gy, 0, none⟩ = some (.func (.yield l) #[] #[]) := by
    refine (hbU.cell (p := ⟨gy, 0, none⟩) (by rw [hsU]; show gy < gf; omega)).trans ?_
    rw [← hU, ← hgy]
    exact (((Below.refl _ (W.alloc (.cells #[.func (.yield l) #[] #[]] 144))).alloc (Nat.le_refl _) (.cells #[.int .i64 (n : Int)] 3)).cell (p := ⟨W.heap.size, 0, none⟩) (by simp)).trans (cell_new0 W _ _)
  have hn0 : V.cell? ⟨gn, 0, none⟩ = some (.int .i64 (n : Int)) := by
    refine (hbU.cell (p := ⟨gn, 0, none⟩) (by rw [hsU]; show gn < gf; omega)).trans ?_
    rw [← hU, ← hgn, ← hgy]
    simp
  have hf0 : V.cell? ⟨gf, 0, none⟩ = some fv := by
    rw [← hV, ← hsU]
    exact cell_new0 U _ _
  have hbV : Below W.heap.size W V := by rw [← hV, ← hU]; exact (hal1.alloc hal1.size _).alloc (by simp; omega) _
  have hJV : J [] V := by rw [← hV, ← hU]; exact hJ.alloc _ (hJ.alloc _ (hJ.alloc _ h0))
  have hkV : KpH lo hi W V := KpH.of_below hbV
  have hgy1 : hi ≤ gy := by omega
  have hgn1 : hi ≤ gn := by omega
  have hgf1 : hi ≤ gf := by omega
  have hFr : PaB w0 V l gn gy be bp gf n P L b i m p c := ⟨hn0, hy0, hkV.cell hbp h4, by rw [hf0, hfv], hE.kept hkV h3, hL.kept hlo hkV⟩
  obtain ⟨e0, e1, e2, e3⟩ := hE.kept hkV h3
  have HKf := Lib.hid (fun (V V' : World) (h : PaB w0 V l gn gy be bp gf n P L b i m p c) (k : KpH lo hi V V') => h.kept k hlo hgn1 hgy1 hgf1 h3 h4)
  have HFJ := Lib.hid (HFI.out gn gy gf hgn1 hgy1 hgf1)
  rw [hU, hV]
  have HFr := Lib.hid hFr
  have HJV : Hid (J (pathS m P n 0) V) := Lib.hid hJV
  have HWn : Hid (pathE m P n = pathS m P n m.r) := Lib.hid rfl
  have Hm := Lib.hid hm
  have HfV := Lib.hid hfv
  have HnB : Hid (n * B ≤ 1000000) := Lib.hid (Nat.le_trans (Nat.mul_le_mul hn hB) (by decide))
  clear hV hU hsU hbU hy0 hn0 hf0 hbV hJV hkV hFr hAt hal1 hE hbp hbf h0 hY hJ hm hgf hgy hgn hsf hfv hL hhi hlo h3 h4 h5 hgy1 hgn1 hgf1 HFI HB1 hkV1 hb1 hb2
  go_wp2
  go_loopw [16] (fun sv wr => ∃ s : Nat, s ≤ m.r ∧ sv = .int .i64 (s : Nat) ∧ Hid (J (pathS m P n s) wr) ∧ Hid (KpH lo hi V wr)) (fun sv _ => m.r - (intOf sv).toNat)
  case atStart => exact ⟨0, by omega, by go_num, HJV, Lib.hid (KpH.refl lo hi V)⟩
  case round =>
    clear HJV e0 e1 e2 e3
    obtain ⟨s, hs, rfl, HJ1, HK⟩ := hrel
    by_cases hlt : s < m.r
    · have s0 : (0 : Int) ≤ (s : Int) := by omega
      have s1 : (s : Int) < (m.r : Int) := by omega
      obtain ⟨n0, y0, p0, f0, _⟩ := HKf.out _ _ HFr.out HK.out
      have HNx : Hid (pathS m P n (s + 1) = pathS m P n s ++ pathL m P n 0 s ⟨#[]⟩ 0) := Lib.hid (pathS_succ m P n s)
      have HPost : Hid (∃ post2, pathS m P n s ++ pathL m P n 0 s ⟨#[]⟩ 0 ++ post2 = pathE m P n) := Lib.hid (by
        refine ⟨((List.range m.r).drop (s + 1)).flatMap fun s => pathL m P n 0 s ByteArray.empty 0, ?_⟩
        rw [← HNx.out]
        unfold pathE pathS
        rw [← List.flatMap_append]
        congr 1
        have h1 : List.range (s + 1) = (List.range m.r).take (s + 1) := by
          rw [List.take_range]
          congr 1
          omega
        rw [h1, List.take_append_drop])
      obtain ⟨p2, hp2⟩ := HPost.out
      have HC := Lib.hid (HFJ.out n 0 s ⟨#[]⟩ 0 (pathS m P n s) p2 wr (Nat.zero_add n) hlt hp2 HJ1.out (HKf.out _ _ HFr.out HK.out) (by have := HnB.out; show 0 + n * B ≤ 1000000; omega))
      clear hp2 HPost p2
      go_upto_region 7 with (fail)
      refine (wpIn_wide (n := 0)).1 ?_
      gi_wp2
      refine ⟨rfl, HC.out.mono ?_⟩
      rintro e W3 (⟨rfl, hJ3, hk3⟩ | ⟨rfl, hJx3⟩)
      · have HJ3 : Hid (J (pathS m P n (s + 1)) W3) := Lib.hid (by rw [HNx.out]; exact hJ3)
        have HK3 := Lib.hid (HK.out.trans hk3)
        clear hJ3 hk3 HC y0 f0 n0 p0
        gi_wp2
        go_wp2
        go_roundw
        case rel => exact ⟨s + 1, by omega, by go_num, HJ3, HK3⟩
        case measure => simp [intOf]; omega
      · have HJx := Lib.hid hJx3
        clear hJx3 HC y0 f0 n0 p0
        gi_wp2
        go_wp2
        refine bodyPost_ret (results_none rfl _ _ _) rfl ?_
        exact ⟨⟨_, rfl⟩, .inr HJx.out⟩
    · have s1 : ¬ (s : Int) < (m.r : Int) := by omega
      have hse : s = m.r := by omega
      rw [hse] at HJ1
      clear hse
      go_wp2
      go_end0
      exact ⟨⟨_, rfl⟩, .inl HJ1.out⟩
/-- .. as the contract of an iterator. -/
theorem paths_seq (w0 : World) (lo hi : Nat) (be bp bf : Nat) (hlo : w0.heap.size ≤ lo) (h3 : be < lo ∨ hi ≤ be) (h4 : bp < lo ∨ hi ≤ bp) (h5 : bf < lo ∨ hi ≤ bf) (L b i : Int) (m : EM) (p : Option Addr) (c : Nat) (I B P F : Nat) (hAt : m.At w0 p) (hm : m.Ok I B) (hI : I ≤ 256) (hr : m.r ≤ 64) (hn : P + 1 + F ≤ 16) (hB : B ≤ 16) :
    SeqT Try.prog 0 84 #[.pointer (some ⟨bp, 0, none⟩), .pointer (some ⟨bf, 0, none⟩), .pointer (some ⟨be, 0, none⟩)] encP (fun pre x _ => ∃ post, pre ++ x :: post = pathE m P (P + 1 + F)) (fun xs => xs = pathE m P (P + 1 + F)) (fun _ _ => False) (KpH lo hi) (fun W => hi ≤ W.heap.size ∧ Low w0 W ∧ EBox W be L b i m p c ∧ W.cell? ⟨bp, 0, none⟩ = some (.int .i64 (P : Int)) ∧ W.cell? ⟨bf, 0, none⟩ = some (.int .i64 (F : Int))) :=
  fun l J Jx W hP hJ _ hY h0 => paths_in w0 lo hi l be bp bf hlo h3 h4 h5 L b i m p c I B P F hAt hm hI hr hn hB J Jx hJ hY W hP.1 hP.2.1 hP.2.2.1 hP.2.2.2.1 hP.2.2.2.2 h0
set_option maxRecDepth 100000 in
theorem paths_any (L b i : Int) (p : Option Addr) (r c : Nat) (P F : Int) (w : World) :
    Calls Try.prog 58 #[.agg #[.int .i64 L, .int .i64 b, .int .i64 i, .slice p r c], .int .i64 P, .int .i64 F] w fun e w' =>
      e = .returned (.func (.func 84) #[] #[.pointer (some ⟨w.heap.size + 1, 0, none⟩), .pointer (some ⟨w.heap.size + 1 + 1, 0, none⟩), .pointer (some ⟨w.heap.size, 0, none⟩)]) ∧
      w' = ((w.alloc (.cells #[.int .i64 L, .int .i64 b, .int .i64 i, .slice p r c] 24)).alloc (.cells #[.int .i64 P] 3)).alloc (.cells #[.int .i64 F] 3) := by
  go_enter Try.func58, Try.ntmps58
  go_wp2
  go_ret
  exact ⟨by simp, rfl⟩
end Go.Proofs.Ytcafeffgaokiaaa
