/- window.Search. -/
import Derived.Test.YtcafeffgaokiaaaK32
namespace Go.Proofs.Ytcafeffgaokiaaa
open Go.RowKit Go.Maps Go.Lib Go.Sort
/-- No decoder of n + 1 blocks, f of them in the future. -/
def NoWin (I : Nat) (m : EM) (n f : Nat) : Prop := manyP m.r I (n + 1) = false ∧ ¬ Cons (pathE m (n - f) (n + 1))
/-- None before (k, j). -/
def NoneB (I : Nat) (m : EM) (k j : Nat) : Prop := (∀ n f, n < k → f ≤ n → NoWin I m n f) ∧ ∀ f, f < j → NoWin I m k f
theorem NoneB.step {I : Nat} {m : EM} {k j : Nat} (h : NoneB I m k j) (hn : NoWin I m k j) : NoneB I m k (j + 1) := ⟨h.1, fun f hf => by
  by_cases e : f = j
  · rw [e]; exact hn
  · exact h.2 f (by omega)⟩
theorem NoneB.next {I : Nat} {m : EM} {k : Nat} (h : NoneB I m k (k + 1)) : NoneB I m (k + 1) 0 := ⟨fun n f hn hf => by
  by_cases e : n = k
  · subst e; exact h.2 f (by omega)
  · exact h.1 n f (by omega) hf, fun f hf => by omega⟩
theorem NoneB.nil (I : Nat) (m : EM) : NoneB I m 0 0 := ⟨fun n f hn _ => by omega, fun f hf => by omega⟩
/-- What window.Search answers. -/
def SearchPost (lo : Nat) (l : Int) (B I : Nat) (m : EM) (M : Nat) (e : Ending) (w' : World) : Prop :=
  (NoneB I m (M + 1) 0 ∧ e = .returned (.tuple #[zDec, .int .i64 17])) ∨
  (∃ n f, n ≤ M ∧ f ≤ n ∧ NoneB I m n f ∧ manyP m.r I (n + 1) = true ∧ e = .returned (.tuple #[zDec, .int .i64 4])) ∨
  (∃ n f, n ≤ M ∧ f ≤ n ∧ NoneB I m n f ∧ manyP m.r I (n + 1) = false ∧ Cons (pathE m (n - f) (n + 1)) ∧ ∃ (es : List Ent) (a : Option Addr) (cap : Nat), e = .returned (.tuple #[decV l B I (n - f) f (.slice a es.length cap), .int .i64 0]) ∧ EntsAt w' a es ∧ Built (pathE m (n - f) (n + 1)) es ∧ ∀ q, a = some q → lo ≤ q.block)
theorem alloc2 (w : World) (A B : Obj) : ((w.alloc A).alloc B).heap[w.heap.size]? = some A ∧ ((w.alloc A).alloc B).heap[w.heap.size + 1]? = some B ∧ ((w.alloc A).alloc B).heap.size = w.heap.size + 1 + 1 := by
  have s1 : (w.alloc A).heap.size = w.heap.size + 1 := World.size_alloc _ _
  have h2 := World.alloc_heap_new (w.alloc A) B
  rw [s1] at h2
  exact ⟨(Below.heap_alloc _ _ _ (by rw [s1]; omega)).trans (World.alloc_heap_new w A), h2, by rw [World.size_alloc, s1]⟩
theorem subW (k j : Nat) (h : j ≤ k) (hk : k ≤ 1000) : wrap64 ((k : Int) - (j : Int)) = ((k - j : Nat) : Int) := by
  rw [show (k : Int) - (j : Int) = ((k - j : Nat) : Int) from by omega]
  exact wrapN _ (by omega)
/-- The decoder's result is stored. -/
theorem put_dec {W : World} {g : Nat} {l0 b0 i0 p0 f0 : Int} {v0 : Value} (h1 : W.heap[g]? = some (decO l0 b0 i0 p0 f0 v0)) (l b i p f : Int) (v : Value) (X : World)
    (hX : X = ((((((W.setCell ⟨g, 0, none⟩ (.int .i64 l)).setCell ⟨g, 1, none⟩ (.int .i64 b)).setCell ⟨g, 2, none⟩ (.int .i64 i)).setCell ⟨g, 3, none⟩ (.int .i64 p)).setCell ⟨g, 4, none⟩ (.int .i64 f)).setCell ⟨g, 5, none⟩ v)) :
    X.heap[g]? = some (decO l b i p f v) ∧ (∀ k, k ≠ g → X.heap[k]? = W.heap[k]?) ∧ ∀ (B : Nat) (w : World), B ≤ g → Below B w W → Below B w X := by
  unfold decO at h1
  have s6 := set_cells (set_cells (set_cells (set_cells (set_cells (set_cells h1 0 (.int .i64 l)) 1 (.int .i64 b)) 2 (.int .i64 i)) 3 (.int .i64 p)) 4 (.int .i64 f)) 5 v
  have hs : ∀ (Y : World) (q j k : Nat) (u : Value), k ≠ q → (Y.setCell ⟨q, j, none⟩ u).heap[k]? = Y.heap[k]? := fun Y q j k u hk => Below.heap_setCell Y ⟨q, j, none⟩ u k hk
  subst hX
  refine ⟨?_, fun k k1 => ?_, fun B w hB hb => ?_⟩
  · rw [s6]
    simp [decO]
  · rw [hs _ _ _ _ _ k1, hs _ _ _ _ _ k1, hs _ _ _ _ _ k1, hs _ _ _ _ _ k1, hs _ _ _ _ _ k1, hs _ _ _ _ _ k1]
  · exact (((((hb.setCell (p := ⟨g, 0, none⟩) hB _).setCell (p := ⟨g, 1, none⟩) hB _).setCell (p := ⟨g, 2, none⟩) hB _).setCell (p := ⟨g, 3, none⟩) hB _).setCell (p := ⟨g, 4, none⟩) hB _).setCell (p := ⟨g, 5, none⟩) hB _
theorem search_results {W : World} {g : Nat} {l b i p f e : Int} {v : Value} (h1 : W.heap[g]? = some (decO l b i p f v)) (tmps : Array Value) (hp : tmps.getD 4 undef = .pointer (some ⟨g, 0, none⟩)) (hq : tmps.getD 5 undef = .int .i64 e) :
    (results Try.f9 tmps).run Try.prog W = .ok (.tuple #[.agg #[.int .i64 l, .int .i64 b, .int .i64 i, .int .i64 p, .int .i64 f, v], .int .i64 e]) W := by
  rw [results_cell_tmp (p := 4) (u := 5) rfl, hp, hq]
  simp [asAddr, Result.andThen, load_dec h1]
theorem ents_kept {W X : World} {a : Option Addr} {es : List Ent} {lo g : Nat} (h : EntsAt W a es) (hlo : ∀ q, a = some q → lo ≤ q.block) (hg : g < lo) (hX : ∀ k, k ≠ g → k < W.heap.size → X.heap[k]? = W.heap[k]?) : EntsAt X a es := by
  rcases h with h | ⟨b, off, he, hlt, hc⟩
  · exact .inl h
  · have h1 := hlo _ he
    have h2 : X.heap[b]? = W.heap[b]? := hX b (by simp at h1; omega) hlt
    refine .inr ⟨b, off, he, ?_, fun i hi j hj => ?_⟩
    · rw [Array.getElem?_eq_getElem hlt] at h2
      exact (Array.getElem?_eq_some_iff.1 h2).1
    · rw [← hc i hi j hj]
      unfold World.cell?
      simp only [h2]
/-- What a round of window.Search finds. -/
theorem build_case {lo w0 g : Nat} {l : Int} {B I : Nat} {m : EM} {M k j : Nat} {e : Ending} {W : World} (hk : k ≤ M) (hj : j ≤ k) (hN : NoneB I m k j) (hlo : w0 ≤ lo) (hg : g < lo) (h : BuildPost lo l B I m (k - j) j (k + 1) e W) :
    ∃ (l' b' i' p' f' : Int) (va : Option Addr) (vn vc : Nat) (e0 : Int), e = .returned (.tuple #[.agg #[.int .i64 l', .int .i64 b', .int .i64 i', .int .i64 p', .int .i64 f', .slice va vn vc], .int .i64 e0]) ∧
      ((e0 = 17 ∧ NoneB I m k (j + 1)) ∨ (e0 ≠ 17 ∧ ∀ X : World, (∀ k, k ≠ g → k < W.heap.size → X.heap[k]? = W.heap[k]?) → SearchPost w0 l B I m M (.returned (.tuple #[.agg #[.int .i64 l', .int .i64 b', .int .i64 i', .int .i64 p', .int .i64 f', .slice va vn vc], .int .i64 e0])) X)) := by
  rcases h with ⟨hmany, rfl⟩ | ⟨hmf, hnc, rfl⟩ | ⟨hmf, hc, es, a, cap, rfl, hE, hBt, hq⟩
  · exact ⟨0, 0, 0, 0, 0, _, _, _, 4, rfl, .inr ⟨by decide, fun X _ => .inr (.inl ⟨k, j, hk, hj, hN, hmany, rfl⟩)⟩⟩
  · exact ⟨0, 0, 0, 0, 0, _, _, _, 17, rfl, .inl ⟨rfl, hN.step ⟨hmf, hnc⟩⟩⟩
  · exact ⟨_, _, _, _, _, _, _, _, 0, rfl, .inr ⟨by decide, fun X hX => .inr (.inr ⟨k, j, hk, hj, hN, hmf, hc, es, a, cap, rfl, ents_kept hE hq hg hX, hBt, fun q hqe => Nat.le_trans hlo (hq q hqe)⟩)⟩⟩
set_option maxRecDepth 100000 in
set_option maxHeartbeats 8000000 in
theorem wsearch_any (l b i : Int) (m : EM) (p : Option Addr) (c M : Nat) (w : World) (hA : m.At w p) (hf : m.Fit) (he : encCheck l b i m = 0) (hM : M ≤ 10) :
    Calls Try.prog 9 #[.agg #[.int .i64 l, .int .i64 b, .int .i64 i, .slice p m.r c], .int .i64 (M : Int)] w fun e w' => SearchPost w.heap.size l b.toNat i.toNat m M e w' ∧ Below w.heap.size w w' := by
  obtain ⟨V, hV⟩ : ∃ V, ((w.alloc (encO l b i p m.r c)).alloc (decO 0 0 0 0 0 (.slice none 0 0))) = V := ⟨_, rfl⟩
  have hbV : Below w.heap.size w V := by rw [← hV]; exact ((Below.refl w.heap.size w).alloc (Nat.le_refl _) _).alloc (by simp) _
  obtain ⟨g, hg⟩ : ∃ g, w.heap.size = g := ⟨_, rfl⟩
  obtain ⟨o0, o1, hsV⟩ := alloc2 w (encO l b i p m.r c) (decO 0 0 0 0 0 (.slice none 0 0))
  rw [hV, hg] at o0 o1 hsV
  have HO := Lib.hid (fun (W : World) (h : Below V.heap.size V W) => show W.heap[g]? = some (encO l b i p m.r c) ∧ W.heap[g + 1]? = some (decO 0 0 0 0 0 (.slice none 0 0)) from
    ⟨(h.block _ (by omega)).trans o0, (h.block _ (by omega)).trans o1⟩)
  obtain ⟨x0, x1, x2, x3⟩ := cells_encO o0
  clear o0 o1
  unfold encO decO at hV
  have HC := Lib.hid (fun (W : World) (h : Below w.heap.size w W) => encCheck_any l b i m p c W (hA.below (Nat.le_refl _) h) hf)
  rw [he] at HC
  have HBu := Lib.hid (fun (W : World) (P F N : Nat) (h : Below w.heap.size w W) (hN : P + 1 + F = N) (hN2 : N ≤ 16) => build_any l b i m p c P F N W (hA.below (Nat.le_refl _) h) hf he hN hN2)
  obtain ⟨MM, hMM⟩ : ∃ x, M + 1 = x := ⟨_, rfl⟩
  have M1 : wrap64 ((M : Int) + 1) = (MM : Int) := by rw [← hMM]; exact wrapN (M + 1) (by omega)
  have M2 : IntKind.i64.wrap ((M : Int) + 1) = (MM : Int) := (IntWalk.i64_left _).trans M1
  have q1 : decide ((M : Int) < 0) = false := decide_eq_false (by omega)
  have q2 : decide ((16 : Int) ≤ (M : Int)) = false := decide_eq_false (by omega)
  have q3 : ¬ (M : Int) < 0 := by omega
  have q4 : ¬ (16 : Int) ≤ (M : Int) := by omega
  have HbV := Lib.hid hbV
  clear hbV he hA hf
  go_enter Try.func9, Try.ntmps9
  go_upto_region 1 with (fail)
  clear hV
  go_wp2_with fail
  refine (HC.out _ HbV.out).mono ?_; rintro e W1 ⟨rfl, hb⟩
  have HB1 := Lib.hid hb
  have HW1 := Lib.hid (HbV.out.trans (hb.mono HbV.out.size))
  clear hb x0 x1 x2 x3 HC
  have HMM := Lib.hid hMM
  have hMM10 : MM ≤ 11 := by omega
  clear hMM
  go_wp2
  go_loopw [25] (fun kv wr => ∃ k : Nat, k ≤ MM ∧ kv = .int .i64 (k : Nat) ∧ Hid (Below V.heap.size V wr) ∧ Hid (Below w.heap.size w wr) ∧ Hid (NoneB i.toNat m k 0)) (fun kv _ => MM - (intOf kv).toNat)
  case atStart => exact ⟨0, by omega, by go_num, HB1, HW1, Lib.hid (NoneB.nil _ _)⟩
  case round =>
    clear HB1 HW1 M1 M2
    obtain ⟨k, hk, rfl, HBk, HWk, HNk⟩ := hrel
    obtain ⟨o0, o1⟩ := HO.out _ HBk.out
    obtain ⟨x0, x1, x2, x3⟩ := cells_encO o0
    by_cases hlt : k < MM
    · have k1 : (k : Int) < (MM : Int) := by omega
      obtain ⟨kk, hkk⟩ : ∃ x, k + 1 = x := ⟨_, rfl⟩
      have hk10 : k + 1 ≤ 1000 := by omega
      have K1 : wrap64 ((k : Int) + 1) = (kk : Int) := by rw [← hkk]; exact wrapN (k + 1) hk10
      have K2 : IntKind.i64.wrap ((k : Int) + 1) = (kk : Int) := (IntWalk.i64_left _).trans K1
      have HKK := Lib.hid hkk
      clear hkk hk10 o0 o1 x0 x1 x2 x3
      go_wp2
      go_loopw [30] (fun jv wr2 => ∃ j : Nat, j ≤ kk ∧ jv = .int .i64 (j : Nat) ∧ Hid (Below V.heap.size V wr2) ∧ Hid (Below w.heap.size w wr2) ∧ Hid (NoneB i.toNat m k j)) (fun jv _ => kk - (intOf jv).toNat)
      case atStart => exact ⟨0, by omega, by go_num, HBk, HWk, HNk⟩
      case round =>
        clear HBk HWk HNk
        obtain ⟨j, hj, rfl, HBj, HWj, HNj⟩ := hrel
        obtain ⟨o0, o1⟩ := HO.out _ HBj.out
        obtain ⟨x0, x1, x2, x3⟩ := cells_encO o0
        by_cases hltj : j < kk
        · have j1 : (j : Int) < (kk : Int) := by omega
          have hkk := HKK.out
          obtain ⟨q, hq⟩ : ∃ x, k - j = x := ⟨_, rfl⟩
          have hjk : j ≤ k := by omega
          have hk10 : k ≤ 1000 := by omega
          have S1 : wrap64 ((k : Int) - (j : Int)) = (q : Int) := by rw [← hq]; exact subW k j hjk hk10
          have S2 : IntKind.i64.wrap ((k : Int) - (j : Int)) = (q : Int) := (IntWalk.i64_left _).trans S1
          have HBd := Lib.hid (HBu.out wr q j kk HWj.out (by omega) (by omega))
          clear hkk hk10 o0 o1
          go_wp2_with fail
          refine (HBd.out).mono ?_
          rintro e W3 ⟨hpost, hb⟩
          have HB3 := Lib.hid (HBj.out.trans (hb.mono HBj.out.size))
          have HW3 := Lib.hid (HWj.out.trans (hb.mono HWj.out.size))
          have hsr : g + 1 < wr.heap.size := by have := HBj.out.size; omega
          have hwr : w.heap.size ≤ wr.heap.size := HWj.out.size
          rw [← hq, ← HKK.out] at hpost
          obtain ⟨l', b', i', p', f', va, vn, vc, e0, rfl, hcase⟩ := build_case (M := M) (by have := HMM.out; have := HKK.out; omega) (by omega) HNj.out hwr hsr hpost
          dsimp only
          have o1 := (HO.out _ HB3.out).2
          have hlt3 : g + 1 < W3.heap.size := (Array.getElem?_eq_some_iff.1 o1).1
          have hw3 : w.heap.size ≤ W3.heap.size := HW3.out.size
          have HCs := Lib.hid hcase
          clear hpost S1 S2 K1 K2 x0 x1 x2 x3 hb hcase hq
          go_upto_region 12 with (fail)
          obtain ⟨u, hu⟩ : ∃ x, W3.heap.size = x := ⟨_, rfl⟩
          obtain ⟨X4, hX4⟩ : ∃ X, W3.alloc (.cells #[.int .i64 l', .int .i64 b', .int .i64 i', .int .i64 p', .int .i64 f', .slice va vn vc] 30) = X := ⟨_, rfl⟩
          have hb4 : Below W3.heap.size W3 X4 := by rw [← hX4]; exact (Below.refl _ _).alloc (Nat.le_refl _) _
          have h4u : X4.heap[u]? = some (decO l' b' i' p' f' (.slice va vn vc)) := by rw [← hX4, ← hu]; exact World.alloc_heap_new W3 _
          have h4g := (hb4.block _ hlt3).trans o1
          have HB4 := Lib.hid (HB3.out.trans (hb4.mono HB3.out.size))
          have HW4 := Lib.hid (HW3.out.trans (hb4.mono HW3.out.size))
          have HK4 := Lib.hid (fun k (hk : k < W3.heap.size) => hb4.block k hk)
          rw [hX4, hu]
          clear hX4 hb4 HBd HB3 HW3 o1
          rcases HCs.out with ⟨rfl, hNn⟩ | ⟨hne, hSP⟩
          · have HNn := Lib.hid hNn
            have HK9 := HKK.out
            clear hNn HCs h4u h4g
            go_wp2
            go_roundw
            case rel => exact ⟨j + 1, by omega, by go_num, HB4, HW4, HNn⟩
            case measure => simp [intOf]; omega
          · have hneb : (e0 != 17) = true := by simpa using hne
            have HSP := Lib.hid hSP
            obtain ⟨⟨z0, z1, z2, z3, z4, z5⟩, f0, f1, f2, f3, f4, f5⟩ := cells_decO h4g
            obtain ⟨⟨y0, y1, y2, y3, y4, y5⟩, _, _, _, _, _, _⟩ := cells_decO h4u
            have HPd := Lib.hid (put_dec h4g l' b' i' p' f' (.slice va vn vc) _ rfl)
            clear hSP HCs h4u h4g hne
            go_wp2
            refine bodyPost_ret (search_results HPd.out.1 _ rfl rfl) rfl ?_
            exact ⟨HSP.out _ (fun k hk hk2 => (HPd.out.2.1 k hk).trans (HK4.out k hk2)), HPd.out.2.2 w.heap.size w (by omega) HW4.out⟩
        · have j1 : ¬ (j : Int) < (kk : Int) := by omega
          have hje : j = k + 1 := by have := HKK.out; omega
          have HNn : Hid (NoneB i.toNat m kk 0) := Lib.hid (by have := HNj.out; rw [hje] at this; rw [← HKK.out]; exact this.next)
          have HK9 := HKK.out
          clear hje o0 o1 x0 x1 x2 x3
          go_wp2
          go_roundw
          case rel => exact ⟨kk, by omega, rfl, HBj, HWj, HNn⟩
          case measure => simp [intOf]; omega
    · have k1 : ¬ (k : Int) < (MM : Int) := by omega
      have hke : k = M + 1 := by have := HMM.out; omega
      have HNn : Hid (NoneB i.toNat m (M + 1) 0) := Lib.hid (by have := HNk.out; rwa [hke] at this)
      obtain ⟨⟨z0, z1, z2, z3, z4, z5⟩, f0, f1, f2, f3, f4, f5⟩ := cells_decO o1
      have HPd := Lib.hid (put_dec o1 0 0 0 0 0 (.slice none 0 0) _ rfl)
      clear hke o0 o1 x0 x1 x2 x3
      go_wp2
      refine bodyPost_ret (search_results HPd.out.1 _ rfl rfl) rfl ?_
      have hbe := HPd.out.2.2 w.heap.size w (by omega) HWk.out
      rw [hg] at hbe
      exact ⟨.inl ⟨HNn.out, rfl⟩, hbe⟩
end Go.Proofs.Ytcafeffgaokiaaa
