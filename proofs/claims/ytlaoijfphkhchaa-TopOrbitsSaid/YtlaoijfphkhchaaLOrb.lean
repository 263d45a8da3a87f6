/- groovetop.TopOrbits: the plain law at a graph. TopOrbits: the walk. -/
import Derived.Test.YtlaoijfphkhchaaOrs
import Derived.Test.YtlaoijfphkhchaaTaw
import Derived.Test.YtlaoijfphkhchaaCmp
import Derived.Laws.StructEq
namespace Go.Proofs.Ytlaoijfphkhchaa
open Go.RowKit Go.Shelf
theorem adj_dot {N n : Nat} {E : Nat → Nat → Int} (h : EdOk N n E) (s t : Nat) : adjE E n s t = dotN (fun e => if frE E e = s ∧ toE E e = t then 1 else 0) n := by
  unfold adjE
  suffices hh : ∀ j, j ≤ n → ((cntE E j s t : Nat) : Int) = dotN (fun e => if frE E e = s ∧ toE E e = t then 1 else 0) j from hh n (Nat.le_refl _)
  intro j
  induction j with
  | zero => intro _; rfl
  | succ j ih =>
    intro hj
    rw [cntE, dotN, ← ih (by omega)]
    obtain ⟨a, b, ha, hb, _, _⟩ := h j (by omega)
    have e1 : frE E j = a := by unfold frE; omega
    have e2 : toE E j = b := by unfold toE; omega
    rw [e1, e2, ha, hb]
    by_cases hc : a = s ∧ b = t
    · rw [if_pos ⟨by omega, by omega⟩, if_pos hc]; rfl
    · rw [if_neg (by omega), if_neg hc]; rfl
theorem ed_fr {N n : Nat} {E : Nat → Nat → Int} (h : EdOk N n E) : ∀ e, e < n → frE E e < N := fun e he => by
  obtain ⟨a, b, ha, hb, h1, h2⟩ := h e he
  unfold frE; omega
theorem ed_to {N n : Nat} {E : Nat → Nat → Int} (h : EdOk N n E) : ∀ e, e < n → toE E e < N := fun e he => by
  obtain ⟨a, b, ha, hb, h1, h2⟩ := h e he
  unfold toE; omega
/-- What counting.Orbits answers. -/
def orbV (N m : Nat) (E : Nat → Nat → Int) (d : Nat) : Int := accL (fun i => trF N (powF N (adjE E m) i)) (divL d d) / (d : Int)
theorem orb_prim {N m : Nat} {E : Nat → Nat → Int} (h : EdOk N m E) (d : Nat) (h0 : 0 < d) (h12 : d ≤ 12) : 0 ≤ orbV N m E d ∧ primN (frE E) (toE E) m d = (d : Int) * orbV N m E d := by
  obtain ⟨q, hq, hp⟩ := prim_dvd (frE E) (toE E) m d h0
  have ht : ∀ i, 0 < i → trF N (powF N (adjE E m) i) = closedN (frE E) (toE E) m i := fun i hi => tr_words (adj_dot h) (ed_to h) (ed_fr h) i hi
  have he : accL (fun i => trF N (powF N (adjE E m) i)) (divL d d) = primN (frE E) (toE E) m d := by
    rw [accL_div]
    exact moebius12 (fun i => trF N (powF N (adjE E m) i)) (primN (frE E) (toE E) m) (fun i hi _ => (ht i hi).trans (closed_classes _ _ m i hi)) d h0 h12
  have ho : orbV N m E d = q := by
    unfold orbV
    rw [he, hp, Int.mul_ediv_cancel_left _ (by omega)]
  rw [ho]
  exact ⟨hq, hp⟩
theorem orb_sum {N m : Nat} {E : Nat → Nat → Int} (h : EdOk N m E) (k : Nat) (h0 : 0 < k) (h12 : k ≤ 12) :
    dotN (fun i => if k % (i + 1) = 0 then orbV N m E (i + 1) * ((i + 1 : Nat) : Int) else 0) k = trF N (powF N (adjE E m) k) := by
  rw [tr_words (adj_dot h) (ed_to h) (ed_fr h) k h0, closed_classes _ _ m k h0]
  refine dotN_congr fun i hi => ?_
  split
  · rw [(orb_prim h (i + 1) (by omega) (by omega)).2, Int.mul_comm]
  · rfl
theorem orb_all {N m : Nat} {E : Nat → Nat → Int} (h : EdOk N m E) (hN : N ≤ 12) :
    dotN (fun i => orbV N m E (i + 1)) N = 0 ↔ dotN (fun s => cntI (toE E) (frE E) m (fun _ => 1) N s) N = 0 := by
  rw [← orbit_exists (ed_to h) (ed_fr h)]
  have hnn : ∀ i, i < N → 0 ≤ orbV N m E (i + 1) := fun i hi => (orb_prim h (i + 1) (by omega) (by omega)).1
  constructor
  · intro hz d hd hdN
    have hge := dotN_ge hnn (j := d - 1) (by omega)
    have h1 := hnn (d - 1) (by omega)
    have e : d - 1 + 1 = d := by omega
    rw [e] at h1
    simp only [e] at hge
    have : orbV N m E d = 0 := by omega
    rw [(orb_prim h d hd (by omega)).2, this, Int.mul_zero]
  · intro hz
    refine Classical.byContradiction fun hne => ?_
    obtain ⟨i, hi, hv⟩ := dotN_ne hne
    have hp := (orb_prim h (i + 1) (by omega) (by omega)).2
    rw [hz (i + 1) (by omega) (by omega)] at hp
    rcases Int.mul_eq_zero.1 hp.symm with h1 | h1
    · omega
    · exact hv h1
theorem Bn.of_le {a b : Int} {e : Nat} (h : a.natAbs ≤ b.natAbs) (hb : Bn b e) : Bn a e := Nat.le_trans h hb
theorem orb_bn {N m : Nat} {E : Nat → Nat → Int} (hN : N ≤ 32) (hm : m ≤ 1000000) (d : Nat) (h0 : 0 < d) (h12 : d ≤ 12) : Bn (orbV N m E d) 404 := by
  have hbt : ∀ i, i ≤ d → Bn (trF N (powF N (adjE E m) i)) 400 := fun i hi => by
    have h := Bn.dot (e := i * 25) (m := 5) N (pow5 hN) fun l hl => powF_bn (adjE_bn E m N hm) (pow5 hN) i l l hl hl
    exact h.up (by omega)
  have ha := acc_bn (n := d) hbt h12 d (Nat.le_refl _)
  exact Bn.of_le (Int.natAbs_ediv_le_natAbs _ _) ha
/-- The sum over the divisors so far. -/
def sumO (N m : Nat) (E : Nat → Nat → Int) (k j : Nat) : Int := dotN (fun i => if k % (i + 1) = 0 then orbV N m E (i + 1) * ((i + 1 : Nat) : Int) else 0) j
/-- The sum over all lengths so far. -/
def allO (N m : Nat) (E : Nat → Nat → Int) (j : Nat) : Int := dotN (fun i => orbV N m E (i + 1)) j
theorem mulO_bn {N m : Nat} {E : Nat → Nat → Int} (hN : N ≤ 32) (hm : m ≤ 1000000) (d : Nat) (h0 : 0 < d) (h12 : d ≤ 12) : Bn (orbV N m E d * (d : Int)) 408 := by
  have hd : Bn (d : Int) 4 := by unfold Bn; omega
  exact ((orb_bn hN hm d h0 h12).mul hd).up (by omega)
theorem sumO_bn {N m : Nat} {E : Nat → Nat → Int} (hN : N ≤ 32) (hm : m ≤ 1000000) (k j : Nat) (hj : j ≤ 12) : Bn (sumO N m E k j) 412 := by
  refine Bn.dot (e := 408) (m := 4) j (by omega) fun i hi => ?_
  split
  · exact mulO_bn hN hm (i + 1) (by omega) (by omega)
  · exact Bn.zero _
theorem allO_bn {N m : Nat} {E : Nat → Nat → Int} (hN : N ≤ 32) (hm : m ≤ 1000000) (j : Nat) (hj : j ≤ 12) : Bn (allO N m E j) 408 :=
  Bn.dot (e := 404) (m := 4) j (by omega) fun i hi => orb_bn hN hm (i + 1) (by omega) (by omega)
end Go.Proofs.Ytlaoijfphkhchaa

namespace Go.Proofs.Ytlaoijfphkhchaa
open Go.RowKit Go.Shelf
theorem canon_ne {z : Int} (h : ¬ z = 0) : (canon z).mag.toList.isEmpty = false := by
  rw [Bool.eq_false_iff]
  intro hh
  have h1 : (canon z).mag.size = 0 := by
    rw [ByteArray.toList_eq, List.isEmpty_iff, ← List.length_eq_zero_iff] at hh
    simpa using hh
  have h2 := absZ_canon z
  unfold absZ at h2
  have h3 : (canon z).mag.data.toList = [] := List.eq_nil_of_length_eq_zero (by rw [Array.length_toList]; exact h1)
  rw [h3] at h2
  have h4 : bval [] = 0 := rfl
  omega
set_option maxRecDepth 100000 in
set_option maxHeartbeats 16000000 in
theorem lawOrbits (LL S : Int) (n : Nat) (E : Nat → Nat → Int) (p : Option Addr) (c x : Nat) (w : World) (hE : EdgAt w p n E) (hx : x ≤ 255) :
    Calls Try.prog 3 #[.agg #[.int .i64 LL, .int .i64 S, .slice p n c], .int .u8 (x : Int)] w (RetB true w) := by
  obtain ⟨W0, hW0⟩ : ∃ W, w.alloc (.cells #[.int .i64 LL, .int .i64 S, .slice p n c] 24) = W := ⟨_, rfl⟩
  have hb0 : Below w.heap.size w W0 := by rw [← hW0]; exact (Below.refl _ _).alloc (Nat.le_refl _) _
  have hbx : BoxAt3 W0 w.heap.size (.int .i64 LL) (.int .i64 S) (.slice p n c) := by rw [← hW0]; exact BoxAt3.new w _ _ _ _
  have hE0 : EdgAt W0 p n E := hE.mono (Nat.le_refl _) hb0
  have HF := Lib.hid (topFine_any LL S n E p c W0 hE0)
  by_cases hf : fineG LL S n E = true
  rotate_left 1
  · rw [Bool.not_eq_true] at hf
    rw [hf] at HF
    have Hb := Lib.hid hb0
    obtain ⟨_, c0, c1, c2⟩ := hbx
    clear hf hE hE0 hb0
    go_enter Try.func3, Try.ntmps3
    go_wp2_with fail
    refine HF.out.mono ?_
    rintro e W1 ⟨rfl, hbc⟩
    dsimp only
    have Hb1 := Lib.hid (Hb.out.trans (hbc.mono Hb.out.size))
    clear hbc HF Hb c0 c1 c2 hW0
    go_wp2_with fail
    refine (topAwake_any _).mono ?_
    rintro e W2 ⟨rfl, hbc⟩
    dsimp only
    have Hb2 := Lib.hid (Hb1.out.trans (hbc.mono Hb1.out.size))
    clear hbc Hb1
    go_wp2
    go_ret
    exact ⟨rfl, Hb2.out⟩
  rw [hf] at HF
  unfold fineG at hf
  simp only [Bool.and_eq_true, Bool.not_eq_true', decide_eq_true_eq] at hf
  obtain ⟨⟨hgt, hg⟩, hS0⟩ := hf
  obtain ⟨g1, g2, g3, g4, g5, _⟩ := gChk_zero hg
  unfold gGreatB at hgt
  rw [decide_eq_false_iff_not] at hgt
  obtain ⟨N, rfl⟩ : ∃ N : Nat, S = N := ⟨S.toNat, by omega⟩
  have h1 : 0 < N := by omega
  have h6 : N ≤ 6 := by omega
  have hn : n ≤ 30 := by omega
  have hok : EdOk N n E := by have := gChk_ok hg; simpa using this
  clear hgt g1 g2 g3 g4 g5 hS0 hE
  obtain ⟨k0, hk0⟩ : ∃ k, x % 12 = k := ⟨_, rfl⟩
  obtain ⟨k, hk⟩ : ∃ k, k0 + 1 = k := ⟨_, rfl⟩
  have hk1 : 0 < k := by omega
  have hk9 : k ≤ 12 := by omega
  have hkx : ((x : Int) % 12) = (k0 : Int) := by omega
  obtain ⟨T, hT⟩ : ∃ T, trF N (powF N (adjE E n) k) = T := ⟨_, rfl⟩
  obtain ⟨U, hU⟩ : ∃ U, dotN (cntI (toE E) (frE E) n (fun _ => 1) N) N = U := ⟨_, rfl⟩
  obtain ⟨o, ho⟩ : ∃ o, orbV N n E = o := ⟨_, rfl⟩
  obtain ⟨s, hs⟩ : ∃ s, sumO N n E k = s := ⟨_, rfl⟩
  obtain ⟨al, hal⟩ : ∃ al, allO N n E = al := ⟨_, rfl⟩
  have Hs1 : Hid (∀ d, s (d + 1) = s d + if k % (d + 1) = 0 then o (d + 1) * ((d + 1 : Nat) : Int) else 0) := Lib.hid (fun d => by rw [← hs, ← ho]; rfl)
  have Ha1 : Hid (∀ d, al (d + 1) = al d + o (d + 1)) := Lib.hid (fun d => by rw [← hal, ← ho]; rfl)
  have HsT : Hid (s k = T) := Lib.hid (by rw [← hs, ← hT]; exact orb_sum hok k hk1 hk9)
  have HaU : Hid (al N = 0 ↔ U = 0) := Lib.hid (by rw [← hal, ← hU]; exact orb_all hok (by omega))
  have Hs0 : Hid (s 0 = 0) := Lib.hid (by rw [← hs]; rfl)
  have Ha0 : Hid (al 0 = 0) := Lib.hid (by rw [← hal]; rfl)
  have Hnn : Hid (∀ d, 0 < d → d ≤ 12 → 0 ≤ o d) := Lib.hid (fun d h h2 => by rw [← ho]; exact (orb_prim hok d h h2).1)
  have Hbo : Hid (∀ d, 0 < d → d ≤ 12 → Bn (o d) 404 ∧ Bn (o d * (d : Int)) 408) := Lib.hid (fun d h h2 => by rw [← ho]; exact ⟨orb_bn (by omega) (by omega) d h h2, mulO_bn (by omega) (by omega) d h h2⟩)
  have Hbs : Hid (∀ d, d ≤ 12 → Bn (s d) 412 ∧ Bn (al d) 408) := Lib.hid (fun d h => by rw [← hs, ← hal]; exact ⟨sumO_bn (by omega) (by omega) k d h, allO_bn (by omega) (by omega) d h⟩)
  have HCl := Lib.hid (show ∀ W, Below W0.heap.size W0 W → Calls Try.prog 12 #[.agg #[.int .i64 LL, .int .i64 (N : Int), .slice p n c], .int .i64 (k : Int)] W (RetNumE 0 T W) from fun W hW => by
    rw [← hT]; exact Closed_any LL N n k E p c h1 (by omega) (by omega) (by omega) hg W (hE0.mono (Nat.le_refl _) hW))
  have HOr := Lib.hid (show ∀ (W : World) (d : Nat), Below W0.heap.size W0 W → 0 < d → d ≤ 12 → Calls Try.prog 13 #[.agg #[.int .i64 LL, .int .i64 (N : Int), .slice p n c], .int .i64 (d : Int)] W (RetNumE 0 (o d) W) from fun W d hW h h2 => by
    rw [← ho]; exact Orbits_any LL N n d E p c h1 (by omega) (by omega) h h2 hg W (hE0.mono (Nat.le_refl _) hW))
  have HOr2 := Lib.hid HOr.out
  have HTo := Lib.hid (show ∀ W, Below W0.heap.size W0 W → Calls Try.prog 18 #[.agg #[.int .i64 LL, .int .i64 (N : Int), .slice p n c], .int .i64 (N : Int)] W (RetNumE 0 U W) from fun W hW => by
    rw [← hU]
    exact Total_any LL N n N E p c (by omega) (by omega) (by omega) hg (from_ok hok (by omega) (by omega) (by omega))
      (fun j hj => (Bn.dot (e := 200) (m := 5) j (by omega) fun i hi => (from_bn hok (by omega) (by omega) N i (by omega)).up (by omega)).size _ (by omega))
      (fun j hj => (from_bn hok (by omega) (by omega) N j hj).size _ (by omega)) W (hE0.mono (Nat.le_refl _) hW))
  have HB : Hid (∀ W, Below W0.heap.size W0 W → BoxAt3 W w.heap.size (.int .i64 LL) (.int .i64 (N : Int)) (.slice p n c) ∧ Below w.heap.size w W) := Lib.hid (fun W hW => ⟨hbx.below hW, hb0.trans (hW.mono hb0.size)⟩)
  obtain ⟨_, c0, c1, c2⟩ := hbx
  have Hbb : Hid (Below W0.heap.size W0 W0) := Lib.hid (Below.refl _ _)
  have wx : IntKind.i64.wrap (x : Int) = (x : Int) := IntWalk.i64_in _ (by omega)
  have wk : IntKind.i64.wrap (k0 : Int) = (k0 : Int) := IntWalk.i64_in _ (by omega)
  have wk1 : IntKind.i64.wrap ((k0 : Int) + 1) = (k : Int) := (IntWalk.i64_in _ (by omega)).trans (by omega)
  clear hok hg hT hU ho hs hal hb0 hE0
  obtain ⟨g0, hg0⟩ : ∃ g, w.heap.size = g := ⟨_, rfl⟩
  rw [hg0] at HB c0 c1 c2
  have Hg0 := Lib.hid hg0
  go_enter Try.func3, Try.ntmps3
  go_wp2_with fail
  try rw [hg0]
  try rw [hW0]
  refine HF.out.mono ?_
  rintro e y1 ⟨rfl, hbc⟩
  dsimp only
  have Hb1 := Lib.hid (Hbb.out.trans (hbc.mono Hbb.out.size))
  obtain ⟨⟨_, z0, z1, z2⟩, _⟩ := HB.out _ Hb1.out
  clear hbc HF Hbb c0 c1 c2 hW0 hg0
  go_wp2_with fail
  clear z0 z1 z2
  refine (HCl.out _ Hb1.out).mono ?_
  rintro e y4 ⟨hbc, hr⟩
  rcases hr with ⟨_, rfl⟩ | ⟨h0, _⟩
  rotate_left 1
  · exact absurd rfl h0
  dsimp only
  obtain ⟨X, hX⟩ : ∃ X, canon T = X := ⟨_, rfl⟩
  have HX := Lib.hid hX
  rw [hX]
  have hbc := hbc.alloc hbc.size (.cells #[.bool X.neg, .string X.mag] 28)
  have HBC := Lib.hid (BoxAt.new y4 (.bool X.neg) (.string X.mag) 28)
  have Hb4 := Lib.hid (Hb1.out.trans (hbc.mono Hb1.out.size))
  clear hbc HCl Hb1 hX
  go_upto_region 5 with (fail)
  obtain ⟨gC, hgC⟩ : ∃ g, y4.heap.size = g := ⟨_, rfl⟩
  rw [hgC] at HBC ⊢
  clear hgC
  generalize y4.alloc (.cells #[.bool X.neg, .string X.mag] 28) = Y at *
  have HBY : Hid (∀ W, Below Y.heap.size Y W → BoxAt3 W g0 (.int .i64 LL) (.int .i64 (N : Int)) (.slice p n c) ∧ Below w.heap.size w W ∧ Below W0.heap.size W0 W ∧ BoxAt W gC (.bool X.neg) (.string X.mag)) := Lib.hid (fun W hW => by
    have hbw := Hb4.out.trans (hW.mono Hb4.out.size)
    exact ⟨(HB.out W hbw).1, by have := (HB.out W hbw).2; rwa [← Hg0.out] at this, hbw, HBC.out.below hW HBC.out.2.2.2.2⟩)
  clear HB HBC Hb4
  have z8 := BoxAt.new Y (.bool false) (.string ⟨#[]⟩) 28
  have z9 := BoxAt.new (Y.alloc (.cells #[.bool false, .string ⟨#[]⟩] 28)) (.bool false) (.string ⟨#[]⟩) 28
  have z8b := z8.below ((Below.refl _ _).alloc (Nat.le_refl _) (.cells #[.bool false, .string ⟨#[]⟩] 28)) z8.2.2.2.2
  have hyy : Below Y.heap.size Y ((Y.alloc (.cells #[.bool false, .string ⟨#[]⟩] 28)).alloc (.cells #[.bool false, .string ⟨#[]⟩] 28)) := ((Below.refl _ _).alloc (Nat.le_refl _) _).alloc (by simp) _
  have Hy := Lib.hid hyy
  have H8 := Lib.hid z8b
  have H9 := Lib.hid z9
  clear z8 z9 z8b hyy
  go_wp2_with fail
  simp only [World.size_alloc] at H9 ⊢
  obtain ⟨g8, hg8⟩ : ∃ g, Y.heap.size = g := ⟨_, rfl⟩
  rw [hg8] at Hy H8 H9 HBY ⊢
  clear hg8
  generalize (Y.alloc (.cells #[.bool false, .string ⟨#[]⟩] 28)).alloc (.cells #[.bool false, .string ⟨#[]⟩] 28) = V at *
  go_loopw [10] (fun dv wr => ∃ d q : Nat, Hid (q = d + 1) ∧ d ≤ k ∧ dv = .int .i64 (q : Nat) ∧ Hid (BoxAt wr g8 (.bool (canon (s d)).neg) (.string (canon (s d)).mag)) ∧ Hid (BoxAt wr (g8 + 1) (.bool false) (.string ⟨#[]⟩)) ∧ Hid (Below g8 Y wr)) (fun dv _ => k + 1 - (intOf dv).toNat)
  case atStart => exact ⟨0, 1, Lib.hid rfl, by omega, by go_num, by rw [Hs0.out]; exact H8, H9, Hy⟩
  case round =>
    clear H8 H9 Hy
    obtain ⟨d, q, Hq, hdk, rfl, H8, H9, Hy⟩ := hrel
    by_cases hdl : d < k
    · have q1 : (q : Int) ≤ (k : Int) := by have := Hq.out; omega
      have qp : (1 : Int) ≤ (q : Int) := by have := Hq.out; omega
      have qz : ¬ (q : Int) = 0 := by omega
      have wq : IntKind.i64.wrap ((q : Int) + 1) = ((q + 1 : Nat) : Int) := (IntWalk.i64_in _ (by omega)).trans (by omega)
      have HSq : Hid (s (d + 1) = s d + if k % q = 0 then o q * (q : Int) else 0) := Lib.hid (by rw [Hs1.out d, ← Hq.out])
      by_cases hr : k % q = 0
      · have r0 : ((k : Int) % (q : Int) != 0) = false := by rw [bne_eq_false_iff_eq]; omega
        obtain ⟨⟨_, z0, z1, z2⟩, _, hbw, _⟩ := HBY.out wr Hy.out
        have HOq := Lib.hid (HOr.out wr q hbw (by omega) (by omega))
        clear hbw
        go_wp2_with fail
        refine HOq.out.mono ?_
        rintro e y6 ⟨hbc, hr⟩
        rcases hr with ⟨_, rfl⟩ | ⟨h0, _⟩
        rotate_left 1
        · exact absurd rfl h0
        dsimp only
        have hno : 0 ≤ o q := Hnn.out q (by omega) (by omega)
        have hbo := Hbo.out q (by omega) (by omega)
        have hbs := (Hbs.out d (by omega)).1
        have hcm := cmp_any (canon (o q)) ⟨false, ⟨#[]⟩⟩ (hbo.1.size _ (by omega)) (Nat.zero_le _)
        obtain ⟨cv, hcv⟩ : ∃ cv, cmpI (valZ (canon (o q))) (valZ ⟨false, ⟨#[]⟩⟩) = cv := ⟨_, rfl⟩
        have hcn : ¬ cv < 0 := by
          rw [← hcv, valZ_canon, show valZ ⟨false, ⟨#[]⟩⟩ = 0 from rfl]
          unfold cmpI
          split
          · omega
          · split <;> omega
        rw [hcv] at hcm
        have hbc2 := hbc.alloc hbc.size (.cells #[.bool (canon (o q)).neg, .string (canon (o q)).mag] 28)
        have f11 := BoxAt.new y6 (.bool (canon (o q)).neg) (.string (canon (o q)).mag) 28
        obtain ⟨O, hO⟩ : ∃ O, canon (o q) = O := ⟨_, rfl⟩
        rw [hO] at hcm f11 hbc2
        rw [hO]
        have H11 := Lib.hid f11
        have H8a := Lib.hid (H8.out.below hbc2 H8.out.2.2.2.2)
        have H9a := Lib.hid (H9.out.below hbc2 H9.out.2.2.2.2)
        have Hya := Lib.hid (Hy.out.trans (hbc2.mono (Nat.le_of_lt H8.out.2.2.2.2)))
        have Hcm := Lib.hid hcm
        have HO := Lib.hid hO
        have Hno := Lib.hid hno
        have Hbo1 := Lib.hid hbo
        have Hbs1 := Lib.hid hbs
        clear f11 hcm hcv hO hno hbo hbs hbc2 H8 Hy z0 z1 z2 HOq
        go_upto_region 11 with (fail)
        obtain ⟨g11, hg11⟩ : ∃ g, y6.heap.size = g := ⟨_, rfl⟩
        rw [hg11] at H11 ⊢
        have H811 := Lib.hid (show g8 + 1 < g11 from by rw [← hg11]; exact Nat.lt_of_lt_of_le H9.out.2.2.2.2 hbc.size)
        clear hg11 hbc H9
        generalize y6.alloc (.cells #[.bool O.neg, .string O.mag] 28) = Z at *
        obtain ⟨b0, b1, _, _, _⟩ := H11.out
        go_wp2_with fail
        refine (Hcm.out _).mono ?_
        rintro e y7 ⟨rfl, hbc⟩
        dsimp only
        have H8b := Lib.hid (H8a.out.below hbc H8a.out.2.2.2.2)
        have H9b := Lib.hid (H9a.out.below hbc H9a.out.2.2.2.2)
        have H11b := Lib.hid (H11.out.below hbc H11.out.2.2.2.2)
        have Hyb := Lib.hid (Hya.out.trans (hbc.mono (Nat.le_of_lt H8a.out.2.2.2.2)))
        clear hbc Hcm b0 b1 H8a H9a H11 Hya
        go_upto_region 13 with (fail)
        have HXX : Hid (∀ W, Below y7.heap.size y7 W → BoxAt W g8 (.bool (canon (s d)).neg) (.string (canon (s d)).mag) ∧ BoxAt W (g8 + 1) (.bool false) (.string ⟨#[]⟩) ∧ BoxAt W g11 (.bool O.neg) (.string O.mag) ∧ Below g8 Y W) := Lib.hid (fun W hW => ⟨H8b.out.below hW H8b.out.2.2.2.2, H9b.out.below hW H9b.out.2.2.2.2, H11b.out.below hW H11b.out.2.2.2.2, Hyb.out.trans (hW.mono (Nat.le_of_lt H8b.out.2.2.2.2))⟩)
        have HSn : Hid (s (d + 1) = s d + o q * (q : Int)) := Lib.hid (by rw [HSq.out, if_pos (by omega)])
        have HOf := Lib.hid (fun W => of_any (q : Int) (by omega) (by omega) W)
        have HMl := Lib.hid (show ∀ W, Calls Try.prog 16 #[.agg #[.bool O.neg, .string O.mag], .agg #[.bool (canon (q : Int)).neg, .string (canon (q : Int)).mag]] W (RetZ (canon (o q * (q : Int))) W) from fun W => by
          rw [← HO.out]; exact mulc_any (o q) (q : Int) (Hbo1.out.1.size _ (by omega)) ((show Bn (q : Int) 4 by unfold Bn; omega).size _ (by omega)) W)
        have HAd := Lib.hid (show ∀ W, Calls Try.prog 15 #[.agg #[.bool (canon (s d)).neg, .string (canon (s d)).mag], .agg #[.bool (canon (o q * (q : Int))).neg, .string (canon (o q * (q : Int))).mag]] W (RetZ (canon (s (d + 1))) W) from fun W => by
          rw [HSn.out]; exact addc_any (s d) (o q * (q : Int)) (Hbs1.out.size _ (by omega)) (Hbo1.out.2.size _ (by omega)) W)
        obtain ⟨Sd, hSd⟩ : ∃ Z, canon (s d) = Z := ⟨_, rfl⟩
        obtain ⟨Sn, hSn⟩ : ∃ Z, canon (s (d + 1)) = Z := ⟨_, rfl⟩
        obtain ⟨Oq, hOq⟩ : ∃ Z, canon (o q * (q : Int)) = Z := ⟨_, rfl⟩
        obtain ⟨Cq, hCq⟩ : ∃ Z, canon (q : Int) = Z := ⟨_, rfl⟩
        rw [hSd] at HAd HXX
        rw [hSn, hOq] at HAd
        rw [hOq, hCq] at HMl
        rw [hCq] at HOf
        have HSN := Lib.hid hSn
        have HE : Hid (∀ W, Below y7.heap.size y7 W → BoxAt ((W.setCell ⟨g8, 0, none⟩ (.bool Sn.neg)).setCell ⟨g8, 1, none⟩ (.string Sn.mag)) g8 (.bool (canon (s (d + 1))).neg) (.string (canon (s (d + 1))).mag) ∧ BoxAt ((W.setCell ⟨g8, 0, none⟩ (.bool Sn.neg)).setCell ⟨g8, 1, none⟩ (.string Sn.mag)) (g8 + 1) (.bool false) (.string ⟨#[]⟩) ∧ BoxAt ((W.setCell ⟨g8, 0, none⟩ (.bool Sn.neg)).setCell ⟨g8, 1, none⟩ (.string Sn.mag)) g11 (.bool O.neg) (.string O.mag) ∧ Below g8 Y ((W.setCell ⟨g8, 0, none⟩ (.bool Sn.neg)).setCell ⟨g8, 1, none⟩ (.string Sn.mag))) := Lib.hid (fun W hW => by
          obtain ⟨a1, a2, a3, a4⟩ := HXX.out W hW
          have := H811.out
          rw [HSN.out]
          exact ⟨boxp_set a1 _ _, boxp_far (boxp_far a2 (p := ⟨g8, 0, none⟩) (by simp) _) (p := ⟨g8, 1, none⟩) (by simp) _, boxp_far (boxp_far a3 (p := ⟨g8, 0, none⟩) (by dsimp only; omega) _) (p := ⟨g8, 1, none⟩) (by dsimp only; omega) _, (a4.setCell (Nat.le_refl _) _).setCell (Nat.le_refl _) _⟩)
        obtain ⟨SS, hSe⟩ : ∃ SS : World → Prop, SS = fun W => W.cell? ⟨g11, 0, none⟩ = some (.bool O.neg) ∧ W.cell? ⟨g11, 1, none⟩ = some (.string O.mag) := ⟨_, rfl⟩
        have HS : Hid (∀ W, Below y7.heap.size y7 W → SS W) := Lib.hid (fun W hW => by
          obtain ⟨_, _, ⟨b0, b1, _⟩, _⟩ := HXX.out W hW
          rw [hSe]; exact ⟨b0, b1⟩)
        have HS2 : Hid (∀ W, Below y7.heap.size y7 W → SS ((W.setCell ⟨g8, 0, none⟩ (.bool Sn.neg)).setCell ⟨g8, 1, none⟩ (.string Sn.mag))) := Lib.hid (fun W hW => by
          obtain ⟨_, _, ⟨b0, b1, _⟩, _⟩ := HE.out W hW
          rw [hSe]; exact ⟨b0, b1⟩)
        have hd : Below y7.heap.size y7 y7.drew := (Below.refl _ _).drew
        clear H8b H9b H11b Hyb HSn HSq Hno Hbo1 Hbs1 hSd hSn hOq hCq
        refine wp_region_held_drew (S := SS) (by kernel_rfl) (HS.out _ hd) (fun hSS => ?_)
        refine wpAnyH_take (i := 1) (v := ?_) rfl (by kernel_rfl) (by kernel_rfl) (by kernel_rfl) (fun _ _ _ h => h) (Or.inl ⟨by rfl, ?_⟩) (HS.out _ hd) ?_
        rotate_left 1
        next => intro w hSw; rw [hSe] at hSw; obtain ⟨s1, s2⟩ := hSw; go_simp; try with_reducible rfl
        try simp only [Act.put, List.getElem_toArray, List.getElem_cons_zero, List.getElem_cons_succ, List.setIfInBounds_toArray, List.set_cons_zero, List.set_cons_succ]
        refine wpAnyH_take (i := 2) (v := ?_) rfl (by kernel_rfl) (by kernel_rfl) (by kernel_rfl) (fun _ _ _ h => h) (Or.inl ⟨by rfl, ?_⟩) (HS.out _ hd) ?_
        rotate_left 1
        next => intro w hSw; rw [hSe] at hSw; obtain ⟨s1, s2⟩ := hSw; go_simp; try with_reducible rfl
        try simp only [Act.put, List.getElem_toArray, List.getElem_cons_zero, List.getElem_cons_succ, List.setIfInBounds_toArray, List.set_cons_zero, List.set_cons_succ]
        try simp only [Act.put, List.getElem_toArray, List.getElem_cons_zero, List.getElem_cons_succ, List.setIfInBounds_toArray, List.set_cons_zero, List.set_cons_succ]
        refine wpAnyH_ready (rs := [0, 3]) (by kernel_rfl) (by simp) ?_
        refine AllReadyH.cons rfl (fun K hK => ?_) (AllReadyH.cons rfl (fun K hK => ?_) AllReadyH.nil)
        · obtain ⟨z0, z1, z2, z3, z4⟩ := (HXX.out _ hd).1
          go_simp
          refine hK.out _ _ (HS.out _ hd) (fun _ => ?_)
          clear hK K z0 z1 z2 z3 z4
          try simp only [Act.put, List.getElem_toArray, List.getElem_cons_zero, List.getElem_cons_succ, List.setIfInBounds_toArray, List.set_cons_zero, List.set_cons_succ]
          refine wpAnyH_ready (rs := [3]) (by kernel_rfl) (by simp) ?_
          refine AllReadyH.cons rfl (fun K hK => ?_) AllReadyH.nil
          go_simp
          refine (HOf.out _).mono ?_
          rintro e w3 ⟨rfl, hbc⟩
          have hb3 : Below y7.heap.size y7 w3 := hd.trans (hbc.mono hd.size)
          dsimp only
          refine hK.out _ _ (HS.out _ hb3) (fun _ => ?_)
          clear hK K hbc
          try simp only [Act.put, List.getElem_toArray, List.getElem_cons_zero, List.getElem_cons_succ, List.setIfInBounds_toArray, List.set_cons_zero, List.set_cons_succ]
          refine wpAnyH_ready (rs := [4]) (by kernel_rfl) (by simp) ?_
          refine AllReadyH.cons rfl (fun K hK => ?_) AllReadyH.nil
          go_simp
          refine (HMl.out _).mono ?_
          rintro e w4 ⟨rfl, hbc⟩
          have hb4 : Below y7.heap.size y7 w4 := hb3.trans (hbc.mono hb3.size)
          dsimp only
          refine hK.out _ _ (HS.out _ hb4) (fun _ => ?_)
          clear hK K hbc
          try simp only [Act.put, List.getElem_toArray, List.getElem_cons_zero, List.getElem_cons_succ, List.setIfInBounds_toArray, List.set_cons_zero, List.set_cons_succ]
          refine wpAnyH_ready (rs := [5]) (by kernel_rfl) (by simp) ?_
          refine AllReadyH.cons rfl (fun K hK => ?_) AllReadyH.nil
          go_simp
          refine (HAd.out _).mono ?_
          rintro e w5 ⟨rfl, hbc⟩
          have hb5 : Below y7.heap.size y7 w5 := hb4.trans (hbc.mono hb4.size)
          dsimp only
          refine hK.out _ _ (HS.out _ hb5) (fun _ => ?_)
          clear hK K hbc
          try simp only [Act.put, List.getElem_toArray, List.getElem_cons_zero, List.getElem_cons_succ, List.setIfInBounds_toArray, List.set_cons_zero, List.set_cons_succ]
          refine wpAnyH_ready (rs := [6]) (by kernel_rfl) (by simp) ?_
          refine AllReadyH.cons rfl (fun K hK => ?_) AllReadyH.nil
          obtain ⟨⟨z0, z1, z2, z3, z4⟩, _, _, _⟩ := HXX.out _ hb5
          go_simp
          refine hK.out _ _ (HS2.out _ hb5) (fun _ => ?_)
          clear hK K z0 z1 z2 z3 z4
          refine wpAnyH_done (by kernel_rfl) ?_ _
          obtain ⟨f1, f2, _, f4⟩ := HE.out _ hb5
          have F1 := Lib.hid f1
          have F2 := Lib.hid f2
          have F4 := Lib.hid f4
          clear f1 f2 f4
          go_wp2_with fail
          go_roundw
          case rel => exact ⟨d + 1, q + 1, Lib.hid (by rw [Hq.out]), by omega, by go_num, F1, F2, F4⟩
          case measure => simp [intOf]; omega
        · go_simp
          refine (HOf.out _).mono ?_
          rintro e w6 ⟨rfl, hbc⟩
          have hb6 : Below y7.heap.size y7 w6 := hd.trans (hbc.mono hd.size)
          dsimp only
          refine hK.out _ _ (HS.out _ hb6) (fun _ => ?_)
          clear hK K hbc
          try simp only [Act.put, List.getElem_toArray, List.getElem_cons_zero, List.getElem_cons_succ, List.setIfInBounds_toArray, List.set_cons_zero, List.set_cons_succ]
          refine wpAnyH_ready (rs := [0, 4]) (by kernel_rfl) (by simp) ?_
          refine AllReadyH.cons rfl (fun K hK => ?_) (AllReadyH.cons rfl (fun K hK => ?_) AllReadyH.nil)
          · obtain ⟨z0, z1, z2, z3, z4⟩ := (HXX.out _ hb6).1
            go_simp
            refine hK.out _ _ (HS.out _ hb6) (fun _ => ?_)
            clear hK K z0 z1 z2 z3 z4
            try simp only [Act.put, List.getElem_toArray, List.getElem_cons_zero, List.getElem_cons_succ, List.setIfInBounds_toArray, List.set_cons_zero, List.set_cons_succ]
            refine wpAnyH_ready (rs := [4]) (by kernel_rfl) (by simp) ?_
            refine AllReadyH.cons rfl (fun K hK => ?_) AllReadyH.nil
            go_simp
            refine (HMl.out _).mono ?_
            rintro e w7 ⟨rfl, hbc⟩
            have hb7 : Below y7.heap.size y7 w7 := hb6.trans (hbc.mono hb6.size)
            dsimp only
            refine hK.out _ _ (HS.out _ hb7) (fun _ => ?_)
            clear hK K hbc
            try simp only [Act.put, List.getElem_toArray, List.getElem_cons_zero, List.getElem_cons_succ, List.setIfInBounds_toArray, List.set_cons_zero, List.set_cons_succ]
            refine wpAnyH_ready (rs := [5]) (by kernel_rfl) (by simp) ?_
            refine AllReadyH.cons rfl (fun K hK => ?_) AllReadyH.nil
            go_simp
            refine (HAd.out _).mono ?_
            rintro e w8 ⟨rfl, hbc⟩
            have hb8 : Below y7.heap.size y7 w8 := hb7.trans (hbc.mono hb7.size)
            dsimp only
            refine hK.out _ _ (HS.out _ hb8) (fun _ => ?_)
            clear hK K hbc
            try simp only [Act.put, List.getElem_toArray, List.getElem_cons_zero, List.getElem_cons_succ, List.setIfInBounds_toArray, List.set_cons_zero, List.set_cons_succ]
            refine wpAnyH_ready (rs := [6]) (by kernel_rfl) (by simp) ?_
            refine AllReadyH.cons rfl (fun K hK => ?_) AllReadyH.nil
            obtain ⟨⟨z0, z1, z2, z3, z4⟩, _, _, _⟩ := HXX.out _ hb8
            go_simp
            refine hK.out _ _ (HS2.out _ hb8) (fun _ => ?_)
            clear hK K z0 z1 z2 z3 z4
            refine wpAnyH_done (by kernel_rfl) ?_ _
            obtain ⟨f1, f2, _, f4⟩ := HE.out _ hb8
            have F1 := Lib.hid f1
            have F2 := Lib.hid f2
            have F4 := Lib.hid f4
            clear f1 f2 f4
            go_wp2_with fail
            go_roundw
            case rel => exact ⟨d + 1, q + 1, Lib.hid (by rw [Hq.out]), by omega, by go_num, F1, F2, F4⟩
            case measure => simp [intOf]; omega
          · go_simp
            refine (HMl.out _).mono ?_
            rintro e w9 ⟨rfl, hbc⟩
            have hb9 : Below y7.heap.size y7 w9 := hb6.trans (hbc.mono hb6.size)
            dsimp only
            refine hK.out _ _ (HS.out _ hb9) (fun _ => ?_)
            clear hK K hbc
            try simp only [Act.put, List.getElem_toArray, List.getElem_cons_zero, List.getElem_cons_succ, List.setIfInBounds_toArray, List.set_cons_zero, List.set_cons_succ]
            refine wpAnyH_ready (rs := [0]) (by kernel_rfl) (by simp) ?_
            refine AllReadyH.cons rfl (fun K hK => ?_) AllReadyH.nil
            obtain ⟨z0, z1, z2, z3, z4⟩ := (HXX.out _ hb9).1
            go_simp
            refine hK.out _ _ (HS.out _ hb9) (fun _ => ?_)
            clear hK K z0 z1 z2 z3 z4
            try simp only [Act.put, List.getElem_toArray, List.getElem_cons_zero, List.getElem_cons_succ, List.setIfInBounds_toArray, List.set_cons_zero, List.set_cons_succ]
            refine wpAnyH_ready (rs := [5]) (by kernel_rfl) (by simp) ?_
            refine AllReadyH.cons rfl (fun K hK => ?_) AllReadyH.nil
            go_simp
            refine (HAd.out _).mono ?_
            rintro e w10 ⟨rfl, hbc⟩
            have hb10 : Below y7.heap.size y7 w10 := hb9.trans (hbc.mono hb9.size)
            dsimp only
            refine hK.out _ _ (HS.out _ hb10) (fun _ => ?_)
            clear hK K hbc
            try simp only [Act.put, List.getElem_toArray, List.getElem_cons_zero, List.getElem_cons_succ, List.setIfInBounds_toArray, List.set_cons_zero, List.set_cons_succ]
            refine wpAnyH_ready (rs := [6]) (by kernel_rfl) (by simp) ?_
            refine AllReadyH.cons rfl (fun K hK => ?_) AllReadyH.nil
            obtain ⟨⟨z0, z1, z2, z3, z4⟩, _, _, _⟩ := HXX.out _ hb10
            go_simp
            refine hK.out _ _ (HS2.out _ hb10) (fun _ => ?_)
            clear hK K z0 z1 z2 z3 z4
            refine wpAnyH_done (by kernel_rfl) ?_ _
            obtain ⟨f1, f2, _, f4⟩ := HE.out _ hb10
            have F1 := Lib.hid f1
            have F2 := Lib.hid f2
            have F4 := Lib.hid f4
            clear f1 f2 f4
            go_wp2_with fail
            go_roundw
            case rel => exact ⟨d + 1, q + 1, Lib.hid (by rw [Hq.out]), by omega, by go_num, F1, F2, F4⟩
            case measure => simp [intOf]; omega
      · have r0 : ((k : Int) % (q : Int) != 0) = true := by rw [bne_iff_ne]; omega
        go_wp2_with fail
        go_roundw
        case rel => exact ⟨d + 1, q + 1, Lib.hid (by rw [Hq.out]), by omega, by go_num, by rw [HSq.out, if_neg hr, Int.add_zero]; exact H8, H9, Hy⟩
        case measure => simp [intOf]; omega
    · have q1 : ¬ (q : Int) ≤ (k : Int) := by have := Hq.out; omega
      have hdk2 : d = k := by omega
      have HsT2 : Hid (s d = T) := Lib.hid (by rw [hdk2]; exact HsT.out)
      rw [HsT2.out, HX.out] at H8
      clear hdk2 HsT2 HOr
      obtain ⟨Y2, hY2⟩ : ∃ Z, wr = Z := ⟨_, rfl⟩
      rw [hY2] at H8 H9 Hy ⊢
      clear hY2
      have H9n : Hid (BoxAt Y2 (g8 + 1) (.bool (canon (al 0)).neg) (.string (canon (al 0)).mag)) := Lib.hid (by rw [Ha0.out]; exact H9.out)
      have HBZ : Hid (∀ W, Below (g8 + 1) Y2 W → BoxAt3 W g0 (.int .i64 LL) (.int .i64 (N : Int)) (.slice p n c) ∧ Below w.heap.size w W ∧ Below W0.heap.size W0 W ∧ BoxAt W gC (.bool X.neg) (.string X.mag) ∧ BoxAt W g8 (.bool X.neg) (.string X.mag)) := Lib.hid (fun W hW => by
        obtain ⟨a1, a2, a3, a4⟩ := HBY.out W (Hy.out.trans (hW.mono (by omega)))
        exact ⟨a1, a2, a3, a4, H8.out.below hW (by omega)⟩)
      have H2 : Hid (Below (g8 + 1) Y2 Y2) := Lib.hid (Below.refl _ _)
      clear H8 H9 Hy HBY Hq
      go_wp2_with fail
      go_loopw [13] (fun dv wr => ∃ d q : Nat, Hid (q = d + 1) ∧ d ≤ N ∧ dv = .int .i64 (q : Nat) ∧ Hid (BoxAt wr (g8 + 1) (.bool (canon (al d)).neg) (.string (canon (al d)).mag)) ∧ Hid (Below (g8 + 1) Y2 wr)) (fun dv _ => N + 1 - (intOf dv).toNat)
      case atStart => exact ⟨0, 1, Lib.hid rfl, by omega, by go_num, H9n, H2⟩
      case round =>
        clear H9n H2
        obtain ⟨d, q, Hq, hdk, rfl, H9, Hy⟩ := hrel
        obtain ⟨⟨_, z0, z1, z2⟩, _, hbw, _⟩ := HBZ.out wr Hy.out
        by_cases hdl : d < N
        · have q1 : (q : Int) ≤ (N : Int) := by have := Hq.out; omega
          have qp : (1 : Int) ≤ (q : Int) := by have := Hq.out; omega
          have wq : IntKind.i64.wrap ((q : Int) + 1) = ((q + 1 : Nat) : Int) := (IntWalk.i64_in _ (by omega)).trans (by omega)
          have HSq : Hid (al (d + 1) = al d + o q) := Lib.hid (by rw [Ha1.out d, ← Hq.out])
          have HOq := Lib.hid (HOr2.out wr q hbw (by omega) (by omega))
          clear hbw
          go_wp2_with fail
          refine HOq.out.mono ?_
          rintro e y6 ⟨hbc, hr⟩
          rcases hr with ⟨_, rfl⟩ | ⟨h0, _⟩
          rotate_left 1
          · exact absurd rfl h0
          dsimp only
          have hbo := Hbo.out q (by omega) (by omega)
          have hbs := (Hbs.out d (by omega)).2
          have HAd := Lib.hid (fun W => addc_any (al d) (o q) (hbs.size _ (by omega)) (hbo.1.size _ (by omega)) W)
          obtain ⟨Sn, hSn⟩ : ∃ z, al d + o q = z := ⟨_, rfl⟩
          rw [hSn] at HAd
          have HSN : Hid (al (d + 1) = Sn) := Lib.hid (by rw [HSq.out, hSn])
          have hbc2 := hbc.alloc hbc.size (.cells #[.bool (canon (o q)).neg, .string (canon (o q)).mag] 28)
          have f11 := BoxAt.new y6 (.bool (canon (o q)).neg) (.string (canon (o q)).mag) 28
          obtain ⟨O, hO⟩ : ∃ O, canon (o q) = O := ⟨_, rfl⟩
          rw [hO] at f11 hbc2 HAd
          rw [hO]
          obtain ⟨A0, hA0⟩ : ∃ O, canon (al d) = O := ⟨_, rfl⟩
          rw [hA0] at HAd H9
          have H11 := Lib.hid f11
          have H9a := Lib.hid (H9.out.below hbc2 H9.out.2.2.2.2)
          have Hya := Lib.hid (Hy.out.trans (hbc2.mono (Nat.le_of_lt H9.out.2.2.2.2)))
          clear f11 hbo hbs hbc2 Hy z0 z1 z2 HOq hSn hO HSq hA0
          go_upto_region 18 with (fail)
          obtain ⟨g11, hg11⟩ : ∃ g, y6.heap.size = g := ⟨_, rfl⟩
          rw [hg11] at H11 ⊢
          have h911 : g8 + 1 < g11 := by rw [← hg11]; exact Nat.lt_of_lt_of_le H9.out.2.2.2.2 hbc.size
          clear hg11 hbc H9
          generalize y6.alloc (.cells #[.bool O.neg, .string O.mag] 28) = Z at *
          obtain ⟨b0, b1, _, _, _⟩ := H11.out
          obtain ⟨a0, a1, _, _, _⟩ := H9a.out
          clear h911
          go_wp2_with fail
          refine (HAd.out _).mono ?_
          rintro e y7 ⟨rfl, hbc⟩
          dsimp only
          have H9b := H9a.out.below hbc H9a.out.2.2.2.2
          have Hyb := Hya.out.trans (hbc.mono (Nat.le_of_lt H9a.out.2.2.2.2))
          have F1 := Lib.hid (boxp_set H9b (.bool (canon Sn).neg) (.string (canon Sn).mag))
          have F2 := Lib.hid ((Hyb.setCell (p := ⟨g8 + 1, 0, none⟩) (Nat.le_refl _) (.bool (canon Sn).neg)).setCell (p := ⟨g8 + 1, 1, none⟩) (Nat.le_refl _) (.string (canon Sn).mag))
          obtain ⟨e0, e1, e2, e3, _⟩ := H9b
          clear hbc b0 b1 a0 a1 H9a H11 Hya Hyb HAd
          go_wp2_with fail
          go_roundw
          case rel => exact ⟨d + 1, q + 1, Lib.hid (by rw [Hq.out]), by omega, by go_num, by rw [HSN.out]; exact F1, F2⟩
          case measure => simp [intOf]; omega
        · have q1 : ¬ (q : Int) ≤ (N : Int) := by have := Hq.out; omega
          have hdN : d = N := by omega
          rw [hdN] at H9
          have HTw := Lib.hid (HTo.out wr hbw)
          have Hy1 := Lib.hid Hy.out
          clear hbw hdN Hq Hy HOr2 HTo
          go_wp2_with fail
          refine HTw.out.mono ?_
          rintro e y6 ⟨hbc, hr⟩
          rcases hr with ⟨_, rfl⟩ | ⟨h0, _⟩
          rotate_left 1
          · exact absurd rfl h0
          dsimp only
          have hbc2 := hbc.alloc hbc.size (.cells #[.bool (canon U).neg, .string (canon U).mag] 28)
          have H16 := Lib.hid (BoxAt.new y6 (.bool (canon U).neg) (.string (canon U).mag) 28)
          have H9a := Lib.hid (H9.out.below hbc2 H9.out.2.2.2.2)
          have Hya := Lib.hid (Hy1.out.trans (hbc2.mono (Nat.le_of_lt H9.out.2.2.2.2)))
          clear hbc hbc2 H9 HTw z0 z1 z2 Hy1
          go_upto_region 22 with (fail)
          obtain ⟨g16, hg16⟩ : ∃ g, y6.heap.size = g := ⟨_, rfl⟩
          rw [hg16] at H16 ⊢
          clear hg16
          generalize y6.alloc (.cells #[.bool (canon U).neg, .string (canon U).mag] 28) = Z at *
          obtain ⟨_, hbw, _, ⟨x0, x1, _⟩, ⟨x2, x3, _⟩⟩ := HBZ.out _ Hya.out
          have Hbw := Lib.hid hbw
          have e1 : (X.neg == X.neg) = true := beq_self_eq_true _
          have e2 : (X.mag.toList == X.mag.toList) = true := beq_self_eq_true _
          clear hbw
          go_upto_region 24 with (fail)
          clear x0 x1 x2 x3 e1 e2
          have hd : Below Z.heap.size Z Z.drew := (Below.refl _ _).drew
          have HXX : Hid (∀ W, Below Z.heap.size Z W → BoxAt W (g8 + 1) (.bool (canon (al N)).neg) (.string (canon (al N)).mag) ∧ BoxAt W g16 (.bool (canon U).neg) (.string (canon U).mag)) := Lib.hid (fun W hW => ⟨H9a.out.below hW H9a.out.2.2.2.2, H16.out.below hW H16.out.2.2.2.2⟩)
          by_cases hz : al N = 0
          · have hu : U = 0 := HaU.out.1 hz
            rw [hz, hu, show canon 0 = ⟨false, ⟨#[]⟩⟩ from rfl] at HXX
            obtain ⟨SS, hSe⟩ : ∃ SS : World → Prop, SS = fun W => W.cell? ⟨g8 + 1, 0, none⟩ = some (.bool false) ∧ W.cell? ⟨g8 + 1, 1, none⟩ = some (.string ⟨#[]⟩) ∧ W.cell? ⟨g16, 0, none⟩ = some (.bool false) ∧ W.cell? ⟨g16, 1, none⟩ = some (.string ⟨#[]⟩) := ⟨_, rfl⟩
            have HS : Hid (∀ W, Below Z.heap.size Z W → SS W) := Lib.hid (fun W hW => by
              obtain ⟨⟨b0, b1, _⟩, ⟨b2, b3, _⟩⟩ := HXX.out W hW
              rw [hSe]; exact ⟨b0, b1, b2, b3⟩)
            clear hz hu H9a H16 Hya
            refine wp_region_held_drew (S := SS) (by kernel_rfl) (HS.out _ hd) (fun hSS => ?_)
            refine wpAnyH_take (i := 0) (v := ?_) rfl (by kernel_rfl) (by kernel_rfl) (by kernel_rfl) (fun _ _ _ h => h) (Or.inl ⟨by rfl, ?_⟩) (HS.out _ hd) ?_
            rotate_left 1
            next => intro w hSw; rw [hSe] at hSw; obtain ⟨s1, s2, s3, s4⟩ := hSw; go_simp; try with_reducible rfl
            try simp only [Act.put, List.getElem_toArray, List.getElem_cons_zero, List.getElem_cons_succ, List.setIfInBounds_toArray, List.set_cons_zero, List.set_cons_succ]
            refine wpAnyH_take (i := 1) (v := ?_) rfl (by kernel_rfl) (by kernel_rfl) (by kernel_rfl) (fun _ _ _ h => h) (Or.inl ⟨by rfl, ?_⟩) (HS.out _ hd) ?_
            rotate_left 1
            next => intro w hSw; rw [hSe] at hSw; obtain ⟨s1, s2, s3, s4⟩ := hSw; go_simp; try with_reducible rfl
            try simp only [Act.put, List.getElem_toArray, List.getElem_cons_zero, List.getElem_cons_succ, List.setIfInBounds_toArray, List.set_cons_zero, List.set_cons_succ]
            refine wpAnyH_take (i := 2) (v := ?_) rfl (by kernel_rfl) (by kernel_rfl) (by kernel_rfl) (fun _ _ _ h => h) (Or.inl ⟨by rfl, ?_⟩) (HS.out _ hd) ?_
            rotate_left 1
            next => intro w hSw; rw [hSe] at hSw; obtain ⟨s1, s2, s3, s4⟩ := hSw; go_simp; try with_reducible rfl
            try simp only [Act.put, List.getElem_toArray, List.getElem_cons_zero, List.getElem_cons_succ, List.setIfInBounds_toArray, List.set_cons_zero, List.set_cons_succ]
            refine wpAnyH_take (i := 3) (v := ?_) rfl (by kernel_rfl) (by kernel_rfl) (by kernel_rfl) (fun _ _ _ h => h) (Or.inl ⟨by rfl, ?_⟩) (HS.out _ hd) ?_
            rotate_left 1
            next => intro w hSw; rw [hSe] at hSw; obtain ⟨s1, s2, s3, s4⟩ := hSw; go_simp; try with_reducible rfl
            try simp only [Act.put, List.getElem_toArray, List.getElem_cons_zero, List.getElem_cons_succ, List.setIfInBounds_toArray, List.set_cons_zero, List.set_cons_succ]
            refine wpAnyH_take (i := 4) (v := ?_) rfl (by kernel_rfl) (by kernel_rfl) (by kernel_rfl) (fun _ _ _ h => h) (Or.inl ⟨by rfl, ?_⟩) (HS.out _ hd) ?_
            rotate_left 1
            next => intro w hSw; rw [hSe] at hSw; obtain ⟨s1, s2, s3, s4⟩ := hSw; go_simp; try with_reducible rfl
            try simp only [Act.put, List.getElem_toArray, List.getElem_cons_zero, List.getElem_cons_succ, List.setIfInBounds_toArray, List.set_cons_zero, List.set_cons_succ]
            refine wpAnyH_take (i := 5) (v := ?_) rfl (by kernel_rfl) (by kernel_rfl) (by kernel_rfl) (fun _ _ _ h => h) (Or.inl ⟨by rfl, ?_⟩) (HS.out _ hd) ?_
            rotate_left 1
            next => intro w hSw; rw [hSe] at hSw; obtain ⟨s1, s2, s3, s4⟩ := hSw; go_simp; try with_reducible rfl
            try simp only [Act.put, List.getElem_toArray, List.getElem_cons_zero, List.getElem_cons_succ, List.setIfInBounds_toArray, List.set_cons_zero, List.set_cons_succ]
            refine wpAnyH_take (i := 6) (v := ?_) rfl (by kernel_rfl) (by kernel_rfl) (by kernel_rfl) (fun _ _ _ h => h) (Or.inl ⟨by rfl, ?_⟩) (HS.out _ hd) ?_
            rotate_left 1
            next => intro w hSw; rw [hSe] at hSw; obtain ⟨s1, s2, s3, s4⟩ := hSw; go_simp; try with_reducible rfl
            try simp only [Act.put, List.getElem_toArray, List.getElem_cons_zero, List.getElem_cons_succ, List.setIfInBounds_toArray, List.set_cons_zero, List.set_cons_succ]
            refine wpAnyH_take (i := 7) (v := ?_) rfl (by kernel_rfl) (by kernel_rfl) (by kernel_rfl) (fun _ _ _ h => h) (Or.inl ⟨by rfl, ?_⟩) (HS.out _ hd) ?_
            rotate_left 1
            next => intro w hSw; rw [hSe] at hSw; obtain ⟨s1, s2, s3, s4⟩ := hSw; go_simp; try with_reducible rfl
            try simp only [Act.put, List.getElem_toArray, List.getElem_cons_zero, List.getElem_cons_succ, List.setIfInBounds_toArray, List.set_cons_zero, List.set_cons_succ]
            try simp only [Act.put, List.getElem_toArray, List.getElem_cons_zero, List.getElem_cons_succ, List.setIfInBounds_toArray, List.set_cons_zero, List.set_cons_succ]
            refine wpAnyH_ready (rs := [8]) (by kernel_rfl) (by simp) ?_
            refine AllReadyH.cons rfl (fun K hK => ?_) AllReadyH.nil
            go_simp
            refine (topAwake_any _).mono ?_
            rintro e w1 ⟨rfl, hbc⟩
            have hb1 : Below Z.heap.size Z w1 := hd.trans (hbc.mono hd.size)
            dsimp only
            refine hK.out _ _ (HS.out _ hb1) (fun _ => ?_)
            clear hK K hbc
            refine wpAnyH_take (i := 9) (v := ?_) rfl (by kernel_rfl) (by kernel_rfl) (by kernel_rfl) (fun _ _ _ h => h) (Or.inl ⟨by rfl, ?_⟩) (HS.out _ hb1) ?_
            rotate_left 1
            next => intro w hSw; rw [hSe] at hSw; obtain ⟨s1, s2, s3, s4⟩ := hSw; go_simp; try with_reducible rfl
            try simp only [Act.put, List.getElem_toArray, List.getElem_cons_zero, List.getElem_cons_succ, List.setIfInBounds_toArray, List.set_cons_zero, List.set_cons_succ]
            refine wpAnyH_take (i := 10) (v := ?_) rfl (by kernel_rfl) (by kernel_rfl) (by kernel_rfl) (fun _ _ _ h => h) (Or.inl ⟨by rfl, ?_⟩) (HS.out _ hb1) ?_
            rotate_left 1
            next => intro w hSw; rw [hSe] at hSw; obtain ⟨s1, s2, s3, s4⟩ := hSw; go_simp; try with_reducible rfl
            try simp only [Act.put, List.getElem_toArray, List.getElem_cons_zero, List.getElem_cons_succ, List.setIfInBounds_toArray, List.set_cons_zero, List.set_cons_succ]
            refine wpAnyH_done (by kernel_rfl) ?_ _
            go_wp2
            go_ret
            exact ⟨rfl, Hbw.out.trans (hb1.mono Hbw.out.size)⟩
          · have hu : ¬ U = 0 := fun h => hz (HaU.out.2 h)
            have hm1 := canon_ne hz
            have hm2 := canon_ne hu
            obtain ⟨A, hA⟩ : ∃ A, canon (al N) = A := ⟨_, rfl⟩
            obtain ⟨V, hV⟩ : ∃ A, canon U = A := ⟨_, rfl⟩
            rw [hA, hV] at HXX
            rw [hA] at hm1
            rw [hV] at hm2
            obtain ⟨SS, hSe⟩ : ∃ SS : World → Prop, SS = fun W => W.cell? ⟨g8 + 1, 0, none⟩ = some (.bool A.neg) ∧ W.cell? ⟨g8 + 1, 1, none⟩ = some (.string A.mag) ∧ W.cell? ⟨g16, 0, none⟩ = some (.bool V.neg) ∧ W.cell? ⟨g16, 1, none⟩ = some (.string V.mag) := ⟨_, rfl⟩
            have HS : Hid (∀ W, Below Z.heap.size Z W → SS W) := Lib.hid (fun W hW => by
              obtain ⟨⟨b0, b1, _⟩, ⟨b2, b3, _⟩⟩ := HXX.out W hW
              rw [hSe]; exact ⟨b0, b1, b2, b3⟩)
            clear hz hu H9a H16 Hya hA hV
            refine wp_region_held_drew (S := SS) (by kernel_rfl) (HS.out _ hd) (fun hSS => ?_)
            refine wpAnyH_take (i := 0) (v := ?_) rfl (by kernel_rfl) (by kernel_rfl) (by kernel_rfl) (fun _ _ _ h => h) (Or.inl ⟨by rfl, ?_⟩) (HS.out _ hd) ?_
            rotate_left 1
            next => intro w hSw; rw [hSe] at hSw; obtain ⟨s1, s2, s3, s4⟩ := hSw; go_simp; try with_reducible rfl
            try simp only [Act.put, List.getElem_toArray, List.getElem_cons_zero, List.getElem_cons_succ, List.setIfInBounds_toArray, List.set_cons_zero, List.set_cons_succ]
            refine wpAnyH_take (i := 1) (v := ?_) rfl (by kernel_rfl) (by kernel_rfl) (by kernel_rfl) (fun _ _ _ h => h) (Or.inl ⟨by rfl, ?_⟩) (HS.out _ hd) ?_
            rotate_left 1
            next => intro w hSw; rw [hSe] at hSw; obtain ⟨s1, s2, s3, s4⟩ := hSw; go_simp; try with_reducible rfl
            try simp only [Act.put, List.getElem_toArray, List.getElem_cons_zero, List.getElem_cons_succ, List.setIfInBounds_toArray, List.set_cons_zero, List.set_cons_succ]
            refine wpAnyH_take (i := 2) (v := ?_) rfl (by kernel_rfl) (by kernel_rfl) (by kernel_rfl) (fun _ _ _ h => h) (Or.inl ⟨by rfl, ?_⟩) (HS.out _ hd) ?_
            rotate_left 1
            next => intro w hSw; rw [hSe] at hSw; obtain ⟨s1, s2, s3, s4⟩ := hSw; go_simp; try with_reducible rfl
            try simp only [Act.put, List.getElem_toArray, List.getElem_cons_zero, List.getElem_cons_succ, List.setIfInBounds_toArray, List.set_cons_zero, List.set_cons_succ]
            refine wpAnyH_take (i := 3) (v := ?_) rfl (by kernel_rfl) (by kernel_rfl) (by kernel_rfl) (fun _ _ _ h => h) (Or.inl ⟨by rfl, ?_⟩) (HS.out _ hd) ?_
            rotate_left 1
            next => intro w hSw; rw [hSe] at hSw; obtain ⟨s1, s2, s3, s4⟩ := hSw; go_simp; try with_reducible rfl
            try simp only [Act.put, List.getElem_toArray, List.getElem_cons_zero, List.getElem_cons_succ, List.setIfInBounds_toArray, List.set_cons_zero, List.set_cons_succ]
            refine wpAnyH_take (i := 4) (v := ?_) rfl (by kernel_rfl) (by kernel_rfl) (by kernel_rfl) (fun _ _ _ h => h) (Or.inl ⟨by rfl, ?_⟩) (HS.out _ hd) ?_
            rotate_left 1
            next => intro w hSw; rw [hSe] at hSw; obtain ⟨s1, s2, s3, s4⟩ := hSw; go_simp; try with_reducible rfl
            try simp only [Act.put, List.getElem_toArray, List.getElem_cons_zero, List.getElem_cons_succ, List.setIfInBounds_toArray, List.set_cons_zero, List.set_cons_succ]
            refine wpAnyH_take (i := 5) (v := ?_) rfl (by kernel_rfl) (by kernel_rfl) (by kernel_rfl) (fun _ _ _ h => h) (Or.inl ⟨by rfl, ?_⟩) (HS.out _ hd) ?_
            rotate_left 1
            next => intro w hSw; rw [hSe] at hSw; obtain ⟨s1, s2, s3, s4⟩ := hSw; go_simp; try with_reducible rfl
            try simp only [Act.put, List.getElem_toArray, List.getElem_cons_zero, List.getElem_cons_succ, List.setIfInBounds_toArray, List.set_cons_zero, List.set_cons_succ]
            refine wpAnyH_take (i := 6) (v := ?_) rfl (by kernel_rfl) (by kernel_rfl) (by kernel_rfl) (fun _ _ _ h => h) (Or.inl ⟨by rfl, ?_⟩) (HS.out _ hd) ?_
            rotate_left 1
            next => intro w hSw; rw [hSe] at hSw; obtain ⟨s1, s2, s3, s4⟩ := hSw; go_simp; try with_reducible rfl
            try simp only [Act.put, List.getElem_toArray, List.getElem_cons_zero, List.getElem_cons_succ, List.setIfInBounds_toArray, List.set_cons_zero, List.set_cons_succ]
            refine wpAnyH_take (i := 7) (v := ?_) rfl (by kernel_rfl) (by kernel_rfl) (by kernel_rfl) (fun _ _ _ h => h) (Or.inl ⟨by rfl, ?_⟩) (HS.out _ hd) ?_
            rotate_left 1
            next => intro w hSw; rw [hSe] at hSw; obtain ⟨s1, s2, s3, s4⟩ := hSw; go_simp; try with_reducible rfl
            try simp only [Act.put, List.getElem_toArray, List.getElem_cons_zero, List.getElem_cons_succ, List.setIfInBounds_toArray, List.set_cons_zero, List.set_cons_succ]
            try simp only [Act.put, List.getElem_toArray, List.getElem_cons_zero, List.getElem_cons_succ, List.setIfInBounds_toArray, List.set_cons_zero, List.set_cons_succ]
            refine wpAnyH_ready (rs := [8]) (by kernel_rfl) (by simp) ?_
            refine AllReadyH.cons rfl (fun K hK => ?_) AllReadyH.nil
            go_simp
            refine (topAwake_any _).mono ?_
            rintro e w2 ⟨rfl, hbc⟩
            have hb2 : Below Z.heap.size Z w2 := hd.trans (hbc.mono hd.size)
            dsimp only
            refine hK.out _ _ (HS.out _ hb2) (fun _ => ?_)
            clear hK K hbc
            refine wpAnyH_take (i := 9) (v := ?_) rfl (by kernel_rfl) (by kernel_rfl) (by kernel_rfl) (fun _ _ _ h => h) (Or.inl ⟨by rfl, ?_⟩) (HS.out _ hb2) ?_
            rotate_left 1
            next => intro w hSw; rw [hSe] at hSw; obtain ⟨s1, s2, s3, s4⟩ := hSw; go_simp; try with_reducible rfl
            try simp only [Act.put, List.getElem_toArray, List.getElem_cons_zero, List.getElem_cons_succ, List.setIfInBounds_toArray, List.set_cons_zero, List.set_cons_succ]
            refine wpAnyH_take (i := 10) (v := ?_) rfl (by kernel_rfl) (by kernel_rfl) (by kernel_rfl) (fun _ _ _ h => h) (Or.inl ⟨by rfl, ?_⟩) (HS.out _ hb2) ?_
            rotate_left 1
            next => intro w hSw; rw [hSe] at hSw; obtain ⟨s1, s2, s3, s4⟩ := hSw; go_simp; try with_reducible rfl
            try simp only [Act.put, List.getElem_toArray, List.getElem_cons_zero, List.getElem_cons_succ, List.setIfInBounds_toArray, List.set_cons_zero, List.set_cons_succ]
            refine wpAnyH_done (by kernel_rfl) ?_ _
            go_wp2
            go_ret
            exact ⟨rfl, Hbw.out.trans (hb2.mono Hbw.out.size)⟩
end Go.Proofs.Ytlaoijfphkhchaa
