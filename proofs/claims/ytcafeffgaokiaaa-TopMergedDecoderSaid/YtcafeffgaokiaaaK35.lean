/- The search for decoders of an encoder and of the merged encoder; their greatest damage: plain. -/
import Derived.Test.YtcafeffgaokiaaaK29
import Derived.Test.YtcafeffgaokiaaaK33
import Derived.Test.YtcafeffgaokiaaaK34
namespace Go.Proofs.Ytcafeffgaokiaaa
open Go.RowKit
theorem cons_congr {a b : List (ByteArray × Nat)} (h : ∀ x, x ∈ a ↔ x ∈ b) : Cons a ↔ Cons b :=
  ⟨fun hc w i j hi hj => hc w i j ((h _).2 hi) ((h _).2 hj), fun hc w i j hi hj => hc w i j ((h _).1 hi) ((h _).1 hj)⟩
theorem built_congr {a b : List (ByteArray × Nat)} (h : ∀ x, x ∈ a ↔ x ∈ b) {es : List Ent} (hb : Built a es) : Built b es :=
  ⟨fun x => (hb.1 x).trans ⟨fun ⟨y, hy, e⟩ => ⟨y, (h y).1 hy, e⟩, fun ⟨y, hy, e⟩ => ⟨y, (h y).2 hy, e⟩⟩, hb.2⟩
theorem many_small {r I n : Nat} (hr : r ≤ 6) (hI : I ≤ 4) (hn : n ≤ 3) : manyP r I n = false := by
  unfold manyP
  refine decide_eq_false ?_
  have h1 : I ^ n ≤ 4 ^ n := Nat.pow_le_pow_left hI n
  have h2 : 4 ^ n ≤ 4 ^ 3 := Nat.pow_le_pow_right (by decide) hn
  have h3 : r * I ^ n ≤ 6 * 4 ^ 3 := Nat.mul_le_mul hr (Nat.le_trans h1 h2)
  have h4 : 6 * 4 ^ 3 ≤ 65536 := by decide
  omega
theorem mrg_check {l : Int} {B I : Nat} {m : EM} (he : encCheck l (B : Int) (I : Int) m = 0) {f : Nat → Nat} {k : Nat} (hc : Cnt f m.r k) : encCheck l (B : Int) (I : Int) (mrg m I f k) = 0 := by
  obtain ⟨hl, hB, hI, hr, hok, hwd⟩ := encCheck_ok he
  rw [Int.toNat_natCast, Int.toNat_natCast] at hok
  have hk := cnt_le hc
  have hk0 : 0 < k := by
    have := hc.1 0 hr.1
    omega
  have hok2 := mrg_ok hok hc
  unfold encCheck
  rw [if_neg (by omega), if_neg (by omega), if_neg (show ¬ (mrg m I f k).r = 0 from fun h => by have h9 : k = 0 := h; omega), if_neg (show ¬ 64 < (mrg m I f k).r from fun h => by have h9 : 64 < k := h; omega)]
  have hc0 : ∀ s i r, encCellB l (B : Int) (mrg m I f k) s i = some r → r ≠ 0 := fun s i r hr => by
    unfold encCellB at hr
    split at hr
    · cases hr; decide
    · split at hr
      · cases hr; decide
      · cases hr
  have hb0 : ∀ s r, encRowB l (B : Int) (I : Int) (mrg m I f k) s = some r → r ≠ 0 := fun s r hr => by
    unfold encRowB at hr
    split at hr
    · cases hr; decide
    · split at hr
      · cases hr; assumption
      · cases hr
  refine (firstFrom_zero_iff hb0 _ _).2 fun s _ hs => ?_
  have hs : s < k := by have : (mrg m I f k).r = k := rfl; omega
  have hrep := repF_spec (hc.2 s hs)
  have hv : encRowV l (B : Int) (mrg m I f k) s = 0 := by
    unfold encRowV
    refine (firstFrom_zero_iff (hc0 s) _ _).2 fun i _ hi => ?_
    have hi : i < I := by have : (mrg m I f k).L s = I := rfl; omega
    have h1 := hok2.to0 s i hs hi
    have h2 := hok2.to1 s i hs hi
    have h3 := hok2.wd s i hs hi
    have h4 : wordCheck l ((mrg m I f k).D s i).data.toList = 0 := hwd _ i hrep.1 (by rw [hok.len _ hrep.1]; exact hi)
    unfold encCellB
    rw [if_neg (by omega), if_neg (by rw [h3, h4]; simp)]
  unfold encRowB
  rw [if_neg (show ¬ (((mrg m I f k).L s : Nat) : Int) ≠ (I : Int) from fun h => h rfl), hv]
  rfl
section
variable {B I : Nat} {m : EM} {f : Nat → Nat} {k : Nat}
theorem nowin_mrg (hm : m.Ok I B) (hc : Cnt f m.r k) (hs : Stable m I f) (hr : m.r ≤ 6) (hI : I ≤ 4) {n j : Nat} (hn : n ≤ 2) (hj : j ≤ n) : NoWin I (mrg m I f k) n j ↔ NoWin I m n j := by
  have hk := cnt_le hc
  unfold NoWin
  rw [many_small (show (mrg m I f k).r ≤ 6 from Nat.le_trans hk hr) hI (by omega), many_small hr hI (by omega), cons_congr (fun x => mrg_path hm hc hs (show n - j < n + 1 by omega) x)]
theorem none_mrg (hm : m.Ok I B) (hc : Cnt f m.r k) (hs : Stable m I f) (hr : m.r ≤ 6) (hI : I ≤ 4) {n j : Nat} (hn : n ≤ 3) (hj : n ≤ 2 → j ≤ n + 1) (hj3 : n = 3 → j = 0) : NoneB I (mrg m I f k) n j ↔ NoneB I m n j := by
  unfold NoneB
  constructor
  · rintro ⟨h1, h2⟩
    exact ⟨fun n' f' hn' hf' => (nowin_mrg hm hc hs hr hI (by omega) hf').1 (h1 n' f' hn' hf'), fun f' hf' => (nowin_mrg hm hc hs hr hI (by omega) (by omega)).1 (h2 f' hf')⟩
  · rintro ⟨h1, h2⟩
    exact ⟨fun n' f' hn' hf' => (nowin_mrg hm hc hs hr hI (by omega) hf').2 (h1 n' f' hn' hf'), fun f' hf' => (nowin_mrg hm hc hs hr hI (by omega) (by omega)).2 (h2 f' hf')⟩
/-- Both searches come to the same end. -/
theorem two_search (hm : m.Ok I B) (hc : Cnt f m.r k) (hs : Stable m I f) (hr : m.r ≤ 6) (hI : I ≤ 4) {lo lo2 : Nat} {l : Int} {e e2 : Ending} {w w2 : World} (hp : SearchPost lo l B I m 2 e w) (hq : SearchPost lo2 l B I (mrg m I f k) 2 e2 w2) :
    (e = .returned (.tuple #[zDec, .int .i64 17]) ∧ e2 = .returned (.tuple #[zDec, .int .i64 17])) ∨
    ∃ n j, n ≤ 2 ∧ j ≤ n ∧ ∃ (es es2 : List Ent) (a a2 : Option Addr) (cap cap2 : Nat), e = .returned (.tuple #[decV l B I (n - j) j (.slice a es.length cap), .int .i64 0]) ∧ EntsAt w a es ∧ Built (pathE m (n - j) (n + 1)) es ∧
      e2 = .returned (.tuple #[decV l B I (n - j) j (.slice a2 es2.length cap2), .int .i64 0]) ∧ EntsAt w2 a2 es2 ∧ Built (pathE m (n - j) (n + 1)) es2 := by
  have hk : (mrg m I f k).r ≤ 6 := Nat.le_trans (cnt_le hc) hr
  have hpath : ∀ n j, ∀ x, x ∈ pathE (mrg m I f k) (n - j) (n + 1) ↔ x ∈ pathE m (n - j) (n + 1) := fun n j x => mrg_path hm hc hs (by omega) x
  have hcons : ∀ n j, Cons (pathE (mrg m I f k) (n - j) (n + 1)) ↔ Cons (pathE m (n - j) (n + 1)) := fun n j => cons_congr (hpath n j)
  rcases hp with ⟨h1, rfl⟩ | ⟨n, j, hn, hj, h1, h2, _⟩ | ⟨n, j, hn, hj, h1, h2, h3, es, a, cap, rfl, hE, hB, _⟩
  · rcases hq with ⟨_, rfl⟩ | ⟨n, j, hn, hj, _, h2, _⟩ | ⟨n, j, hn, hj, _, _, h3, _⟩
    · exact .inl ⟨rfl, rfl⟩
    · rw [many_small hk hI (by omega)] at h2; cases h2
    · exact absurd ((hcons n j).1 h3) (h1.1 n j (by omega) hj).2
  · rw [many_small hr hI (by omega)] at h2; cases h2
  · rcases hq with ⟨g1, _⟩ | ⟨n', j', hn', hj', _, g2, _⟩ | ⟨n', j', hn', hj', g1, g2, g3, es2, a2, cap2, rfl, hE2, hB2, _⟩
    · exact absurd h3 ((nowin_mrg hm hc hs hr hI hn hj).1 (g1.1 n j (by omega) hj)).2
    · rw [many_small hk hI (by omega)] at g2; cases g2
    · have g1' := (none_mrg hm hc hs hr hI (show n' ≤ 3 by omega) (fun _ => by omega) (fun h => by omega)).1 g1
      have g3' := (hcons n' j').1 g3
      have e1 : n' = n := by
        rcases Nat.lt_trichotomy n' n with h | h | h
        · exact absurd g3' (h1.1 n' j' h hj').2
        · exact h
        · exact absurd h3 (g1'.1 n j h hj).2
      subst e1
      have e2 : j' = j := by
        rcases Nat.lt_trichotomy j' j with h | h | h
        · exact absurd g3' (h1.2 j' h).2
        · exact h
        · exact absurd h3 (g1'.2 j h).2
      subst e2
      exact .inr ⟨n', j', hn, hj, es, es2, a, a2, cap, cap2, rfl, hE, hB, rfl, hE2, built_congr (hpath n' j') hB2⟩
end
theorem mostF_congr {a b : List Rp} (h : ∀ x, x ∈ a ↔ x ∈ b) : mostF a = mostF b :=
  Nat.le_antisymm (mostF_bound fun x hx => mostF_le x ((h x).1 hx)) (mostF_bound fun x hx => mostF_le x ((h x).2 hx))
theorem rpE_congr {D : ByteArray → List Int} {L : Nat} {a b : List ByteArray} (h : ∀ x, x ∈ a ↔ x ∈ b) (x : Rp) : x ∈ rpE D L a ↔ x ∈ rpE D L b := by
  unfold rpE
  rw [List.mem_flatMap, List.mem_flatMap]
  exact ⟨fun ⟨w, hw, hx⟩ => ⟨w, (h w).1 hw, hx⟩, fun ⟨w, hw, hx⟩ => ⟨w, (h w).2 hw, hx⟩⟩
theorem cnt_small {r I : Nat} (hr : r ≤ 6) (hI : I ≤ 4) : cntV (I : Int) 2 (r : Int) ≤ 4096 := by
  have h : ∀ i : Nat, i < 5 → ∀ r : Nat, r < 7 → cntV (i : Int) 2 (r : Int) ≤ 4096 := by decide +kernel
  exact h I (by omega) r (by omega)
theorem fit_small {l : Int} {B I : Nat} {m : EM} {dp df : Int} {es : List Ent} (he : encCheck l (B : Int) (I : Int) m = 0) (hd : decCheck l (B : Int) (I : Int) dp df es = 0) (hr : m.r ≤ 6) (hI : I ≤ 4) : fitErr l (B : Int) (I : Int) m l (B : Int) (I : Int) dp df es 2 = 0 := by
  unfold fitErr
  rw [if_neg (by rw [he, hd]; simp), if_neg (by simp), if_neg (by decide), if_neg]
  have := cnt_small hr hI
  show ¬ 4096 < cntV (I : Int) 2 (m.r : Int)
  omega
/-- The same greatest damage. -/
theorem grt_mrg {L B I : Nat} {m : EM} (he : encCheck (L : Int) (B : Int) (I : Int) m = 0) {f : Nat → Nat} {k : Nat} (hc : Cnt f m.r k) (hs : Stable m I f) (hr : m.r ≤ 6) (hI : I ≤ 4) {dp df : Int} {es : List Ent} (hd : decCheck (L : Int) (B : Int) (I : Int) dp df es = 0) :
    fitErr (L : Int) (B : Int) (I : Int) m (L : Int) (B : Int) (I : Int) dp df es 2 = 0 ∧ fitErr (L : Int) (B : Int) (I : Int) (mrg m I f k) (L : Int) (B : Int) (I : Int) dp df es 2 = 0 ∧
      grtV (L : Int) (B : Int) (I : Int) (mrg m I f k) (L : Int) (B : Int) (I : Int) dp df es 2 = grtV (L : Int) (B : Int) (I : Int) m (L : Int) (B : Int) (I : Int) dp df es 2 := by
  obtain ⟨hl, hB, hI2, hr2, hok, hwd⟩ := encCheck_ok he
  rw [Int.toNat_natCast, Int.toNat_natCast] at hok
  have h1 := fit_small he hd hr hI
  have h2 := fit_small (mrg_check he hc) hd (show (mrg m I f k).r ≤ 6 from Nat.le_trans (cnt_le hc) hr) hI
  refine ⟨h1, h2, ?_⟩
  unfold grtV
  rw [if_pos h1, if_pos h2]
  unfold rps
  rw [mostF_congr (rpE_congr (fun x => mrg_word hok hc hs _ x))]
end Go.Proofs.Ytcafeffgaokiaaa
