/- Contracts of package polynomial in values: what comes in (PI), what is handed back (PR). Contracts of polynomial.Divide, Gcd and Derivative in values. -/
import Derived.Test.YteoemijgdcpopaaDoorD30
import Derived.Test.YteoemijgdcpopaaDoorD31
import Derived.Test.YteoemijgdcpopaaDoorD37
import Derived.Test.YteoemijgdcpopaaDoorD34
namespace Go.Proofs.YteoemijgdcpopaaDoor
open Go.RowKit Go.Shelf
/-- A polynomial that comes in: its values, sizes. -/
structure PI (w : World) (p : Option Addr) (n : Nat) (Z : Nat → ZI) (e : Int → Int) (B L : Nat) : Prop where
  row : GRow w p n Z
  len : n ≤ L
  sz : ∀ k, k < n → (Z k).mag.size ≤ 100000000
  bn : ∀ k, Bn (valZ (Z k)) B
  ev : ∀ x, ypol (fun k => valZ (Z k)) n x = e x
/-- A canonical polynomial. -/
structure PR (w : World) (p : Option Addr) (N : Nat) (F : Nat → Int) (e : Int → Int) (B L : Nat) : Prop where
  row : RowF w p N F
  isp : IsP N F e
  len : N ≤ L
  bn : ∀ k, Bn (F k) B
theorem PI.below {w w' : World} {p : Option Addr} {n : Nat} {Z : Nat → ZI} {e : Int → Int} {B L : Nat} (h : PI w p n Z e B L) (hb : Below w.heap.size w w') : PI w' p n Z e B L := ⟨SlAt.mono h.row (Nat.le_refl _) hb, h.len, h.sz, h.bn, h.ev⟩
theorem PR.below {w w' : World} {p : Option Addr} {N : Nat} {F : Nat → Int} {e : Int → Int} {B L : Nat} (h : PR w p N F e B L) (hb : Below w.heap.size w w') : PR w' p N F e B L := ⟨h.row.below (Nat.le_refl _) hb, h.isp, h.len, h.bn⟩
theorem PR.pi {w : World} {p : Option Addr} {N : Nat} {F : Nat → Int} {e : Int → Int} {B L : Nat} (h : PR w p N F e B L) (hB : B < 800000000) : PI w p N (fun k => canon (F k)) e B L :=
  ⟨h.row, h.len, fun k _ => (h.bn k).size _ (by omega), fun k => by rw [valZ_canon]; exact h.bn k, fun x => by
    rw [show (fun k => valZ (canon (F k))) = F from funext fun _ => valZ_canon _]; exact h.isp.ev x⟩
theorem PI.up {w : World} {p : Option Addr} {n : Nat} {Z : Nat → ZI} {e : Int → Int} {B L L' B' : Nat} (h : PI w p n Z e B L) (hL : L ≤ L') (hB : B ≤ B') : PI w p n Z e B' L' := ⟨h.row, Nat.le_trans h.len hL, h.sz, fun k => (h.bn k).up hB, h.ev⟩
theorem PR.congr {w : World} {p : Option Addr} {N : Nat} {F : Nat → Int} {e e' : Int → Int} {B L : Nat} (h : PR w p N F e B L) (he : ∀ x, e x = e' x) : PR w p N F e' B L := ⟨h.row, h.isp.congr he, h.len, h.bn⟩
/-- Two canonical polynomials with the same values are the same. -/
theorem PR.same {w w' : World} {p q : Option Addr} {N M : Nat} {F G : Nat → Int} {e : Int → Int} {B L B' L' : Nat} (h : PR w p N F e B L) (k : PR w' q M G e B' L') : N = M ∧ F = G := h.isp.unique k.isp
theorem ctN_bn {f : Nat → Int} {B : Nat} (h : ∀ k, Bn (f k) B) (n k : Nat) : Bn (ctN f n k) B := by
  unfold ctN; split
  · exact h k
  · exact Bn.zero _
/-- What a canonical result is. -/
def RetPR (e : Int → Int) (B L : Nat) (w : World) (en : Ending) (w' : World) : Prop := ∃ q c N F, en = .returned (.slice q N c) ∧ PR w' q N F e B L ∧ Below w.heap.size w w'
def RetPRE (e : Int → Int) (B L : Nat) (x : Int) (w : World) (en : Ending) (w' : World) : Prop := ∃ q c N F, en = .returned (.tuple #[.slice q N c, .int .i64 x]) ∧ PR w' q N F e B L ∧ Below w.heap.size w w'
theorem retPol_pr {f : Nat → Int} {n : Nat} {e : Int → Int} {B L : Nat} (hL : dgN f n ≤ L) (hB : ∀ k, Bn (f k) B) (he : ∀ x, ypol f n x = e x) {w w' : World} {en : Ending} (h : RetPol (dgN f n) f w en w') : RetPR e B L w en w' := by
  obtain ⟨q, c, rfl, hr, hb⟩ := h
  exact ⟨q, c, _, ctN f (dgN f n), rfl, ⟨hr.congr fun k hk => (if_pos hk).symm, (IsP.of f n).congr he, hL, fun k => ctN_bn hB _ k⟩, hb⟩
theorem canonI (w : World) (p : Option Addr) (n c : Nat) (Z : Nat → ZI) (e : Int → Int) (B L : Nat) (h : PI w p n Z e B L) (hL : L ≤ 1000) :
    Calls Tryd.prog 15 #[.slice p n c] w (RetPR e B L w) := by
  have hl := h.len
  refine (Canonical_any n Z p c (by omega) h.sz w h.row).mono fun en w' hr => ?_
  exact retPol_pr (Nat.le_trans (dgN_le _ _) h.len) h.bn h.ev hr
theorem PI.deg {w : World} {p : Option Addr} {n : Nat} {Z : Nat → ZI} {e : Int → Int} {B L : Nat} (h : PI w p n Z e B L) : IsP (dgN (fun k => valZ (Z k)) n) (ctN (fun k => valZ (Z k)) (dgN (fun k => valZ (Z k)) n)) e := (IsP.of _ n).congr h.ev
theorem degI (w : World) (p : Option Addr) (n c : Nat) (Z : Nat → ZI) (e : Int → Int) (B L : Nat) (h : PI w p n Z e B L) (hL : L ≤ 1000) :
    Calls Tryd.prog 24 #[.slice p n c] w fun en w' => ∃ (N : Nat) (F : Nat → Int), en = .returned (.int .i64 ((N : Int) - 1)) ∧ IsP N F e ∧ N ≤ L ∧ Below w.heap.size w w' := by
  have hl := h.len
  refine (Degree_any n Z p c (by omega) h.sz w h.row).mono fun en w' hr => ?_
  obtain ⟨rfl, hb⟩ := hr
  exact ⟨_, _, rfl, h.deg, Nat.le_trans (dgN_le _ _) h.len, hb⟩
theorem ypol_cf (Z : Nat → ZI) (n K : Nat) (hK : n ≤ K) (x : Int) : ypol (cf Z n) K x = ypol (fun k => valZ (Z k)) n x := by
  rw [ypol_far (n := n) (fun k hk => by unfold cf; rw [if_neg (by omega)]) hK]
  exact ypol_congr x fun k hk => by unfold cf; rw [if_pos hk]
theorem cf_bn {Z : Nat → ZI} {B : Nat} (h : ∀ k, Bn (valZ (Z k)) B) (n k : Nat) : Bn (cf Z n k) B := by
  unfold cf; split
  · exact h k
  · exact Bn.zero _
theorem addI (w : World) (p q : Option Addr) (n m c d : Nat) (Z Y : Nat → ZI) (e e' : Int → Int) (B L : Nat) (h : PI w p n Z e B L) (k : PI w q m Y e' B L) (hL : L ≤ 1000) (hB : B < 700000000) :
    Calls Tryd.prog 26 #[.slice p n c, .slice q m d] w (RetPR (fun x => e x + e' x) (B + 1) L w) := by
  have hl := h.len
  have kl := k.len
  have hb : ∀ j, Bn (cf Z n j + cf Y m j) (B + 1) := fun j => (cf_bn h.bn n j).add (cf_bn k.bn m j)
  have hm := mxN_ge n m
  have hmo := mxN_or n m
  refine (pAdd_any n m Z Y p q c d (by omega) (by omega) h.sz k.sz (fun j _ => (hb j).size _ (by omega)) w h.row k.row).mono fun en w' hr => ?_
  refine retPol_pr (Nat.le_trans (dgN_le _ _) (by omega)) hb (fun x => ?_) hr
  rw [ypol_add (cf Z n) (cf Y m), ypol_cf Z n _ hm.1, ypol_cf Y m _ hm.2, h.ev, k.ev]
theorem subI (w : World) (p q : Option Addr) (n m c d : Nat) (Z Y : Nat → ZI) (e e' : Int → Int) (B L : Nat) (h : PI w p n Z e B L) (k : PI w q m Y e' B L) (hL : L ≤ 1000) (hB : B < 700000000) :
    Calls Tryd.prog 13 #[.slice p n c, .slice q m d] w (RetPR (fun x => e x - e' x) (B + 1) L w) := by
  have hl := h.len
  have kl := k.len
  have hb : ∀ j, Bn (cf Z n j - cf Y m j) (B + 1) := fun j => by
    rw [Int.sub_eq_add_neg]; exact (cf_bn h.bn n j).add (cf_bn k.bn m j).neg
  have hm := mxN_ge n m
  have hmo := mxN_or n m
  refine (pSub_any n m Z Y p q c d (by omega) (by omega) h.sz k.sz (fun j _ => (hb j).size _ (by omega)) w h.row k.row).mono fun en w' hr => ?_
  refine retPol_pr (Nat.le_trans (dgN_le _ _) (by omega)) hb (fun x => ?_) hr
  rw [ypol_congr (d := fun j => cf Z n j + (-1) * cf Y m j) x fun j _ => by omega, ypol_add (cf Z n) (fun j => (-1) * cf Y m j), ypol_smul, ypol_cf Z n _ hm.1, ypol_cf Y m _ hm.2, h.ev, k.ev]
  omega
theorem mR_congr {f g f' g' : Nat → Int} {M : Nat} : ∀ {N : Nat}, (∀ i, i < N → f' i = f i) → (∀ i, i < M → g' i = g i) → ∀ t, mR f' g' M N t = mR f g M N t
  | 0, _, _, _ => rfl
  | N + 1, hf, hg, t => by
    rw [mR, mR, mR_congr (fun i hi => hf i (by omega)) hg t]
    by_cases h : N ≤ t ∧ t < N + M
    · rw [if_pos h, if_pos h, hf N (by omega), hg _ (by omega)]
    · rw [if_neg h, if_neg h]
theorem mulI (w : World) (p q : Option Addr) (n m c d : Nat) (Z Y : Nat → ZI) (e e' : Int → Int) (B B' L L' : Nat) (h : PI w p n Z e B L) (k : PI w q m Y e' B' L') (hL : L + L' ≤ 66) (hB : B ≤ 10000000) (hB' : B' ≤ 10000000) :
    Calls Tryd.prog 16 #[.slice p n c, .slice q m d] w (RetPRE (fun x => e x * e' x) (B + B' + L) (L + L') 0 w) := by
  have hl := h.len
  have kl := k.len
  have hm := pMul_any n m Z Y p q c d (by omega) (by omega) hB hB' h.sz k.sz h.bn k.bn w h.row k.row
  obtain ⟨f, hf⟩ : ∃ f : Nat → Int, (fun k => valZ (Z k)) = f := ⟨_, rfl⟩
  obtain ⟨g, hg⟩ : ∃ f : Nat → Int, (fun k => valZ (Y k)) = f := ⟨_, rfl⟩
  have hi := h.deg
  have ki := k.deg
  have hbf := h.bn
  have hbg := k.bn
  rw [hf] at hm hi
  rw [hg] at hm ki
  have hn1 := dgN_le f n
  have hm1 := dgN_le g m
  obtain ⟨N, hN⟩ : ∃ N, dgN f n = N := ⟨_, rfl⟩
  obtain ⟨M, hM⟩ : ∃ N, dgN g m = N := ⟨_, rfl⟩
  have hf' : ∀ k, Bn (f k) B := fun k => by rw [← hf]; exact hbf k
  have hg' : ∀ k, Bn (g k) B' := fun k => by rw [← hg]; exact hbg k
  refine hm.mono fun en w' hr => ?_
  unfold RetPolE mulN mulC at hr
  rw [hN, hM] at hr
  rw [hN] at hi hn1
  rw [hM] at ki hm1
  obtain ⟨qq, cc, rfl, hrow, hbl⟩ := hr
  by_cases h0 : N = 0 ∨ M = 0
  · rw [if_pos h0] at hrow ⊢
    rw [if_pos h0]
    exact ⟨qq, cc, 0, fun _ => 0, rfl, ⟨.inl rfl, hi.mul0 ki h0, Nat.zero_le _, fun _ => Bn.zero _⟩, hbl⟩
  · have hlen : ¬ 64 + 2 < N + M := by omega
    rw [if_neg h0, if_neg hlen] at hrow ⊢
    rw [if_neg h0, if_neg hlen]
    have hp := hi.mul ki (by omega) (by omega)
    have hmr : ∀ j, mR (ctN f N) (ctN g M) M N j = mR f g M N j := fun j => mR_congr (fun i hi => if_pos hi) (fun i hi => if_pos hi) j
    have hfe : mR (ctN f N) (ctN g M) M N = mR f g M N := funext hmr
    rw [hfe] at hp
    have hd : dgN (mR f g M N) (N + M - 1) = N + M - 1 := by
      obtain ⟨j, hj⟩ : ∃ j, N + M - 1 = j + 1 := ⟨N + M - 2, by omega⟩
      have ht := hp.top (by omega)
      rw [hj, Nat.add_sub_cancel] at ht
      rw [hj, dgN, if_neg ht]
    rw [hd] at hrow ⊢
    exact ⟨qq, cc, _, _, rfl, ⟨hrow, hp, by omega, fun j => (mR_bn hf' hg' N j).up (by omega)⟩, hbl⟩
end Go.Proofs.YteoemijgdcpopaaDoor
namespace Go.Proofs.YteoemijgdcpopaaDoor
open Go.RowKit Go.Shelf
theorem dvLQ_le2 {f g : Nat → Int} {n m : Nat} : dvLQ f g n m ≤ n + 1 - m := by
  unfold dvLQ
  split
  · omega
  · have := dgN_le (dvS f g n m (n - m + 1)).1 (n - m + 1); omega
def RetDvI (ea eb : Int → Int) (g : Int) (k M B L L' : Nat) (w : World) (en : Ending) (w' : World) : Prop :=
  ∃ qq cq pp cp NQ FQ NR FR eq er, en = .returned (.tuple #[.slice qq NQ cq, .slice pp NR cp, .int .i64 0]) ∧ PR w' qq NQ FQ eq B L ∧ PR w' pp NR FR er B L' ∧ (∀ x, g ^ k * ea x = eq x * eb x + er x) ∧ NR < M ∧ Below w.heap.size w w'
theorem PI.dg {w : World} {p : Option Addr} {n : Nat} {Z : Nat → ZI} {e : Int → Int} {B L N : Nat} {F : Nat → Int} (h : PI w p n Z e B L) (hF : IsP N F e) : dgN (fun k => valZ (Z k)) n = N ∧ ctN (fun k => valZ (Z k)) N = F := by
  obtain ⟨h1, h2⟩ := h.deg.unique hF
  rw [h1] at h2
  exact ⟨h1, h2⟩
theorem divI (w : World) (p q : Option Addr) (n m c d : Nat) (Z Y : Nat → ZI) (ea eb : Int → Int) (N M : Nat) (F G : Nat → Int) (B L L' : Nat) (h : PI w p n Z ea B L) (k : PI w q m Y eb B L') (hF : IsP N F ea) (hG : IsP M G eb) (h0 : 0 < M) (hL : L ≤ 65) (hL' : L' ≤ 65) (hB : B ≤ 1000000) :
    Calls Tryd.prog 18 #[.slice p n c, .slice q m d] w (RetDvI ea eb (G (M - 1)) (N + 1 - M) M (B + 66 * (B + 1)) L L' w) := by
  have hl := h.len
  have kl := k.len
  obtain ⟨hn1, hf1⟩ := h.dg hF
  obtain ⟨hm1, hg1⟩ := k.dg hG
  have hb1 := h.bn
  have hb2 := k.bn
  have hd := pDivide_any n m Z Y p q c d (e := B) (by omega) (by omega) h.sz k.sz hb1 hb2 (by omega) w h.row k.row _ _ rfl rfl N M hn1 hm1
  obtain ⟨f, hf⟩ : ∃ f : Nat → Int, (fun k => valZ (Z k)) = f := ⟨_, rfl⟩
  obtain ⟨g, hg⟩ : ∃ f : Nat → Int, (fun k => valZ (Y k)) = f := ⟨_, rfl⟩
  have hbf : ∀ k, Bn (f k) B := fun k => by rw [← hf]; exact hb1 k
  have hbg : ∀ k, Bn (g k) B := fun k => by rw [← hg]; exact hb2 k
  rw [hf] at hd hn1 hf1
  rw [hg] at hd hm1 hg1
  have hN := dgN_le f n
  have hM := dgN_le g m
  have ht := dgN_top f n
  rw [hn1] at hN ht
  rw [hm1] at hM
  have hcode : dvCode N M = 0 := by unfold dvCode; rw [if_neg (by omega), if_neg (by omega)]
  rw [if_pos hcode, if_pos hcode, hcode] at hd
  have hmul : (N - M + 1) * (B + 1) ≤ 66 * (B + 1) := Nat.mul_le_mul_right _ (by omega)
  refine hd.mono fun en w' hr => ?_
  obtain ⟨qq, cq, pp, cp, rfl, hq, hp, hbl⟩ := hr
  refine ⟨qq, cq, pp, cp, _, ctN (dvQ f g N M) (dvLQ f g N M), _, ctN (dvR f g N M) (dvLR f g N M), _, _, rfl, ⟨hq.congr fun k hk => (if_pos hk).symm, IsP.mk' _ _ dvLQ_top, ?_, fun k => ctN_bn (fun k => ((dvS_bn hbf hbg (N - M + 1)).1 k).up (by omega)) _ k⟩, ⟨hp.congr fun k hk => (if_pos hk).symm, IsP.mk' _ _ ?_, ?_, fun k => ctN_bn (fun k => (dvR_bn (n := N) (m := M) hbf hbg k).up (by omega)) _ k⟩, fun x => ?_, ?_, hbl⟩
  · have := dvLQ_le2 (f := f) (g := g) (n := N) (m := M); omega
  · intro h1
    by_cases hnm : N < M
    · unfold dvLR dvR at *
      rw [if_pos hnm] at h1
      rw [if_pos hnm, if_pos hnm]
      exact ht h1
    · exact dvR_top hnm h1
  · by_cases hnm : N < M
    · unfold dvLR; rw [if_pos hnm]; omega
    · have := dvLR_lt (f := f) (g := g) h0 hnm; omega
  · have h1 := dv_ev (f := f) (g := g) (n := N) (m := M) h0 x
    have h2 : G (M - 1) = g (M - 1) := by rw [← hg1]; exact if_pos (by omega)
    rw [h2, ← hF.ev x, ← hG.ev x, ← hf1, ← hg1, ypol_cut, ypol_cut]
    exact h1
  · by_cases hnm : N < M
    · unfold dvLR; rw [if_pos hnm]; exact hnm
    · exact dvLR_lt h0 hnm
theorem div0I (w : World) (p q : Option Addr) (n m c d : Nat) (Z Y : Nat → ZI) (ea eb : Int → Int) (G : Nat → Int) (B L L' : Nat) (h : PI w p n Z ea B L) (k : PI w q m Y eb B L') (hG : IsP 0 G eb) (hL : L ≤ 65) (hL' : L' ≤ 65) (hB : B ≤ 1000000) :
    Calls Tryd.prog 18 #[.slice p n c, .slice q m d] w fun en w' => ∃ qq cq pp cp, en = .returned (.tuple #[.slice qq 0 cq, .slice pp 0 cp, .int .i64 9]) ∧ Below w.heap.size w w' := by
  have hl := h.len
  have kl := k.len
  obtain ⟨hm1, hg1⟩ := k.dg hG
  have hd := pDivide_any n m Z Y p q c d (e := B) (by omega) (by omega) h.sz k.sz h.bn k.bn (by omega) w h.row k.row _ _ rfl rfl _ 0 rfl hm1
  have hN := dgN_le (fun k => valZ (Z k)) n
  have hcode : dvCode (dgN (fun k => valZ (Z k)) n) 0 = 9 := by unfold dvCode; rw [if_neg (by omega), if_pos rfl]
  rw [hcode, if_neg (by decide), if_neg (by decide)] at hd
  refine hd.mono fun en w' hr => ?_
  obtain ⟨qq, cq, pp, cp, rfl, _, _, hbl⟩ := hr
  exact ⟨qq, cq, pp, cp, rfl, hbl⟩
def RetGcI (ea eb : Int → Int) (B L : Nat) (w : World) (en : Ending) (w' : World) : Prop :=
  ∃ q c N H e, en = .returned (.tuple #[.slice q N c, .int .i64 0]) ∧ PR w' q N H e B L ∧ GcP ea eb N H e ∧ Below w.heap.size w w'
theorem gcS_zero (k n : Nat) (f g : Nat → Int) : (gcS k n f 0 g) = (n, f) := gcS_end k n f g
theorem gcS_len : ∀ (k n m : Nat) (f g : Nat → Int) (L : Nat), n ≤ L → m ≤ L → (gcS k n f m g).1 ≤ L
  | 0, n, m, f, g, L, hn, _ => hn
  | k + 1, n, m, f, g, L, hn, hm => by
    rw [gcS]
    split
    · exact hn
    · split
      · exact gcS_len k m n g f L hm hn
      · rename_i h1 h2
        exact gcS_len k m _ g _ L hm (by have := dvLR_lt (f := f) (g := g) (show 0 < m by omega) h2; omega)
theorem gcdI (w : World) (p q : Option Addr) (n m c d : Nat) (Z Y : Nat → ZI) (ea eb : Int → Int) (B L K : Nat) (h : PI w p n Z ea B L) (k : PI w q m Y eb B L) (hL : L ≤ 65) (hK : (B + 1) * 3 ^ (L + 1) ≤ K) (hK2 : K ≤ 100000000) :
    Calls Tryd.prog 20 #[.slice p n c, .slice q m d] w (RetGcI ea eb K L w) := by
  have hl := h.len
  have kl := k.len
  have hb1 := h.bn
  have hb2 := k.bn
  have hfe := h.deg.ev
  have hge := k.deg.ev
  obtain ⟨f, hf⟩ : ∃ f : Nat → Int, (fun k => valZ (Z k)) = f := ⟨_, rfl⟩
  obtain ⟨g, hg⟩ : ∃ f : Nat → Int, (fun k => valZ (Y k)) = f := ⟨_, rfl⟩
  have hbf : ∀ k, Bn (f k) B := fun k => by rw [← hf]; exact hb1 k
  have hbg : ∀ k, Bn (g k) B := fun k => by rw [← hg]; exact hb2 k
  have hN := dgN_le f n
  have hM := dgN_le g m
  have ht := dgN_top f n
  have ht' := dgN_top g m
  rw [hf] at hfe
  rw [hg] at hge
  obtain ⟨N, hn1⟩ : ∃ N, dgN f n = N := ⟨_, rfl⟩
  obtain ⟨M, hm1⟩ : ∃ N, dgN g m = N := ⟨_, rfl⟩
  rw [hn1] at hN ht hfe
  rw [hm1] at hM ht' hge
  have hgB : gcB K N M B := by
    unfold gcB
    refine Nat.le_trans (Nat.mul_le_mul_left _ (Nat.pow_le_pow_right (by decide) ?_)) hK
    split <;> omega
  have hd := pGcd_any n m Z Y p q c d (e := B) (K := K) (by omega) (by omega) h.sz k.sz hb1 hb2 w h.row k.row f g hf hg N M hn1 hm1 hK2 (fun _ _ => hgB)
  have hcode : gcCode N M = 0 := by unfold gcCode; rw [if_neg (by omega)]
  rw [hcode, if_pos rfl] at hd
  refine hd.mono fun en w' hr => ?_
  obtain ⟨qq, cq, rfl, hq, hbl⟩ := hr
  have hiN : IsP N (ctN f N) ea := (IsP.mk' f N ht).congr fun x => by rw [← hfe x, ypol_cut]
  have hiM : IsP M (ctN g M) eb := (IsP.mk' g M ht').congr fun x => by rw [← hge x, ypol_cut]
  have hlen : (gcR f g N M).1 ≤ L := gcS_len _ _ _ _ _ L (by omega) (by omega)
  have he : (∀ x, ypol f N x = ea x) ∧ ∀ x, ypol g M x = eb x := ⟨fun x => by rw [← hfe x, ypol_cut], fun x => by rw [← hge x, ypol_cut]⟩
  by_cases h0 : N = 0 ∧ M = 0
  · obtain ⟨rfl, rfl⟩ := h0
    have h1 : (gcR f g 0 0).1 = 0 := rfl
    rw [h1] at hq ⊢
    exact ⟨qq, cq, 0, fun _ => 0, fun _ => 0, rfl, ⟨.inl rfl, IsP.zero, Nat.zero_le _, fun _ => Bn.zero _⟩, ⟨fun _ _ => rfl, fun h => absurd ⟨hiN.zero_iff.1 rfl, hiM.zero_iff.1 rfl⟩ h, fun h => absurd ⟨hiN.zero_iff.1 rfl, hiM.zero_iff.1 rfl⟩ h⟩, hbl⟩
  · have h1 : 0 < N ∨ 0 < M := by omega
    obtain ⟨hp, hc⟩ := gcR_cd ht ht' h1
    obtain ⟨_, _, E, hE1, hE2⟩ := gcS_out M N M (prC f N) (prC g M) B (Nat.le_refl _) hgB (fun i => prC_bn hbf N i) (fun i => prC_bn hbg M i) (prC_top ht) (prC_top ht') h1
    have hEK : E ≤ K := by
      have h2 : (E + 1) * 1 ≤ (E + 1) * 3 ^ (gcS M N (prC f N) M (prC g M)).1 := Nat.mul_le_mul_left _ (Nat.pow_pos (by decide))
      omega
    refine ⟨qq, cq, _, ctN (gcR f g N M).2 (gcR f g N M).1, _, rfl, ⟨hq.congr fun k hk => (if_pos hk).symm, IsP.mk' _ _ fun _ => ?_, hlen, fun k => ctN_bn (fun i => (hE2 i).up hEK) _ k⟩, ⟨fun ha hb => ?_, fun _ => hp.ct, fun _ => hc.congr he.1 he.2 fun _ => rfl⟩, hbl⟩
    · have := hp.lead; omega
    · have := hiN.zero_iff.2 ha
      have := hiM.zero_iff.2 hb
      omega
def RetDeI (e : Int → Int) (N : Nat) (F : Nat → Int) (B L : Nat) (w : World) (en : Ending) (w' : World) : Prop :=
  ∃ q c H, en = .returned (.slice q (N - 1) c) ∧ PR w' q (N - 1) H (fun x => ypol (deC F) (N - 1) x) B L ∧ Der e (fun x => ypol (deC F) (N - 1) x) ∧ Below w.heap.size w w'
theorem deC_ct (f : Nat → Int) (N : Nat) : ∀ k, k < N - 1 → deC (ctN f N) k = deC f k := fun k hk => by
  unfold deC ctN
  rw [if_pos (by omega)]
theorem derI (w : World) (p : Option Addr) (n c : Nat) (Z : Nat → ZI) (e : Int → Int) (N : Nat) (F : Nat → Int) (B L : Nat) (h : PI w p n Z e B L) (hF : IsP N F e) (hL : L ≤ 1000) (hB : B ≤ 10000000) :
    Calls Tryd.prog 29 #[.slice p n c] w (RetDeI e N F (B + 10) L w) := by
  have hl := h.len
  obtain ⟨hn1, hf1⟩ := h.dg hF
  have hd := pDeriv_any n Z p c (e := B) (by omega) h.sz h.bn hB w h.row _ rfl N hn1
  have hN := dgN_le (fun k => valZ (Z k)) n
  rw [hn1] at hN
  have hb1 := h.bn
  obtain ⟨f, hf⟩ : ∃ f : Nat → Int, (fun k => valZ (Z k)) = f := ⟨_, rfl⟩
  have hbf : ∀ k, Bn (f k) B := fun k => by rw [← hf]; exact hb1 k
  rw [hf] at hd hf1
  refine hd.mono fun en w' hr => ?_
  obtain ⟨q, cq, rfl, hq, hbl⟩ := hr
  have hi := hF.derP
  have hde : ∀ k, k < N - 1 → ctN (deC F) (N - 1) k = deC f k := fun k hk => by
    rw [← hf1]; unfold ctN; rw [if_pos hk]; exact deC_ct f N k hk
  refine ⟨q, cq, ctN (deC F) (N - 1), rfl, ⟨hq.congr fun k hk => (hde k hk).symm, hi, by omega, fun k => ?_⟩, hF.der, hbl⟩
  by_cases hk : k < N - 1
  · rw [hde k hk]; exact deC_bn hbf (by omega)
  · unfold ctN; rw [if_neg hk]; exact Bn.zero _
end Go.Proofs.YteoemijgdcpopaaDoor
