/- Contracts of package polynomial in values: what comes in (PI), what is handed back (PR). -/
import Derived.Test.YteoemijgdcpopaaDoorC19
import Derived.Test.YteoemijgdcpopaaDoorC29
import Derived.Test.YteoemijgdcpopaaDoorC30
namespace Go.Proofs.YteoemijgdcpopaaDoor
open Go.RowKit Go.Shelf
/-- A polynomial that comes in: its values, sizes. -/
structure PI (w : World) (p : Option Addr) (n : Nat) (Z : Nat → ZI) (e : Int → Int) (B L : Nat) : Prop where
  row : GRow w p n Z
  len : n ≤ L
  sz : ∀ k, k < n → (Z k).mag.size ≤ 100000000
  bn : ∀ k, Bn (valZ (Z k)) B
  ev : ∀ x, ypol (fun k => valZ (Z k)) n x = e x
/-- A canonical polynomial. -/
structure PR (w : World) (p : Option Addr) (N : Nat) (F : Nat → Int) (e : Int → Int) (B L : Nat) : Prop where
  row : RowF w p N F
  isp : IsP N F e
  len : N ≤ L
  bn : ∀ k, Bn (F k) B
theorem PI.below {w w' : World} {p : Option Addr} {n : Nat} {Z : Nat → ZI} {e : Int → Int} {B L : Nat} (h : PI w p n Z e B L) (hb : Below w.heap.size w w') : PI w' p n Z e B L := ⟨SlAt.mono h.row (Nat.le_refl _) hb, h.len, h.sz, h.bn, h.ev⟩
theorem PR.below {w w' : World} {p : Option Addr} {N : Nat} {F : Nat → Int} {e : Int → Int} {B L : Nat} (h : PR w p N F e B L) (hb : Below w.heap.size w w') : PR w' p N F e B L := ⟨h.row.below (Nat.le_refl _) hb, h.isp, h.len, h.bn⟩
theorem PR.pi {w : World} {p : Option Addr} {N : Nat} {F : Nat → Int} {e : Int → Int} {B L : Nat} (h : PR w p N F e B L) (hB : B < 800000000) : PI w p N (fun k => canon (F k)) e B L :=
  ⟨h.row, h.len, fun k _ => (h.bn k).size _ (by omega), fun k => by rw [valZ_canon]; exact h.bn k, fun x => by
    rw [show (fun k => valZ (canon (F k))) = F from funext fun _ => valZ_canon _]; exact h.isp.ev x⟩
theorem PI.up {w : World} {p : Option Addr} {n : Nat} {Z : Nat → ZI} {e : Int → Int} {B L L' B' : Nat} (h : PI w p n Z e B L) (hL : L ≤ L') (hB : B ≤ B') : PI w p n Z e B' L' := ⟨h.row, Nat.le_trans h.len hL, h.sz, fun k => (h.bn k).up hB, h.ev⟩
theorem PR.congr {w : World} {p : Option Addr} {N : Nat} {F : Nat → Int} {e e' : Int → Int} {B L : Nat} (h : PR w p N F e B L) (he : ∀ x, e x = e' x) : PR w p N F e' B L := ⟨h.row, h.isp.congr he, h.len, h.bn⟩
/-- Two canonical polynomials with the same values are the same. -/
theorem PR.same {w w' : World} {p q : Option Addr} {N M : Nat} {F G : Nat → Int} {e : Int → Int} {B L B' L' : Nat} (h : PR w p N F e B L) (k : PR w' q M G e B' L') : N = M ∧ F = G := h.isp.unique k.isp
theorem ctN_bn {f : Nat → Int} {B : Nat} (h : ∀ k, Bn (f k) B) (n k : Nat) : Bn (ctN f n k) B := by
  unfold ctN; split
  · exact h k
  · exact Bn.zero _
/-- What a canonical result is. -/
def RetPR (e : Int → Int) (B L : Nat) (w : World) (en : Ending) (w' : World) : Prop := ∃ q c N F, en = .returned (.slice q N c) ∧ PR w' q N F e B L ∧ Below w.heap.size w w'
def RetPRE (e : Int → Int) (B L : Nat) (x : Int) (w : World) (en : Ending) (w' : World) : Prop := ∃ q c N F, en = .returned (.tuple #[.slice q N c, .int .i64 x]) ∧ PR w' q N F e B L ∧ Below w.heap.size w w'
theorem retPol_pr {f : Nat → Int} {n : Nat} {e : Int → Int} {B L : Nat} (hL : dgN f n ≤ L) (hB : ∀ k, Bn (f k) B) (he : ∀ x, ypol f n x = e x) {w w' : World} {en : Ending} (h : RetPol (dgN f n) f w en w') : RetPR e B L w en w' := by
  obtain ⟨q, c, rfl, hr, hb⟩ := h
  exact ⟨q, c, _, ctN f (dgN f n), rfl, ⟨hr.congr fun k hk => (if_pos hk).symm, (IsP.of f n).congr he, hL, fun k => ctN_bn hB _ k⟩, hb⟩
theorem canonI (w : World) (p : Option Addr) (n c : Nat) (Z : Nat → ZI) (e : Int → Int) (B L : Nat) (h : PI w p n Z e B L) (hL : L ≤ 1000) :
    Calls Tryd.prog 15 #[.slice p n c] w (RetPR e B L w) := by
  have hl := h.len
  refine (Canonical_any n Z p c (by omega) h.sz w h.row).mono fun en w' hr => ?_
  exact retPol_pr (Nat.le_trans (dgN_le _ _) h.len) h.bn h.ev hr
theorem PI.deg {w : World} {p : Option Addr} {n : Nat} {Z : Nat → ZI} {e : Int → Int} {B L : Nat} (h : PI w p n Z e B L) : IsP (dgN (fun k => valZ (Z k)) n) (ctN (fun k => valZ (Z k)) (dgN (fun k => valZ (Z k)) n)) e := (IsP.of _ n).congr h.ev
theorem degI (w : World) (p : Option Addr) (n c : Nat) (Z : Nat → ZI) (e : Int → Int) (B L : Nat) (h : PI w p n Z e B L) (hL : L ≤ 1000) :
    Calls Tryd.prog 24 #[.slice p n c] w fun en w' => ∃ (N : Nat) (F : Nat → Int), en = .returned (.int .i64 ((N : Int) - 1)) ∧ IsP N F e ∧ N ≤ L ∧ Below w.heap.size w w' := by
  have hl := h.len
  refine (Degree_any n Z p c (by omega) h.sz w h.row).mono fun en w' hr => ?_
  obtain ⟨rfl, hb⟩ := hr
  exact ⟨_, _, rfl, h.deg, Nat.le_trans (dgN_le _ _) h.len, hb⟩
theorem ypol_cf (Z : Nat → ZI) (n K : Nat) (hK : n ≤ K) (x : Int) : ypol (cf Z n) K x = ypol (fun k => valZ (Z k)) n x := by
  rw [ypol_far (n := n) (fun k hk => by unfold cf; rw [if_neg (by omega)]) hK]
  exact ypol_congr x fun k hk => by unfold cf; rw [if_pos hk]
theorem cf_bn {Z : Nat → ZI} {B : Nat} (h : ∀ k, Bn (valZ (Z k)) B) (n k : Nat) : Bn (cf Z n k) B := by
  unfold cf; split
  · exact h k
  · exact Bn.zero _
theorem addI (w : World) (p q : Option Addr) (n m c d : Nat) (Z Y : Nat → ZI) (e e' : Int → Int) (B L : Nat) (h : PI w p n Z e B L) (k : PI w q m Y e' B L) (hL : L ≤ 1000) (hB : B < 700000000) :
    Calls Tryd.prog 26 #[.slice p n c, .slice q m d] w (RetPR (fun x => e x + e' x) (B + 1) L w) := by
  have hl := h.len
  have kl := k.len
  have hb : ∀ j, Bn (cf Z n j + cf Y m j) (B + 1) := fun j => (cf_bn h.bn n j).add (cf_bn k.bn m j)
  have hm := mxN_ge n m
  have hmo := mxN_or n m
  refine (pAdd_any n m Z Y p q c d (by omega) (by omega) h.sz k.sz (fun j _ => (hb j).size _ (by omega)) w h.row k.row).mono fun en w' hr => ?_
  refine retPol_pr (Nat.le_trans (dgN_le _ _) (by omega)) hb (fun x => ?_) hr
  rw [ypol_add (cf Z n) (cf Y m), ypol_cf Z n _ hm.1, ypol_cf Y m _ hm.2, h.ev, k.ev]
theorem subI (w : World) (p q : Option Addr) (n m c d : Nat) (Z Y : Nat → ZI) (e e' : Int → Int) (B L : Nat) (h : PI w p n Z e B L) (k : PI w q m Y e' B L) (hL : L ≤ 1000) (hB : B < 700000000) :
    Calls Tryd.prog 13 #[.slice p n c, .slice q m d] w (RetPR (fun x => e x - e' x) (B + 1) L w) := by
  have hl := h.len
  have kl := k.len
  have hb : ∀ j, Bn (cf Z n j - cf Y m j) (B + 1) := fun j => by
    rw [Int.sub_eq_add_neg]; exact (cf_bn h.bn n j).add (cf_bn k.bn m j).neg
  have hm := mxN_ge n m
  have hmo := mxN_or n m
  refine (pSub_any n m Z Y p q c d (by omega) (by omega) h.sz k.sz (fun j _ => (hb j).size _ (by omega)) w h.row k.row).mono fun en w' hr => ?_
  refine retPol_pr (Nat.le_trans (dgN_le _ _) (by omega)) hb (fun x => ?_) hr
  rw [ypol_congr (d := fun j => cf Z n j + (-1) * cf Y m j) x fun j _ => by omega, ypol_add (cf Z n) (fun j => (-1) * cf Y m j), ypol_smul, ypol_cf Z n _ hm.1, ypol_cf Y m _ hm.2, h.ev, k.ev]
  omega
theorem mR_congr {f g f' g' : Nat → Int} {M : Nat} : ∀ {N : Nat}, (∀ i, i < N → f' i = f i) → (∀ i, i < M → g' i = g i) → ∀ t, mR f' g' M N t = mR f g M N t
  | 0, _, _, _ => rfl
  | N + 1, hf, hg, t => by
    rw [mR, mR, mR_congr (fun i hi => hf i (by omega)) hg t]
    by_cases h : N ≤ t ∧ t < N + M
    · rw [if_pos h, if_pos h, hf N (by omega), hg _ (by omega)]
    · rw [if_neg h, if_neg h]
theorem mulI (w : World) (p q : Option Addr) (n m c d : Nat) (Z Y : Nat → ZI) (e e' : Int → Int) (B B' L L' : Nat) (h : PI w p n Z e B L) (k : PI w q m Y e' B' L') (hL : L + L' ≤ 66) (hB : B ≤ 10000000) (hB' : B' ≤ 10000000) :
    Calls Tryd.prog 16 #[.slice p n c, .slice q m d] w (RetPRE (fun x => e x * e' x) (B + B' + L) (L + L') 0 w) := by
  have hl := h.len
  have kl := k.len
  have hm := pMul_any n m Z Y p q c d (by omega) (by omega) hB hB' h.sz k.sz h.bn k.bn w h.row k.row
  obtain ⟨f, hf⟩ : ∃ f : Nat → Int, (fun k => valZ (Z k)) = f := ⟨_, rfl⟩
  obtain ⟨g, hg⟩ : ∃ f : Nat → Int, (fun k => valZ (Y k)) = f := ⟨_, rfl⟩
  have hi := h.deg
  have ki := k.deg
  have hbf := h.bn
  have hbg := k.bn
  rw [hf] at hm hi
  rw [hg] at hm ki
  have hn1 := dgN_le f n
  have hm1 := dgN_le g m
  obtain ⟨N, hN⟩ : ∃ N, dgN f n = N := ⟨_, rfl⟩
  obtain ⟨M, hM⟩ : ∃ N, dgN g m = N := ⟨_, rfl⟩
  have hf' : ∀ k, Bn (f k) B := fun k => by rw [← hf]; exact hbf k
  have hg' : ∀ k, Bn (g k) B' := fun k => by rw [← hg]; exact hbg k
  refine hm.mono fun en w' hr => ?_
  unfold RetPolE mulN mulC at hr
  rw [hN, hM] at hr
  rw [hN] at hi hn1
  rw [hM] at ki hm1
  obtain ⟨qq, cc, rfl, hrow, hbl⟩ := hr
  by_cases h0 : N = 0 ∨ M = 0
  · rw [if_pos h0] at hrow ⊢
    rw [if_pos h0]
    exact ⟨qq, cc, 0, fun _ => 0, rfl, ⟨.inl rfl, hi.mul0 ki h0, Nat.zero_le _, fun _ => Bn.zero _⟩, hbl⟩
  · have hlen : ¬ 64 + 2 < N + M := by omega
    rw [if_neg h0, if_neg hlen] at hrow ⊢
    rw [if_neg h0, if_neg hlen]
    have hp := hi.mul ki (by omega) (by omega)
    have hmr : ∀ j, mR (ctN f N) (ctN g M) M N j = mR f g M N j := fun j => mR_congr (fun i hi => if_pos hi) (fun i hi => if_pos hi) j
    have hfe : mR (ctN f N) (ctN g M) M N = mR f g M N := funext hmr
    rw [hfe] at hp
    have hd : dgN (mR f g M N) (N + M - 1) = N + M - 1 := by
      obtain ⟨j, hj⟩ : ∃ j, N + M - 1 = j + 1 := ⟨N + M - 2, by omega⟩
      have ht := hp.top (by omega)
      rw [hj, Nat.add_sub_cancel] at ht
      rw [hj, dgN, if_neg ht]
    rw [hd] at hrow ⊢
    exact ⟨qq, cc, _, _, rfl, ⟨hrow, hp, by omega, fun j => (mR_bn hf' hg' N j).up (by omega)⟩, hbl⟩
end Go.Proofs.YteoemijgdcpopaaDoor
