/- The contracts at square matrices of up to 4 rows. Powers, columns, determinants and characteristic polynomials of square matrices of up to 4 rows. -/
import Derived.Test.YtlkoiekdafaapaaFin
namespace Go.Proofs.Ytlkoiekdafaapaa
open Go.RowKit Go.Shelf

/-- A square matrix in memory, with numbers of at most e bits. -/
structure Sq (W : World) (v : Value) (n : Nat) (F : Nat → Nat → Int) (e : Nat) : Prop where
  val : ∃ p c, v = .slice p n c ∧ MatF W p n n F
  bn : BnM n n F e
theorem Sq.below {W W' : World} {v : Value} {n e : Nat} {F : Nat → Nat → Int} (h : Sq W v n F e) (hb : Below W.heap.size W W') : Sq W' v n F e := by
  obtain ⟨⟨p, c, hv, hM⟩, h2⟩ := h
  exact ⟨⟨p, c, hv, hM.below (Nat.le_refl _) hb⟩, h2⟩
theorem absZ_bn {z : ZI} {k : Nat} (h : z.mag.size ≤ k) : Bn (valZ z) (8 * k) := by
  have h1 := absZ_lt z
  have h2 : (valZ z).natAbs = absZ z := by
    unfold valZ
    split <;> omega
  unfold Bn
  rw [h2]
  refine Nat.le_of_lt (Nat.lt_of_lt_of_le h1 ?_)
  rw [show (256 : Nat) = 2 ^ 8 from rfl, ← Nat.pow_mul]
  exact Nat.pow_le_pow_right (by decide) (by omega)
/-- What fine says. -/
theorem fine_says {m : GM} {n : Nat} (h : fineB m n = true) : m.r = n ∧ 0 < n ∧ n ≤ 4 ∧ m.chk = 0 ∧ m.L 0 = n ∧ BnM n n m.F 24 ∧ m.Fit := by
  unfold fineB at h
  simp only [Bool.and_eq_true, decide_eq_true_eq, Bool.not_eq_true'] at h
  obtain ⟨⟨⟨⟨h1, h2⟩, h3⟩, h4⟩, h5⟩ := h
  have hr : m.r = n := by omega
  have hl : m.L 0 = n := by omega
  obtain ⟨hf, hz, hd⟩ := GM.gt_fit h4
  obtain ⟨c1, c2, c3, c4, c5, c6⟩ := GM.chk_zero h5
  refine ⟨hr, by omega, by omega, h5, hl, fun i k hi hk => ?_, hf⟩
  have := absZ_bn (hz i (by omega) k (by rw [c5 i (by omega)]; omega))
  exact this
theorem fine_sq {m : GM} {n : Nat} {w : World} {p : Option Addr} (cp : Nat) (h : fineB m n = true) (hm : m.At w p) : Sq w (.slice p m.r cp) n m.F 24 := by
  obtain ⟨h1, h2, h3, h4, h5, h6, h7⟩ := fine_says h
  have hM := GM.mat hm h4
  rw [h1, h5] at hM
  exact ⟨⟨p, cp, by rw [h1], hM⟩, h6⟩
def RetSq (n : Nat) (F : Nat → Nat → Int) (e : Nat) (w : World) (en : Ending) (w' : World) : Prop := ∃ v, en = .returned (.tuple #[v, .int .i64 0]) ∧ Sq w' v n F e ∧ Below w.heap.size w w'
theorem two_pow {n : Nat} (h : n ≤ 4) : n ≤ 2 ^ 2 := h
theorem gmF_sq {n : Nat} (F : Nat → Nat → Int) (h1 : 0 < n) (h4 : n ≤ 32) : (gmF n n F).sq = 0 := by
  unfold GM.sq
  rw [if_neg (by rw [gmF_chk n n F h1 h4 h1 h4]; decide), if_neg (by show ¬ n ≠ n; simp)]
theorem gmF_Fe (r c : Nat) (F : Nat → Nat → Int) : (gmF r c F).F = F := by
  funext i k
  exact gmF_F r c F i k
theorem sq_mul {n : Nat} (h1 : 0 < n) (h4 : n ≤ 4) {W : World} {v u : Value} {F G : Nat → Nat → Int} {e f : Nat} (hv : Sq W v n F e) (hu : Sq W u n G f) (he : e + f + 2 < 8 * 100000000) :
    Calls Try.prog 28 #[v, u] W (RetSq n (mulF n F G) (e + f + 2) W) := by
  obtain ⟨⟨p, c, rfl, hM⟩, hb⟩ := hv
  obtain ⟨⟨q, d, rfl, hN⟩, hd⟩ := hu
  have hz : mulE (gmF n n F) (gmF n n G) = 0 := by
    unfold mulE
    rw [gmF_chk n n F h1 (by omega) h1 (by omega), gmF_chk n n G h1 (by omega) h1 (by omega), if_neg (by decide), if_neg (by show ¬ n ≠ n; simp)]
  refine (mul_m (gmF n n F) (gmF n n G) p q c d (gmF_fit n n F (by omega) (by omega) (hb.small (by omega))) (gmF_fit n n G (by omega) (by omega) (hd.small (by omega))) (fun _ => ?_) W (gmF_at hM) (gmF_at hN)).mono ?_
  · rw [gmF_Fe, gmF_Fe]
    exact ⟨hb.small (by omega), hd.small (by omega), hb.smallP hd (two_pow h4) he⟩
  · rintro en w' hr
    rw [hz, gmF_Fe, gmF_Fe] at hr
    obtain ⟨q, k, rfl, hM, hbw⟩ := hr.ok
    exact ⟨_, rfl, ⟨⟨q, k, rfl, hM⟩, hb.mul hd (two_pow h4)⟩, hbw⟩
theorem sq_add {n : Nat} (h1 : 0 < n) (h4 : n ≤ 4) {W : World} {v u : Value} {F G : Nat → Nat → Int} {e : Nat} (hv : Sq W v n F e) (hu : Sq W u n G e) (he : e + 1 < 8 * 100000000) :
    Calls Try.prog 46 #[v, u] W (RetSq n (fun i k => F i k + G i k) (e + 1) W) := by
  obtain ⟨⟨p, c, rfl, hM⟩, hb⟩ := hv
  obtain ⟨⟨q, d, rfl, hN⟩, hd⟩ := hu
  have hz : addE (gmF n n F) (gmF n n G) = 0 := by
    unfold addE
    rw [gmF_chk n n F h1 (by omega) h1 (by omega), gmF_chk n n G h1 (by omega) h1 (by omega), if_neg (by decide), if_neg (by show ¬ ¬ (n = n ∧ n = n); simp)]
  refine (add_m (gmF n n F) (gmF n n G) p q c d (gmF_fit n n F (by omega) (by omega) (hb.small (by omega))) (gmF_fit n n G (by omega) (by omega) (hd.small (by omega))) (fun _ => ?_) W (gmF_at hM) (gmF_at hN)).mono ?_
  · rw [gmF_Fe, gmF_Fe]
    exact ⟨hb.small (by omega), hd.small (by omega)⟩
  · rintro en w' hr
    rw [hz, gmF_Fe, gmF_Fe] at hr
    obtain ⟨q, k, rfl, hM, hbw⟩ := hr.ok
    exact ⟨_, rfl, ⟨⟨q, k, rfl, hM⟩, hb.add hd⟩, hbw⟩
theorem sq_tr {n : Nat} (h1 : 0 < n) (h4 : n ≤ 4) {W : World} {v : Value} {F : Nat → Nat → Int} {e : Nat} (hv : Sq W v n F e) (he : e < 8 * 100000000) :
    Calls Try.prog 30 #[v] W (RetSq n (fun i k => F k i) e W) := by
  obtain ⟨⟨p, c, rfl, hM⟩, hb⟩ := hv
  have hz : trE (gmF n n F) = 0 := by
    unfold trE
    rw [gmF_chk n n F h1 (by omega) h1 (by omega), if_neg (by decide)]
  refine (tr_m (gmF n n F) p c (gmF_fit n n F (by omega) (by omega) (hb.small (by omega))) W (gmF_at hM)).mono ?_
  rintro en w' hr
  rw [hz, gmF_Fe] at hr
  obtain ⟨q, k, rfl, hM, hbw⟩ := hr.ok
  exact ⟨_, rfl, ⟨⟨q, k, rfl, hM⟩, fun i k hi hk => hb k i hk hi⟩, hbw⟩
theorem sq_one {n : Nat} (h1 : 0 < n) (h4 : n ≤ 4) (W : World) :
    Calls Try.prog 35 #[.int .i64 (n : Int)] W (RetSq n oneF 0 W) := by
  refine (identity_any n W).mono ?_
  rintro en w' hr
  rw [if_neg (by omega), Int.toNat_natCast] at hr
  obtain ⟨q, k, rfl, hM, hbw⟩ := hr.ok
  refine ⟨_, rfl, ⟨⟨q, k, rfl, hM⟩, fun i k hi hk => ?_⟩, hbw⟩
  show Bn (if i = k then 1 else 0) 0
  split
  · exact Bn.one _
  · exact Bn.zero _
/-- ref.Same at two matrices that are the same. -/
theorem sq_same {n : Nat} (h4 : n ≤ 4) {W : World} {v u : Value} {F G : Nat → Nat → Int} {e f : Nat} (hv : Sq W v n F e) (hu : Sq W u n G f) (hFG : ∀ i k, i < n → k < n → F i k = G i k) :
    Calls Try.prog 17 #[v, u] W (RetB true W) := by
  obtain ⟨⟨p, c, rfl, hM⟩, _⟩ := hv
  obtain ⟨⟨q, d, rfl, hN⟩, _⟩ := hu
  exact same_true n n p q c d F (by omega) (by omega) W hM (hN.congr fun i k hi hk => (hFG i k hi hk).symm)
end Go.Proofs.Ytlkoiekdafaapaa

namespace Go.Proofs.Ytlkoiekdafaapaa
open Go.RowKit Go.Shelf

theorem bitsN_small {v : Nat} (h : v < 256 ^ 4) : bitsN v ≤ 32 := by
  have h1 := digs_le _ _ h
  unfold bitsN
  split
  · omega
  · have h2 : Lib.bitLen ((digs v).getD ((digs v).length - 1) 0) ≤ 32 := Lib.bitLen_le _ 32 (by decide) ((dg_digs v).getD _)
    have h3 : (digs v).length ≤ 1 := by omega
    omega
theorem sq_pow {n : Nat} (h1 : 0 < n) (h4 : n ≤ 4) {W : World} {v : Value} {F : Nat → Nat → Int} {e : Nat} (N : Nat) (hv : Sq W v n F e) (he : e ≤ 24) (hN : N ≤ 100) :
    Calls Try.prog 15 #[v, .int .i64 (N : Int)] W (RetSq n (powF n F N) (N * (e + 2)) W) := by
  obtain ⟨⟨p, c, rfl, hM⟩, hb⟩ := hv
  have hmx : mxM (bitM F) n n ≤ 32 := mxM_le fun i k hi hk => bitsN_small (Nat.lt_of_le_of_lt (hb i k hi hk) (by
    rw [show (256 : Nat) ^ 4 = 2 ^ 32 from rfl]
    exact Nat.pow_lt_pow_right (by decide) (by omega)))
  have hbn : bitsN n ≤ 32 := bitsN_small (by omega)
  have hz : powE (gmF n n F) (N : Int) = 0 := by
    unfold powE
    rw [gmF_sq F h1 (by omega), gmF_Fe, if_neg (by decide), if_neg (by omega), if_neg]
    show ¬ 65536 < ((mxM (bitM F) n n + bitsN n : Nat) : Int) * (N : Int)
    have h5 : (mxM (bitM F) n n + bitsN n) * N ≤ 64 * 100 := Nat.mul_le_mul (by omega) hN
    have h6 : ((mxM (bitM F) n n + bitsN n : Nat) : Int) * (N : Int) = (((mxM (bitM F) n n + bitsN n) * N : Nat) : Int) := by push_cast; rfl
    rw [h6]
    omega
  have hs : N * (e + 2) ≤ 100 * 26 := Nat.mul_le_mul hN (by omega)
  refine (pow_m (gmF n n F) p c N (gmF_fit n n F (by omega) (by omega) (hb.small (by omega))) (fun _ => ?_) W (gmF_at hM)).mono ?_
  · rw [gmF_Fe, Int.toNat_natCast]
    exact powOk_of hb (two_pow h4) (by omega)
  · rintro en w' hr
    rw [hz, gmF_Fe, Int.toNat_natCast] at hr
    obtain ⟨q, k, rfl, hM, hbw⟩ := hr.ok
    exact ⟨_, rfl, ⟨⟨q, k, rfl, hM⟩, powF_bn hb (two_pow h4) N⟩, hbw⟩
/-- A column in memory. -/
structure Rw (W : World) (v : Value) (n : Nat) (f : Nat → Int) (e : Nat) : Prop where
  val : ∃ p c, v = .slice p n c ∧ RowF W p n f
  bn : ∀ k, k < n → Bn (f k) e
theorem Rw.below {W W' : World} {v : Value} {n e : Nat} {f : Nat → Int} (h : Rw W v n f e) (hb : Below W.heap.size W W') : Rw W' v n f e := by
  obtain ⟨⟨p, c, hv, hM⟩, h2⟩ := h
  exact ⟨⟨p, c, hv, hM.below (Nat.le_refl _) hb⟩, h2⟩
def RetRw (n : Nat) (f : Nat → Int) (e : Nat) (w : World) (en : Ending) (w' : World) : Prop := ∃ v, en = .returned (.tuple #[v, .int .i64 0]) ∧ Rw w' v n f e ∧ Below w.heap.size w w'
theorem sq_app {n : Nat} (h1 : 0 < n) (h4 : n ≤ 4) {W : World} {v u : Value} {F : Nat → Nat → Int} {f : Nat → Int} {e g : Nat} (hv : Sq W v n F e) (hu : Rw W u n f g) (he : e + g + 2 < 8 * 100000000) :
    Calls Try.prog 29 #[v, u] W (RetRw n (fun i => dotN (fun j => F i j * f j) n) (e + g + 2) W) := by
  obtain ⟨⟨p, c, rfl, hM⟩, hb⟩ := hv
  obtain ⟨⟨q, d, rfl, hR⟩, hg⟩ := hu
  have hz : applyE (gmF n n F) n (fun k => canon (f k)) = 0 := by
    unfold applyE
    rw [gmF_chk n n F h1 (by omega) h1 (by omega), if_neg, if_neg (by show ¬ n ≠ n; simp)]
    have : anyN (fun k => !okZ (canon (f k))) n = false := anyN_false.2 fun k _ => by simp [okZ, valZ_canon]
    rw [this]; decide
  refine (apply_m (gmF n n F) p c q n d (fun k => canon (f k)) (gmF_fit n n F (by omega) (by omega) (hb.small (by omega))) (by omega) (fun k hk => (hg k hk).size _ (by omega)) (fun _ => ?_) W (gmF_at hM) hR).mono ?_
  · simp only [gmF_Fe, valZ_canon]
    exact ⟨hb.small (by omega), BnM.smallP (r := n) (n := n) (c := 1) hb (fun i k hi _ => hg i hi) (two_pow h4) he⟩
  · rintro en w' hr
    rw [hz] at hr
    simp only [gmF_Fe, valZ_canon] at hr
    obtain ⟨q, k, rfl, hM, hbw⟩ := hr.ok
    exact ⟨_, rfl, ⟨⟨q, k, rfl, hM⟩, fun i hi => Bn.dot n (two_pow h4) fun j hj => (hb i j hi hj).mul (hg j hj)⟩, hbw⟩
theorem rw_same {n : Nat} (h4 : n ≤ 100) {W : World} {v u : Value} {f g : Nat → Int} {d e : Nat} (hv : Rw W v n f d) (hu : Rw W u n g e) (hfg : ∀ k, k < n → f k = g k) :
    Calls Try.prog 24 #[v, u] W (RetB true W) := by
  obtain ⟨⟨p, c, rfl, hM⟩, _⟩ := hv
  obtain ⟨⟨q, d, rfl, hN⟩, _⟩ := hu
  exact sameRow_true n p q c d f (by omega) W hM (hN.congr fun k hk => (hfg k hk).symm)
theorem chr_sq {n : Nat} (h4 : n ≤ 4) {F : Nat → Nat → Int} {e : Nat} (hb : BnM n n F e) (he : e ≤ 1000) : ChrOk n F :=
  chrOk_of hb (two_pow h4) (by
    have : n * (e + 2 + 2 + 1) ≤ 4 * 1005 := Nat.mul_le_mul h4 (by omega)
    omega)
theorem sq_det {n : Nat} (h1 : 0 < n) (h4 : n ≤ 4) {W : World} {v : Value} {F : Nat → Nat → Int} {e : Nat} (hv : Sq W v n F e) (he : e ≤ 1000) :
    Calls Try.prog 18 #[v] W (RetNumE 0 (detL n F) W) := by
  obtain ⟨⟨p, c, rfl, hM⟩, hb⟩ := hv
  refine (det_any (gmF n n F) p c (gmF_fit n n F (by omega) (by omega) (hb.small (by omega))) (fun _ => by rw [gmF_Fe]; exact chr_sq h4 hb he) W (gmF_at hM)).mono ?_
  rintro en w' hr
  rw [gmF_sq F h1 (by omega), gmF_Fe] at hr
  have : detC n F = detL n F := by
    unfold detC
    rw [chrP_zero h1, chr_det n h1 h4]
    unfold sgF
    split <;> omega
  rw [show (gmF n n F).r = n from rfl, this] at hr
  exact hr
theorem sq_chr {n : Nat} (h1 : 0 < n) (h4 : n ≤ 4) {W : World} {v : Value} {F : Nat → Nat → Int} {e : Nat} (hv : Sq W v n F e) (he : e ≤ 1000) :
    Calls Try.prog 22 #[v] W (RetRw (n + 1) (chrP n F n) 100000 W) := by
  obtain ⟨⟨p, c, rfl, hM⟩, hb⟩ := hv
  refine (charac_any (gmF n n F) p c (gmF_fit n n F (by omega) (by omega) (hb.small (by omega))) (fun _ => by rw [gmF_Fe]; exact chr_sq h4 hb he) W (gmF_at hM)).mono ?_
  rintro en w' hr
  rw [gmF_sq F h1 (by omega), gmF_Fe] at hr
  obtain ⟨q, k, rfl, hM, hbw⟩ := hr.ok
  refine ⟨_, rfl, ⟨⟨q, k, rfl, hM⟩, fun m hm => ?_⟩, hbw⟩
  show Bn (chrP n F n m) 100000
  unfold chrP
  split
  · exact Bn.one _
  · split
    · have h5 : (n - 1 - m) * (e + 2 + 2 + 1) ≤ 4 * 1005 := Nat.mul_le_mul (by omega) (by omega)
      exact (chrC_bn hb (two_pow h4) (n - 1 - m) (chrM_bn hb (two_pow h4) _)).up (by omega)
    · exact Bn.zero _
end Go.Proofs.Ytlkoiekdafaapaa
