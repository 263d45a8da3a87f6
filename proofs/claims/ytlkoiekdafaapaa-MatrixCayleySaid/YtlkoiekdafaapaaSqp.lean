/- Powers, columns, determinants and characteristic polynomials of square matrices of up to 4 rows. -/
import Derived.Test.YtlkoiekdafaapaaSqr
namespace Go.Proofs.Ytlkoiekdafaapaa
open Go.RowKit Go.Shelf

theorem bitsN_small {v : Nat} (h : v < 256 ^ 4) : bitsN v ≤ 32 := by
  have h1 := digs_le _ _ h
  unfold bitsN
  split
  · omega
  · have h2 : Lib.bitLen ((digs v).getD ((digs v).length - 1) 0) ≤ 32 := Lib.bitLen_le _ 32 (by decide) ((dg_digs v).getD _)
    have h3 : (digs v).length ≤ 1 := by omega
    omega
theorem sq_pow {n : Nat} (h1 : 0 < n) (h4 : n ≤ 4) {W : World} {v : Value} {F : Nat → Nat → Int} {e : Nat} (N : Nat) (hv : Sq W v n F e) (he : e ≤ 24) (hN : N ≤ 100) :
    Calls Try.prog 15 #[v, .int .i64 (N : Int)] W (RetSq n (powF n F N) (N * (e + 2)) W) := by
  obtain ⟨⟨p, c, rfl, hM⟩, hb⟩ := hv
  have hmx : mxM (bitM F) n n ≤ 32 := mxM_le fun i k hi hk => bitsN_small (Nat.lt_of_le_of_lt (hb i k hi hk) (by
    rw [show (256 : Nat) ^ 4 = 2 ^ 32 from rfl]
    exact Nat.pow_lt_pow_right (by decide) (by omega)))
  have hbn : bitsN n ≤ 32 := bitsN_small (by omega)
  have hz : powE (gmF n n F) (N : Int) = 0 := by
    unfold powE
    rw [gmF_sq F h1 (by omega), gmF_Fe, if_neg (by decide), if_neg (by omega), if_neg]
    show ¬ 65536 < ((mxM (bitM F) n n + bitsN n : Nat) : Int) * (N : Int)
    have h5 : (mxM (bitM F) n n + bitsN n) * N ≤ 64 * 100 := Nat.mul_le_mul (by omega) hN
    have h6 : ((mxM (bitM F) n n + bitsN n : Nat) : Int) * (N : Int) = (((mxM (bitM F) n n + bitsN n) * N : Nat) : Int) := by push_cast; rfl
    rw [h6]
    omega
  have hs : N * (e + 2) ≤ 100 * 26 := Nat.mul_le_mul hN (by omega)
  refine (pow_m (gmF n n F) p c N (gmF_fit n n F (by omega) (by omega) (hb.small (by omega))) (fun _ => ?_) W (gmF_at hM)).mono ?_
  · rw [gmF_Fe, Int.toNat_natCast]
    exact powOk_of hb (two_pow h4) (by omega)
  · rintro en w' hr
    rw [hz, gmF_Fe, Int.toNat_natCast] at hr
    obtain ⟨q, k, rfl, hM, hbw⟩ := hr.ok
    exact ⟨_, rfl, ⟨⟨q, k, rfl, hM⟩, powF_bn hb (two_pow h4) N⟩, hbw⟩
/-- A column in memory. -/
structure Rw (W : World) (v : Value) (n : Nat) (f : Nat → Int) (e : Nat) : Prop where
  val : ∃ p c, v = .slice p n c ∧ RowF W p n f
  bn : ∀ k, k < n → Bn (f k) e
theorem Rw.below {W W' : World} {v : Value} {n e : Nat} {f : Nat → Int} (h : Rw W v n f e) (hb : Below W.heap.size W W') : Rw W' v n f e := by
  obtain ⟨⟨p, c, hv, hM⟩, h2⟩ := h
  exact ⟨⟨p, c, hv, hM.below (Nat.le_refl _) hb⟩, h2⟩
def RetRw (n : Nat) (f : Nat → Int) (e : Nat) (w : World) (en : Ending) (w' : World) : Prop := ∃ v, en = .returned (.tuple #[v, .int .i64 0]) ∧ Rw w' v n f e ∧ Below w.heap.size w w'
theorem sq_app {n : Nat} (h1 : 0 < n) (h4 : n ≤ 4) {W : World} {v u : Value} {F : Nat → Nat → Int} {f : Nat → Int} {e g : Nat} (hv : Sq W v n F e) (hu : Rw W u n f g) (he : e + g + 2 < 8 * 100000000) :
    Calls Try.prog 29 #[v, u] W (RetRw n (fun i => dotN (fun j => F i j * f j) n) (e + g + 2) W) := by
  obtain ⟨⟨p, c, rfl, hM⟩, hb⟩ := hv
  obtain ⟨⟨q, d, rfl, hR⟩, hg⟩ := hu
  have hz : applyE (gmF n n F) n (fun k => canon (f k)) = 0 := by
    unfold applyE
    rw [gmF_chk n n F h1 (by omega) h1 (by omega), if_neg, if_neg (by show ¬ n ≠ n; simp)]
    have : anyN (fun k => !okZ (canon (f k))) n = false := anyN_false.2 fun k _ => by simp [okZ, valZ_canon]
    rw [this]; decide
  refine (apply_m (gmF n n F) p c q n d (fun k => canon (f k)) (gmF_fit n n F (by omega) (by omega) (hb.small (by omega))) (by omega) (fun k hk => (hg k hk).size _ (by omega)) (fun _ => ?_) W (gmF_at hM) hR).mono ?_
  · simp only [gmF_Fe, valZ_canon]
    exact ⟨hb.small (by omega), BnM.smallP (r := n) (n := n) (c := 1) hb (fun i k hi _ => hg i hi) (two_pow h4) he⟩
  · rintro en w' hr
    rw [hz] at hr
    simp only [gmF_Fe, valZ_canon] at hr
    obtain ⟨q, k, rfl, hM, hbw⟩ := hr.ok
    exact ⟨_, rfl, ⟨⟨q, k, rfl, hM⟩, fun i hi => Bn.dot n (two_pow h4) fun j hj => (hb i j hi hj).mul (hg j hj)⟩, hbw⟩
theorem rw_same {n : Nat} (h4 : n ≤ 100) {W : World} {v u : Value} {f g : Nat → Int} {d e : Nat} (hv : Rw W v n f d) (hu : Rw W u n g e) (hfg : ∀ k, k < n → f k = g k) :
    Calls Try.prog 24 #[v, u] W (RetB true W) := by
  obtain ⟨⟨p, c, rfl, hM⟩, _⟩ := hv
  obtain ⟨⟨q, d, rfl, hN⟩, _⟩ := hu
  exact sameRow_true n p q c d f (by omega) W hM (hN.congr fun k hk => (hfg k hk).symm)
theorem chr_sq {n : Nat} (h4 : n ≤ 4) {F : Nat → Nat → Int} {e : Nat} (hb : BnM n n F e) (he : e ≤ 1000) : ChrOk n F :=
  chrOk_of hb (two_pow h4) (by
    have : n * (e + 2 + 2 + 1) ≤ 4 * 1005 := Nat.mul_le_mul h4 (by omega)
    omega)
theorem sq_det {n : Nat} (h1 : 0 < n) (h4 : n ≤ 4) {W : World} {v : Value} {F : Nat → Nat → Int} {e : Nat} (hv : Sq W v n F e) (he : e ≤ 1000) :
    Calls Try.prog 18 #[v] W (RetNumE 0 (detL n F) W) := by
  obtain ⟨⟨p, c, rfl, hM⟩, hb⟩ := hv
  refine (det_any (gmF n n F) p c (gmF_fit n n F (by omega) (by omega) (hb.small (by omega))) (fun _ => by rw [gmF_Fe]; exact chr_sq h4 hb he) W (gmF_at hM)).mono ?_
  rintro en w' hr
  rw [gmF_sq F h1 (by omega), gmF_Fe] at hr
  have : detC n F = detL n F := by
    unfold detC
    rw [chrP_zero h1, chr_det n h1 h4]
    unfold sgF
    split <;> omega
  rw [show (gmF n n F).r = n from rfl, this] at hr
  exact hr
theorem sq_chr {n : Nat} (h1 : 0 < n) (h4 : n ≤ 4) {W : World} {v : Value} {F : Nat → Nat → Int} {e : Nat} (hv : Sq W v n F e) (he : e ≤ 1000) :
    Calls Try.prog 22 #[v] W (RetRw (n + 1) (chrP n F n) 100000 W) := by
  obtain ⟨⟨p, c, rfl, hM⟩, hb⟩ := hv
  refine (charac_any (gmF n n F) p c (gmF_fit n n F (by omega) (by omega) (hb.small (by omega))) (fun _ => by rw [gmF_Fe]; exact chr_sq h4 hb he) W (gmF_at hM)).mono ?_
  rintro en w' hr
  rw [gmF_sq F h1 (by omega), gmF_Fe] at hr
  obtain ⟨q, k, rfl, hM, hbw⟩ := hr.ok
  refine ⟨_, rfl, ⟨⟨q, k, rfl, hM⟩, fun m hm => ?_⟩, hbw⟩
  show Bn (chrP n F n m) 100000
  unfold chrP
  split
  · exact Bn.one _
  · split
    · have h5 : (n - 1 - m) * (e + 2 + 2 + 1) ≤ 4 * 1005 := Nat.mul_le_mul (by omega) (by omega)
      exact (chrC_bn hb (two_pow h4) (n - 1 - m) (chrM_bn hb (two_pow h4) _)).up (by omega)
    · exact Bn.zero _
end Go.Proofs.Ytlkoiekdafaapaa
