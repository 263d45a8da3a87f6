/- The contracts of package matrix at square matrices of up to 32 rows. -/
import Derived.Test.YtlaoijfphkhchaaBnA
namespace Go.Proofs.Ytlaoijfphkhchaa
open Go.RowKit Go.Shelf
theorem gmF_sq' {n : Nat} (F : Nat → Nat → Int) (h1 : 0 < n) (h4 : n ≤ 32) : (gmF n n F).sq = 0 := by
  unfold GM.sq
  rw [if_neg (by rw [gmF_chk n n F h1 h4 h1 h4]; decide), if_neg (by show ¬ n ≠ n; simp)]
theorem gmF_eq (r c : Nat) (F : Nat → Nat → Int) : (gmF r c F).F = F := by
  funext i k
  exact gmF_F r c F i k
theorem pow5 {n : Nat} (h : n ≤ 32) : n ≤ 2 ^ 5 := h
theorem matMul_any {N : Nat} (h1 : 0 < N) (h4 : N ≤ 32) (F G : Nat → Nat → Int) (p q : Option Addr) (c d : Nat) {e f : Nat} (hb : BnM N N F e) (hd : BnM N N G f) (he : e + f + 5 < 8 * 100000000) (W : World) (hM : MatF W p N N F) (hN : MatF W q N N G) :
    Calls Try.prog 83 #[.slice p N c, .slice q N d] W (RetMatE 0 N N (mulF N F G) W) := by
  have hz : mulE (gmF N N F) (gmF N N G) = 0 := by
    unfold mulE
    rw [gmF_chk N N F h1 h4 h1 h4, gmF_chk N N G h1 h4 h1 h4, if_neg (by decide), if_neg (by show ¬ N ≠ N; simp)]
  refine (mul_m (gmF N N F) (gmF N N G) p q c d (gmF_fit N N F (by omega) (by omega) (hb.small (by omega))) (gmF_fit N N G (by omega) (by omega) (hd.small (by omega))) (fun _ => ?_) W (gmF_at hM) (gmF_at hN)).mono ?_
  · rw [gmF_eq, gmF_eq]
    exact ⟨hb.small (by omega), hd.small (by omega), hb.smallP hd (pow5 h4) he⟩
  · rintro en w' hr
    rw [hz, gmF_eq, gmF_eq] at hr
    exact hr
theorem matChr_any {N : Nat} (h1 : 0 < N) (h4 : N ≤ 32) (F : Nat → Nat → Int) (p : Option Addr) (c : Nat) {e : Nat} (hb : BnM N N F e) (he : e ≤ 1000000) (W : World) (hM : MatF W p N N F) :
    Calls Try.prog 41 #[.slice p N c] W (RetRowE 0 (N + 1) (chrP N F N) W) := by
  refine (charac_any (gmF N N F) p c (gmF_fit N N F (by omega) (by omega) (hb.small (by omega))) (fun _ => ?_) W (gmF_at hM)).mono ?_
  · rw [gmF_eq]
    exact chrOk_of hb (pow5 h4) (by
      have : N * (e + 5 + 5 + 1) ≤ 32 * (e + 5 + 5 + 1) := Nat.mul_le_mul_right _ h4
      show N * (e + 5 + 5 + 1) < _
      omega)
  · rintro en w' hr
    rw [gmF_sq' F h1 h4, gmF_eq] at hr
    exact hr
theorem matAdj_any {N : Nat} (h1 : 0 < N) (h4 : N ≤ 32) (F : Nat → Nat → Int) (p : Option Addr) (c : Nat) {e : Nat} (hb : BnM N N F e) (he : e ≤ 1000000) (W : World) (hM : MatF W p N N F) :
    Calls Try.prog 68 #[.slice p N c] W (RetMatE 0 N N (adjC N F) W) := by
  refine (adj_any (gmF N N F) p c (gmF_fit N N F (by omega) (by omega) (hb.small (by omega))) (fun _ => ?_) W (gmF_at hM)).mono ?_
  · rw [gmF_eq]
    exact chrOk_of hb (pow5 h4) (by
      have : N * (e + 5 + 5 + 1) ≤ 32 * (e + 5 + 5 + 1) := Nat.mul_le_mul_right _ h4
      show N * (e + 5 + 5 + 1) < _
      omega)
  · rintro en w' hr
    rw [gmF_sq' F h1 h4, gmF_eq] at hr
    exact hr
theorem bitsN_small {v k : Nat} (h : v < 2 ^ k) (hk : k ≤ 32) : bitsN v ≤ k := by
  have h32 : v < 4294967296 := Nat.lt_of_lt_of_le h (Nat.pow_le_pow_right (n := 2) (by decide) hk)
  by_cases h0 : v = 0
  · subst h0
    exact Nat.zero_le _
  · have hd : digs v = [v] := by
      rw [digs_pos h0, Nat.mod_eq_of_lt h32, Nat.div_eq_of_lt h32, digs_zero]
    unfold bitsN
    rw [hd]
    simp only [List.length_singleton, Nat.sub_self, Nat.mul_zero, Nat.zero_add]
    rw [if_neg (by decide)]
    exact Lib.bitLen_le _ k (by omega) (by simpa using h)
end Go.Proofs.Ytlaoijfphkhchaa
