/- grooveref25.Encode at a valid encoder. Rational numbers in lowest terms: plain laws. Greatest, Average and Worst against single replacements: plain facts. -/
import Derived.Test.YtcafeffgaokiaaaJ1
import Derived.Test.YtcafeffgaokiaaaJ4
import Derived.Test.YtcafeffgaokiaaaJ2
import Derived.Test.YtcafeffgaokiaaaJ34
import Derived.Test.YtcafeffgaokiaaaJ37
import Derived.Test.YtcafeffgaokiaaaJ38
namespace Go.Proofs.Ytcafeffgaokiaaa
open Go.RowKit
def intsN (l : List Nat) : List Int := l.map (fun (x : Nat) => (x : Int))
theorem intsN_len (l : List Nat) : (intsN l).length = l.length := by simp [intsN]
theorem intsN_get {l : List Nat} {k : Nat} (hk : k < l.length) : (intsN l).getD k 0 = ((l.getD k 0 : Nat) : Int) := by
  simp [intsN, List.getD_eq_getElem?_getD, hk]
theorem encW_append (m : EM) : ∀ (l1 l2 : List Nat) (s : Nat) (w : ByteArray), encW m s (l1 ++ l2) w = encW m (encW m s l1 w).2 l2 (encW m s l1 w).1
  | [], _, _, _ => rfl
  | x :: l1, l2, s, w => by rw [List.cons_append, encW, encW]; exact encW_append m l1 l2 _ _
theorem encW_snoc (m : EM) (l : List Nat) (s : Nat) (w : ByteArray) {k : Nat} (hk : k < l.length) :
    encW m s (l.take (k + 1)) w = ((encW m s (l.take k) w).1 ++ m.D (encW m s (l.take k) w).2 (l.getD k 0), (m.T (encW m s (l.take k) w).2 (l.getD k 0)).toNat) := by
  have h : l.take (k + 1) = l.take k ++ [l.getD k 0] := by
    rw [List.take_add_one, List.getD_eq_getElem?_getD, List.getElem?_eq_getElem hk]; rfl
  rw [h, encW_append]
  rfl
theorem encW_lt {m : EM} {I B : Nat} (hm : m.Ok I B) : ∀ (l : List Nat) (s : Nat) (w : ByteArray), s < m.r → (∀ x ∈ l, x < I) → (encW m s l w).2 < m.r ∧ (encW m s l w).1.size = w.size + l.length * B
  | [], s, w, hs, _ => ⟨hs, by show w.size = _; rw [List.length_nil]; omega⟩
  | x :: l, s, w, hs, hl => by
    have hx := hl x (List.mem_cons_self ..)
    have h := encW_lt hm l (m.T s x).toNat (w ++ m.D s x) (hm.to1 s x hs hx) (fun y hy => hl y (List.mem_cons_of_mem _ hy))
    have hd := hm.wd s x hs hx
    refine ⟨h.1, ?_⟩
    show (encW m (m.T s x).toNat l (w ++ m.D s x)).1.size = _
    rw [h.2, ByteArray.size_append, hd, List.length_cons, Nat.add_mul]
    omega
end Go.Proofs.Ytcafeffgaokiaaa
namespace Go.Proofs.Ytcafeffgaokiaaa
/-- A canonical rational number. -/
structure Qc (a b : Int) : Prop where
  pos : 0 < b
  cop : Nat.gcd a.natAbs b.natAbs = 1
theorem rlo_qc (n d : Int) : Qc (rloN n d) (rloD n d) := by
  unfold rloN rloD
  by_cases h : d = 0 ∨ n = 0
  · rw [if_pos h, if_pos h]; exact ⟨by decide, by decide⟩
  · rw [if_neg h, if_neg h]
    obtain ⟨g1, g2⟩ := gcd_nat_dvd n d
    have hg : 0 < Nat.gcd n.natAbs d.natAbs := Nat.gcd_pos_of_pos_left _ (by omega)
    have key : ∀ a b : Int, a.natAbs = n.natAbs → b.natAbs = d.natAbs → 0 < b → Qc (a / ((Nat.gcd n.natAbs d.natAbs : Nat) : Int)) (b / ((Nat.gcd n.natAbs d.natAbs : Nat) : Int)) := by
      intro a b ha hb hb0
      have ga : ((Nat.gcd n.natAbs d.natAbs : Nat) : Int) ∣ a := Int.ofNat_dvd_left.2 (by rw [ha]; exact Nat.gcd_dvd_left _ _)
      have gb : ((Nat.gcd n.natAbs d.natAbs : Nat) : Int) ∣ b := Int.ofNat_dvd_left.2 (by rw [hb]; exact Nat.gcd_dvd_right _ _)
      refine ⟨?_, ?_⟩
      · exact Int.ediv_pos_of_pos_of_dvd hb0 (by omega) gb
      · rw [Int.natAbs_ediv_of_dvd ga, Int.natAbs_ediv_of_dvd gb, ha, hb, Int.natAbs_natCast]
        rw [Nat.gcd_div (Nat.gcd_dvd_left _ _) (Nat.gcd_dvd_right _ _), Nat.div_self hg]
    split
    · exact key (-n) (-d) (Int.natAbs_neg n) (Int.natAbs_neg d) (by omega)
    · exact key n d rfl rfl (by omega)
theorem rlo_eq (n : Int) {d : Int} (hd : d ≠ 0) : n * rloD n d = rloN n d * d := by
  unfold rloN rloD
  by_cases h : d = 0 ∨ n = 0
  · rw [if_pos h, if_pos h]
    rcases h with h | h
    · exact absurd h hd
    · rw [h]; simp
  · rw [if_neg h, if_neg h]
    obtain ⟨⟨a, ha⟩, b, hb⟩ := gcd_nat_dvd n d
    have hg : 0 < Nat.gcd n.natAbs d.natAbs := Nat.gcd_pos_of_pos_left _ (by omega)
    obtain ⟨g, hge⟩ : ∃ g : Int, ((Nat.gcd n.natAbs d.natAbs : Nat) : Int) = g := ⟨_, rfl⟩
    rw [hge] at ha hb ⊢
    have hg0 : g ≠ 0 := by omega
    split
    · rw [show -d / g = -b from by rw [hb, ← Int.mul_neg, Int.mul_ediv_cancel_left _ hg0], show -n / g = -a from by rw [ha, ← Int.mul_neg, Int.mul_ediv_cancel_left _ hg0], ha, hb]
      grind
    · rw [show d / g = b from by rw [hb, Int.mul_ediv_cancel_left _ hg0], show n / g = a from by rw [ha, Int.mul_ediv_cancel_left _ hg0], ha, hb]
      grind
theorem Qc.unique {a b c d : Int} (h : Qc a b) (k : Qc c d) (he : a * d = c * b) : a = c ∧ b = d := by
  have h1 : b.natAbs ∣ d.natAbs := by
    have : b.natAbs ∣ d.natAbs * a.natAbs := ⟨c.natAbs, by rw [← Int.natAbs_mul, ← Int.natAbs_mul, Int.mul_comm d, he, Int.mul_comm]⟩
    exact Nat.Coprime.dvd_of_dvd_mul_right (by rw [Nat.coprime_comm]; exact h.cop) this
  have h2 : d.natAbs ∣ b.natAbs := by
    have : d.natAbs ∣ b.natAbs * c.natAbs := ⟨a.natAbs, by rw [← Int.natAbs_mul, ← Int.natAbs_mul, Int.mul_comm b, ← he, Int.mul_comm]⟩
    exact Nat.Coprime.dvd_of_dvd_mul_right (by rw [Nat.coprime_comm]; exact k.cop) this
  have h3 := Nat.dvd_antisymm h1 h2
  have hb := h.pos
  have hd := k.pos
  have h4 : b = d := by omega
  subst h4
  exact ⟨Int.eq_of_mul_eq_mul_right (by omega) he, rfl⟩
theorem rlo_self {a b : Int} (h : Qc a b) : rloN a b = a ∧ rloD a b = b := by
  have hb := h.pos
  have := (rlo_qc a b).unique h (by rw [← rlo_eq a (by omega)])
  exact this
theorem qc_one (x : Int) : Qc x 1 := ⟨by decide, by simp⟩
theorem rlo_one (x : Int) : rloN x 1 = x ∧ rloD x 1 = 1 := rlo_self (qc_one x)
/-- Numerator and denominator of a number that is known as h / w. -/
theorem Qc.bounds {a b h w : Int} (k : Qc a b) (hw : 0 < w) (he : a * w = b * h) : a.natAbs ≤ h.natAbs ∧ b.natAbs ≤ w.natAbs := by
  have hb := k.pos
  have h1 : b.natAbs ∣ w.natAbs := by
    have : b.natAbs ∣ w.natAbs * a.natAbs := ⟨h.natAbs, by rw [← Int.natAbs_mul, ← Int.natAbs_mul, Int.mul_comm w, he]⟩
    exact Nat.Coprime.dvd_of_dvd_mul_right (by rw [Nat.coprime_comm]; exact k.cop) this
  have h2 : a.natAbs ∣ h.natAbs := by
    have : a.natAbs ∣ h.natAbs * b.natAbs := ⟨w.natAbs, by rw [← Int.natAbs_mul, ← Int.natAbs_mul, Int.mul_comm h, he]⟩
    exact Nat.Coprime.dvd_of_dvd_mul_right k.cop this
  refine ⟨?_, Nat.le_of_dvd (by omega) h1⟩
  by_cases h0 : h = 0
  · rw [h0, Int.mul_zero] at he
    rcases Int.mul_eq_zero.1 he with h3 | h3
    · rw [h3]; simp
    · omega
  · exact Nat.le_of_dvd (by omega) h2
end Go.Proofs.Ytcafeffgaokiaaa
namespace Go.Proofs.Ytcafeffgaokiaaa
open Go.RowKit
theorem inF_mem {I : Nat} : ∀ (n : Nat) (l : List Nat), l.length = n → (∀ x ∈ l, x < I) → l ∈ inF I n
  | 0, l, h, _ => by rw [List.length_eq_zero_iff.1 h]; exact List.mem_singleton_self _
  | n + 1, [], h, _ => by cases h
  | n + 1, x :: l, h, hl => by
    rw [inF]
    refine List.mem_flatMap.2 ⟨x, List.mem_range.2 (hl x (List.mem_cons_self ..)), List.mem_map.2 ⟨l, inF_mem n l (by simpa using h) (fun y hy => hl y (List.mem_cons_of_mem _ hy)), rfl⟩⟩
theorem encW_mem {m : EM} {I B : Nat} (hm : m.Ok I B) {s : Nat} (hs : s < m.r) {l : List Nat} (hl : ∀ x ∈ l, x < I) : (encW m s l ByteArray.empty).1 ∈ wordsE m l.length := by
  unfold wordsE
  refine List.mem_flatMap.2 ⟨s, List.mem_range.2 hs, ?_⟩
  rw [wordsL_enc hm _ s _ hs]
  exact List.mem_map.2 ⟨l, inF_mem _ l rfl hl, rfl⟩
theorem diffs_self (a : List Int) : diffs a a = [] := by
  unfold diffs diffsK
  simp
theorem replS_self {w : ByteArray} {a c : Nat} (ha : a < w.size) (hc : c < 16) (h : (idxL 16 (w.data.toList.getD a 0) == (c : Int)) = true) : replS w a c = w := by
  rw [idxL_beq c hc, beq_iff_eq] at h
  have hl := replS_list w a c hc
  rw [h] at hl
  have hlen : w.data.toList.length = w.size := by simp
  have he : w.data.toList.take a ++ w.data.toList.getD a 0 :: w.data.toList.drop (a + 1) = w.data.toList := by
    have h1 : w.data.toList.take (a + 1) = w.data.toList.take a ++ [w.data.toList.getD a 0] := by
      rw [List.take_add_one, List.getD_eq_getElem?_getD, List.getElem?_eq_getElem (by omega)]; rfl
    have := List.take_append_drop (a + 1) w.data.toList
    rw [h1, List.append_assoc] at this
    exact this
  rw [he] at hl
  have hx : ∀ x y : ByteArray, x.data.toList = y.data.toList → x = y := fun x y e => by
    cases x; cases y; congr 1; exact Array.toList_inj.1 e
  exact hx _ _ hl
/-- What a replacement in a written word changes. -/
theorem ch_rp {L : Nat} {b i dp df : Int} {m : EM} {es : List Ent} {n : Nat} {w : ByteArray} (hw : w ∈ wordsE m n) (hd : decErr (L : Int) b i dp df es w = 0) (hL : L ≤ 16) {a c : Nat} (ha : a < w.size) (hc : c < L) :
    chErr (L : Int) b i dp df es w (a : Int) (c : Int) = 0 ∧ (chOut (L : Int) b i dp df es w (a : Int) (c : Int)).length = (rpN (decOut (L : Int) b i dp df es) w a c).n ∧
      (chOut (L : Int) b i dp df es w (a : Int) (c : Int)).length ≤ mostF (rpE (decOut (L : Int) b i dp df es) L (wordsE m n)) := by
  have h0 : chErr (L : Int) b i dp df es w (a : Int) (c : Int) = 0 := chErr_zero.2 ⟨hd, ⟨by omega, by omega⟩, by omega, by omega⟩
  have h1 : chOut (L : Int) b i dp df es w (a : Int) (c : Int) = diffs (decOut (L : Int) b i dp df es w) (decOut (L : Int) b i dp df es (replS w a c)) := by
    unfold chOut
    rw [if_pos h0, Int.toNat_natCast, Int.toNat_natCast]
  refine ⟨h0, by rw [h1]; rfl, ?_⟩
  cases hm : (idxL 16 (w.data.toList.getD a 0) == (c : Int)) with
  | true =>
    rw [h1, replS_self ha (by omega) hm, diffs_self]
    exact Nat.zero_le _
  | false =>
    have h2 : rpN (decOut (L : Int) b i dp df es) w a c ∈ rpE (decOut (L : Int) b i dp df es) L (wordsE m n) := rpE_mem.2 ⟨w, hw, a, ha, c, hc, hm, rfl⟩
    have h3 := mostF_le _ h2
    rw [h1]
    exact h3
/-- The facts where there is no error. -/
theorem gpl_facts {L B I : Nat} {m : EM} {dp df : Int} {es : List Ent} {n : Nat} (he : encCheck (L : Int) (B : Int) (I : Int) m = 0) (hd : decCheck (L : Int) (B : Int) (I : Int) dp df es = 0) (hn : 1 ≤ n ∧ n ≤ 16) (ps : List Rp) (hps : rpE (decOut (L : Int) (B : Int) (I : Int) dp df es) L (wordsE m n) = ps) :
    (mostF ps : Int) ≤ dp + 1 + df ∧
    (((wsF ps).n < 0 ∧ L ≤ 1 ∧ mostF ps = 0) ∨ (¬ (wsF ps).n < 0 ∧ chErr (L : Int) (B : Int) (I : Int) dp df es (wsF ps).w (wsF ps).a (wsF ps).c = 0 ∧ (chOut (L : Int) (B : Int) (I : Int) dp df es (wsF ps).w (wsF ps).a (wsF ps).c).length = mostF ps ∧ (wsF ps).w.size ≤ 1000)) ∧
    ∀ (s : Nat) (l : List Nat), s < m.r → l.length = n → (∀ x ∈ l, x < I) → 0 < (encW m s l ByteArray.empty).1.size ∧ (encW m s l ByteArray.empty).1.size ≤ 1000 ∧ ∀ a c : Nat, a < (encW m s l ByteArray.empty).1.size → c < L →
      chErr (L : Int) (B : Int) (I : Int) dp df es (encW m s l ByteArray.empty).1 (a : Int) (c : Int) = 0 ∧ (chOut (L : Int) (B : Int) (I : Int) dp df es (encW m s l ByteArray.empty).1 (a : Int) (c : Int)).length ≤ mostF ps := by
  obtain ⟨⟨l1, l2⟩, ⟨b1, b2⟩, ⟨i1, i2⟩, ⟨r1, r2⟩, hok, _⟩ := encCheck_ok he
  rw [Int.toNat_natCast, Int.toNat_natCast] at hok
  have hl16 : L ≤ 16 := by omega
  have hB : 1 ≤ B ∧ B ≤ 16 := by omega
  have hdec : ∀ x ∈ wordsE m n, x.size = n * B ∧ decErr (L : Int) (B : Int) (I : Int) dp df es x = 0 := fun x hx => by
    have h := words_dec he hd hn.2 x hx
    rwa [Int.toNat_natCast] at h
  have hnB : 1 ≤ n * B ∧ n * B ≤ 1000 := by
    have h1 : 1 * 1 ≤ n * B := Nat.mul_le_mul hn.1 hB.1
    have h2 : n * B ≤ 16 * 16 := Nat.mul_le_mul hn.2 hB.2
    omega
  have hmem : ∀ x ∈ ps, ∃ w ∈ wordsE m n, ∃ a c : Nat, a < w.size ∧ c < L ∧ x = rpN (decOut (L : Int) (B : Int) (I : Int) dp df es) w a c := fun x hx => by
    rw [← hps] at hx
    obtain ⟨w, hw, a, ha, c, hc, _, rfl⟩ := rpE_mem.1 hx
    exact ⟨w, hw, a, c, ha, hc, rfl⟩
  have hp := (decCheck_ok hd).2.1
  refine ⟨?_, ?_, ?_⟩
  · obtain ⟨bd, hbd⟩ : ∃ k : Nat, dp + 1 + df = k := ⟨(dp + 1 + df).toNat, by omega⟩
    have h : mostF ps ≤ bd := mostF_bound fun x hx => by
      obtain ⟨w, hw, a, c, ha, hc, rfl⟩ := hmem x hx
      obtain ⟨h0, h1, _⟩ := ch_rp (b := (B : Int)) (i := (I : Int)) (dp := dp) (df := df) (es := es) hw (hdec w hw).2 hl16 ha hc
      have h2 := chOut_len h0
      rw [h1] at h2
      omega
    omega
  · rcases wsF_cases ps with ⟨h1, h2⟩ | ⟨h1, x, hx, h2⟩
    · left
      have hmo : mostF ps = 0 := by rw [h1]; rfl
      refine ⟨by rw [h2]; decide, ?_, hmo⟩
      refine Classical.byContradiction fun hL => ?_
      have hex : ∃ w, w ∈ wordsE m n := by
        have hlen := wordsE_len hok n
        have hpos : 0 < m.r * I ^ n := Nat.mul_pos r1 (Nat.pow_pos (by omega))
        exact List.exists_mem_of_length_pos (by omega)
      obtain ⟨w, hw⟩ := hex
      have hws := (hdec w hw).1
      have hc : ∃ c, c < L ∧ (idxL 16 (w.data.toList.getD 0 0) == (c : Int)) = false := by
        by_cases h0 : idxL 16 (w.data.toList.getD 0 0) = ((0 : Nat) : Int)
        · refine ⟨1, by omega, ?_⟩
          rw [h0]; rfl
        · exact ⟨0, by omega, beq_eq_false_iff_ne.2 h0⟩
      obtain ⟨c, hc, hcc⟩ := hc
      have : rpN (decOut (L : Int) (B : Int) (I : Int) dp df es) w 0 c ∈ ps := by rw [← hps]; exact rpE_mem.2 ⟨w, hw, 0, by omega, c, hc, hcc, rfl⟩
      rw [h1] at this
      cases this
    · right
      obtain ⟨w, hw, a, c, ha, hc, rfl⟩ := hmem x hx
      obtain ⟨h3, h4, _⟩ := ch_rp (b := (B : Int)) (i := (I : Int)) (dp := dp) (df := df) (es := es) hw (hdec w hw).2 hl16 ha hc
      refine ⟨by rw [h1]; omega, ?_, ?_, ?_⟩
      · rw [h2]; exact h3
      · rw [h2] at h1
        have h5 : ((rpN (decOut (L : Int) (B : Int) (I : Int) dp df es) w a c).n : Int) = (mostF ps : Int) := h1
        rw [h2]
        show (chOut (L : Int) (B : Int) (I : Int) dp df es w (a : Int) (c : Int)).length = mostF ps
        omega
      · rw [h2]
        show w.size ≤ 1000
        rw [(hdec w hw).1]; exact hnB.2
  · intro s l hs hl hx
    have hw := encW_mem hok hs hx
    rw [hl] at hw
    have hsz := (hdec _ hw).1
    refine ⟨by omega, by omega, fun a c ha hc => ?_⟩
    obtain ⟨h0, _, h2⟩ := ch_rp (b := (B : Int)) (i := (I : Int)) (dp := dp) (df := df) (es := es) hw (hdec _ hw).2 hl16 ha hc
    rw [hps] at h2
    exact ⟨h0, h2⟩
/-- The mean is not greater. -/
theorem mean_le {S A M : Nat} (hA : 0 < A) (h : S ≤ M * A) : rloN (S : Int) (A : Int) * 1 ≤ (M : Int) * rloD (S : Int) (A : Int) := by
  have hq := rlo_qc (S : Int) (A : Int)
  have he := rlo_eq (S : Int) (d := (A : Int)) (by omega)
  have hd := hq.pos
  rw [Int.mul_one]
  refine Int.le_of_mul_le_mul_right (a := (A : Int)) ?_ (by omega)
  rw [← he]
  have h2 : (S : Int) ≤ (M : Int) * (A : Int) := by rw [← Int.natCast_mul]; omega
  calc (S : Int) * rloD (S : Int) (A : Int) ≤ ((M : Int) * (A : Int)) * rloD (S : Int) (A : Int) := Int.mul_le_mul_of_nonneg_right h2 (by omega)
    _ = (M : Int) * rloD (S : Int) (A : Int) * (A : Int) := by rw [Int.mul_assoc, Int.mul_comm (A : Int), ← Int.mul_assoc]
end Go.Proofs.Ytcafeffgaokiaaa
