/- grooveref01: trim, Canonical. grooveref01: Canonical. grooveref01: Neg. grooveref01: small. Matrices in memory: rows of canonical numbers; rows that a call makes. -/
import Derived.Test.YtcafeffgaokiaaaZ19
import Derived.Laws.MakeOwn
namespace Go.Proofs.Ytcafeffgaokiaaa
open Go.RowKit

theorem beb_bval : ∀ (n : Nat) (l : List UInt8), l.length = n → beb (bval l) = l.dropWhile (· == 0)
  | 0, l, h => by
    have : l = [] := List.length_eq_zero_iff.1 h
    subst this; rfl
  | n + 1, l, h => by
    obtain ⟨r, c, rfl⟩ : ∃ r c, l = r ++ [c] := ⟨l.dropLast, l.getLast (fun h0 => by rw [h0] at h; simp at h), (List.dropLast_concat_getLast _).symm⟩
    have ih := beb_bval n r (by simpa using h)
    rw [bval_snoc, List.dropWhile_append, ← ih]
    have hc : UInt8.ofNat c.toNat = c := by simp
    by_cases h0 : bval r = 0
    · rw [h0, beb_zero]
      by_cases hz : c = 0
      · subst hz; rfl
      · have hz' : c.toNat ≠ 0 := fun h => hz (by rw [← hc, h]; rfl)
        have := beb_snoc (m := 0) (c := c.toNat) (UInt8.toNat_lt _) (.inr hz')
        rw [this, beb_zero, hc]
        have hb : (c == 0) = false := by rw [beq_eq_false_iff_ne]; exact hz
        simp [List.dropWhile, hb]
    · rw [beb_snoc (UInt8.toNat_lt _) (.inl h0), hc]
      have : (beb (bval r)).isEmpty = false := by
        rw [List.isEmpty_eq_false_iff]
        intro h; exact h0 (beb_len_zero.1 (by rw [h]; rfl))
      rw [this]; simp

theorem str_cons (t : ByteArray) (h : 0 < t.size) : t.data.toList = t[0] :: (t.extract 1 t.size).data.toList := by
  rcases t with ⟨⟨l⟩⟩
  cases l with
  | nil => exact absurd h (by decide)
  | cons c r =>
    rw [ByteArray.data_extract]
    show c :: r = c :: _
    congr 1
    simp [ByteArray.size]
theorem bval_cons_zero {c : UInt8} {r : List UInt8} (h : c.toNat = 0) : bval (c :: r) = bval r := by
  unfold bval
  rw [List.foldl_cons, h]
theorem beb_head {c : UInt8} {r : List UInt8} (h : c.toNat ≠ 0) : beb (bval (c :: r)) = c :: r := by
  rw [beb_bval _ _ rfl]
  have : (c == 0) = false := by
    rw [beq_eq_false_iff_ne]; intro h2; exact h (by rw [h2]; rfl)
  simp [List.dropWhile, this]

set_option maxRecDepth 100000 in
set_option maxHeartbeats 4000000 in
theorem refTrim_any (s : ByteArray) (hs : s.size ≤ 100000000) (w : World) :
    Calls Try.prog 139 #[.string s] w fun e w' => e = .returned (.string ⟨(beb (bval s.data.toList)).toArray⟩) ∧ w = w' := by
  go_enter Try.func139, Try.ntmps139
  go_wp2
  go_loopw [0] (fun v wr => ∃ t : ByteArray, v = .string t ∧ t.size ≤ 100000000 ∧ wr = w ∧ Hid (bval t.data.toList = bval s.data.toList)) (fun v _ => match v with | .string t => t.size | _ => 0)
  case atStart => exact ⟨s, rfl, hs, rfl, Lib.hid rfl⟩
  case round =>
    obtain ⟨t, rfl, ht, rfl, hv⟩ := hrel
    by_cases hlt : 0 < t.size
    · obtain ⟨c, hcc⟩ : ∃ c, (t[0]'hlt).toNat = c := ⟨_, rfl⟩
      have i0 : (0 : Int) < (t.size : Int) := by omega
      by_cases hc : c = 0
      · have hcb : ((c : Int) == 0) = true := by rw [beq_iff_eq]; omega
        go_wp2
        have he : bval (t.extract 1 t.size).data.toList = bval s.data.toList := by
          rw [← hv.out, str_cons t hlt, bval_cons_zero (by omega)]
        have hsz : (t.extract 1 t.size).size = t.size - 1 := by simp
        go_roundw
        case rel => exact ⟨_, rfl, by omega, trivial, Lib.hid he⟩
        case measure => show (t.extract 1 t.size).size < t.size; omega
      · have hcb : ((c : Int) == 0) = false := by rw [beq_eq_false_iff_ne]; omega
        have he : (⟨(beb (bval s.data.toList)).toArray⟩ : ByteArray) = t := by
          rw [← hv.out, str_cons t hlt, beb_head (by omega), ← str_cons t hlt]
        have He := Lib.hid he
        clear he
        go_wp2
        go_ret
        exact ⟨by rw [He.out]; rfl, rfl⟩
    · have i0 : ¬ (0 : Int) < (t.size : Int) := by omega
      have he : (⟨(beb (bval s.data.toList)).toArray⟩ : ByteArray) = t := by
        rcases t with ⟨⟨l⟩⟩
        have : l = [] := List.length_eq_zero_iff.1 (by simp [ByteArray.size] at hlt; simp [hlt])
        subst this
        rw [← hv.out]; rfl
      have He := Lib.hid he
      clear he
      go_wp2
      go_ret
      exact ⟨by rw [He.out]; rfl, rfl⟩

theorem canon_of_head {z : ZI} (h : 0 < z.mag.size) (h0 : (z.mag[0]).toNat ≠ 0) : z = canon (valZ z) := by
  rw [← sameZ_val]
  have h1 : beb (absZ z) = z.mag.data.toList := by
    unfold absZ
    rw [str_cons z.mag h, beb_head h0]
  have h2 : absZ z ≠ 0 := fun h3 => by
    rw [h3, beb_zero] at h1
    have := congrArg List.length h1
    simp at this
    have h4 : z.mag.size = z.mag.data.size := rfl
    omega
  unfold mkZ
  rw [if_neg h2, h1]
end Go.Proofs.Ytcafeffgaokiaaa

namespace Go.Proofs.Ytcafeffgaokiaaa
open Go.RowKit

theorem canon_parts (z : ZI) : (canon (valZ z)).neg = (z.neg && !(beb (bval z.mag.data.toList)).isEmpty) ∧ (canon (valZ z)).mag = ⟨(beb (bval z.mag.data.toList)).toArray⟩ := by
  rw [← sameZ_val]
  have h : absZ z = bval z.mag.data.toList := rfl
  rw [← h]
  unfold mkZ
  by_cases h0 : absZ z = 0
  · rw [if_pos h0, h0, beb_zero]; simp
  · rw [if_neg h0]
    have : (beb (absZ z)).isEmpty = false := by
      rw [List.isEmpty_eq_false_iff]
      intro h; exact h0 (beb_len_zero.1 (by rw [h]; rfl))
    rw [this]; simp

set_option maxRecDepth 100000 in
set_option maxHeartbeats 4000000 in
theorem refCanonical_any (z : ZI) (hz : z.mag.size ≤ 100000000) (w : World) :
    Calls Try.prog 137 #[.agg #[.bool z.neg, .string z.mag]] w (RetZ (canon (valZ z)) w) := by
  obtain ⟨hp1, hp2⟩ := canon_parts z
  obtain ⟨Z, hZ⟩ : ∃ Z, canon (valZ z) = Z := ⟨_, rfl⟩
  rw [hZ] at hp1 hp2
  rw [hZ]
  have Hp1 := Lib.hid hp1
  have Hp2 := Lib.hid hp2
  clear hp1 hp2
  by_cases hlt : 0 < z.mag.size
  · obtain ⟨c, hcc⟩ : ∃ c, (z.mag[0]'hlt).toNat = c := ⟨_, rfl⟩
    have i0 : (0 : Int) < (z.mag.size : Int) := by omega
    by_cases hc : c = 0
    · have hcb : ((c : Int) != 0) = false := by rw [bne_eq_false_iff_eq]; omega
      clear hZ
      cases hn : z.neg
      all_goals
        rw [hn] at Hp1
        go_enter Try.func137, Try.ntmps137
        go_wp2_with (go_at_call 139; go_fit (refTrim_any z.mag hz _); rintro e w2 ⟨rfl, rfl⟩)
        refine bodyPost_ret (v := .agg #[.bool Z.neg, .string Z.mag]) ?_ rfl ⟨rfl, ((Below.refl _ _).alloc (Nat.le_refl _) _).alloc (by simp) _⟩
        rw [Hp1.out, Hp2.out]
        simp [results, Try.results137, go_sem]
    · have hcb : ((c : Int) != 0) = true := by rw [bne_iff_ne]; omega
      have HZ := Lib.hid (show z = Z from by rw [← hZ]; exact canon_of_head hlt (by omega))
      clear hZ
      go_enter Try.func137, Try.ntmps137
      go_wp2
      refine bodyPost_ret (v := .agg #[.bool Z.neg, .string Z.mag]) ?_ rfl ⟨rfl, ((Below.refl _ _).alloc (Nat.le_refl _) _).alloc (by simp) _⟩
      rw [← HZ.out]
      simp [results, Try.results137, go_sem]
  · have i0 : ¬ (0 : Int) < (z.mag.size : Int) := by omega
    clear hZ
    cases hn : z.neg
    all_goals
      rw [hn] at Hp1
      go_enter Try.func137, Try.ntmps137
      go_wp2_with (go_at_call 139; go_fit (refTrim_any z.mag hz _); rintro e w2 ⟨rfl, rfl⟩)
      refine bodyPost_ret (v := .agg #[.bool Z.neg, .string Z.mag]) ?_ rfl ⟨rfl, ((Below.refl _ _).alloc (Nat.le_refl _) _).alloc (by simp) _⟩
      rw [Hp1.out, Hp2.out]
      simp [results, Try.results137, go_sem]
end Go.Proofs.Ytcafeffgaokiaaa

namespace Go.Proofs.Ytcafeffgaokiaaa
open Go.RowKit

theorem canon_neg_parts (n : Int) : (canon (-n)).neg = (!(canon n).neg && !(canon n).mag.toList.isEmpty) ∧ (canon (-n)).mag = (canon n).mag := by
  rw [ByteArray.toList_eq]
  have hm : (canon (-n)).mag = (canon n).mag := by simp [canon]
  refine ⟨?_, hm⟩
  by_cases h0 : n = 0
  · subst h0; rfl
  · have h1 : beb n.natAbs ≠ [] := fun h => by
      have : n.natAbs = 0 := beb_len_zero.1 (by rw [h]; rfl)
      omega
    have h2 : (beb n.natAbs).isEmpty = false := by rw [List.isEmpty_eq_false_iff]; exact h1
    show decide (-n < 0) = (!decide (n < 0) && !(beb n.natAbs).isEmpty)
    rw [h2]
    by_cases h : n < 0
    · rw [decide_eq_true h, decide_eq_false (by omega)]; rfl
    · rw [decide_eq_false h, decide_eq_true (by omega)]; rfl

set_option maxRecDepth 100000 in
set_option maxHeartbeats 8000000 in
theorem refNeg_any (z : ZI) (hz : z.mag.size ≤ 100000000) (w : World) :
    Calls Try.prog 124 #[.agg #[.bool z.neg, .string z.mag]] w (RetZ (canon (-valZ z)) w) := by
  have hcan := refCanonical_any z hz
  obtain ⟨hp1, hp2⟩ := canon_neg_parts (valZ z)
  generalize canon (-valZ z) = R at *
  generalize canon (valZ z) = m at *
  have Hcan := Lib.hid hcan
  have Hp1 := Lib.hid hp1
  have Hp2 := Lib.hid hp2
  clear hcan hp1 hp2
  rcases m with ⟨N, M⟩
  dsimp only at Hp1 Hp2
  have n1 : ¬ (w.heap.size = w.heap.size + 1) := by omega
  have n2 : ¬ (w.heap.size + 1 = w.heap.size) := by omega
  cases N
  all_goals
    go_enter Try.func124, Try.ntmps124
    go_wp2_with (go_at_call 137; go_fit (Hcan.out _); rintro e w3 ⟨rfl, hb⟩; have Hb3 := Lib.hid hb; have HA := Lib.hid ((BoxAt.new w (.bool z.neg) (.string z.mag) 48).alloc (.cells #[.bool false, .string ⟨#[]⟩] 48) |>.below hb (by simp; omega)); have hB0 := (BoxAt.new (w.alloc (.cells #[.bool z.neg, .string z.mag] 48)) (.bool false) (.string ⟨#[]⟩) 48).below hb (by simp); rw [World.size_alloc] at hB0; have HB := Lib.hid hB0; obtain ⟨a0, a1, a2, a3, _⟩ := HA.out; obtain ⟨b0, b1, b2, b3, _⟩ := hB0; clear hb)
    refine bodyPost_ret (v := .agg #[.bool R.neg, .string R.mag]) ?_ rfl ⟨rfl, ?_⟩
    · rw [Hp1.out, Hp2.out]
      simp [results, Try.results124, go_sem, b0, b1]
    · have hbe : Below w.heap.size w w3 := (((Below.refl _ _).alloc (Nat.le_refl _) _).alloc (by simp) _).trans (Hb3.out.mono (by simp; omega))
      exact (((hbe.setCell (by simp) _).setCell (by simp) _).setCell (by simp) _).setCell (by simp) _
end Go.Proofs.Ytcafeffgaokiaaa

namespace Go.Proofs.Ytcafeffgaokiaaa
open Go.RowKit

theorem bval_take {l : List UInt8} {i : Nat} (h : i < l.length) : bval (l.take (i + 1)) = bval (l.take i) * 256 + l[i].toNat := by
  rw [List.take_succ_eq_append_getElem h, bval_snoc]
theorem bval_take_lt (l : List UInt8) (i : Nat) : bval (l.take i) < 256 ^ i := by
  refine Nat.lt_of_lt_of_le (bval_lt _) (Nat.pow_le_pow_right (by decide) ?_)
  rw [List.length_take]; omega
theorem pow_six {i : Nat} (h : i ≤ 6) : 256 ^ i ≤ 281474976710656 := Nat.pow_le_pow_right (n := 256) (by decide) h
theorem or_byte (n : Nat) (c : Nat) (hc : c < 256) (hn : n < 281474976710656) : bits .or .i64 ((n : Int) * 256) (c : Int) = ((n * 256 + c : Nat) : Int) := by
  have h1 : ((n : Int) * 256) = ((n * 256 : Nat) : Int) := by simp
  have h2 := Nat.two_pow_add_eq_or_of_lt (i := 8) (b := c) (by omega) n
  have h3 : n * 256 + c = n * 256 ||| c := by
    rw [Nat.mul_comm n 256]; exact h2
  rw [h1]
  show IntKind.i64.wrap ((BitVec.ofInt 64 ((n * 256 : Nat) : Int) ||| BitVec.ofInt 64 (c : Int)).toNat : Int) = _
  rw [BitVec.toNat_or, ofInt_u64 _ (by omega), ofInt_u64 c (by omega), ← h3]
  rw [IntKind.wrap_i64]
  omega

set_option maxRecDepth 100000 in
set_option maxHeartbeats 4000000 in
theorem refSmall_any (s : ByteArray) (hs : s.size ≤ 7) (w : World) :
    Calls Try.prog 141 #[.string s] w fun e w' => e = .returned (.int .i64 (bval s.data.toList : Nat)) ∧ w = w' := by
  go_enter Try.func141, Try.ntmps141
  go_wp2
  go_loop [3, 4] (fun v i => ∃ k n : Nat, k ≤ s.size ∧ i = .int .i64 k ∧ v = .int .i64 n ∧ Hid (n = bval (s.data.toList.take k))) (fun _ i => s.size - (intOf i).toNat)
  case atStart => exact ⟨0, 0, Nat.zero_le _, rfl, rfl, Lib.hid rfl⟩
  case round =>
    obtain ⟨k, n, hk, rfl, rfl, hr⟩ := hrel
    by_cases hlt : k < s.size
    · have hltI : (k : Int) < (s.size : Int) := by omega
      obtain ⟨c, hc⟩ : ∃ c, (s[k]'hlt).toNat = c := ⟨_, rfl⟩
      have hc2 : c < 256 := by rw [← hc]; exact UInt8.toNat_lt _
      have hl : k < s.data.toList.length := by simpa using hlt
      have hn : n < 281474976710656 := by
        rw [hr.out]; exact Nat.lt_of_lt_of_le (bval_take_lt _ _) (pow_six (by omega))
      have hnext : n * 256 + c = bval (s.data.toList.take (k + 1)) := by
        rw [bval_take hl, ← hr.out, ← hc]; rfl
      have Hn := Lib.hid hnext
      clear hnext
      go_wp2
      go_round
      case rel => exact ⟨k + 1, n * 256 + c, by omega, by go_num, by rw [or_byte n c hc2 hn], Hn⟩
      case measure => simp [intOf]; omega
    · have hke : k = s.size := by omega
      have i0 : ¬ (k : Int) < (s.size : Int) := by omega
      have he : n = bval s.data.toList := by
        rw [hr.out, List.take_of_length_le (by rw [hke]; simp)]
      have He := Lib.hid he
      clear he
      go_wp2
      go_ret
      exact ⟨ret_int (by rw [He.out]), rfl⟩
end Go.Proofs.Ytcafeffgaokiaaa
namespace Go.Proofs.Ytcafeffgaokiaaa
open Go.RowKit

/-- Cell j of the number n in memory. -/
def zc (n : Int) (j : Nat) : Value := if j = 0 then .bool (canon n).neg else .string (canon n).mag
/-- A slice header at p reads as c numbers. -/
def RowF (w : World) (p : Option Addr) (c : Nat) (f : Nat → Int) : Prop := SlAt 2 w p c (fun k j => zc (f k) j)
/-- .. as r rows of c numbers. -/
def MatF (w : World) (p : Option Addr) (r c : Nat) (F : Nat → Nat → Int) : Prop :=
  ∃ H : Nat → Option Addr × Nat, SlAt 1 w p r (fun i _ => .slice (H i).1 c (H i).2) ∧ ∀ i, i < r → RowF w (H i).1 c (F i)
theorem RowF.below {w w' : World} {p : Option Addr} {c : Nat} {f : Nat → Int} (h : RowF w p c f) {B : Nat} (hB : w.heap.size ≤ B) (hb : Below B w w') : RowF w' p c f := h.mono hB hb
theorem RowF.congr {w : World} {p : Option Addr} {c : Nat} {f g : Nat → Int} (h : RowF w p c f) (e : ∀ k, k < c → f k = g k) : RowF w p c g := SlAt.congr h fun i hi j _ => by rw [e i hi]
theorem MatF.below {w w' : World} {p : Option Addr} {r c : Nat} {F : Nat → Nat → Int} (h : MatF w p r c F) {B : Nat} (hB : w.heap.size ≤ B) (hb : Below B w w') : MatF w' p r c F := by
  obtain ⟨H, h1, h2⟩ := h
  exact ⟨H, h1.mono hB hb, fun i hi => (h2 i hi).below hB hb⟩
theorem MatF.congr {w : World} {p : Option Addr} {r c : Nat} {F G : Nat → Nat → Int} (h : MatF w p r c F) (e : ∀ i k, i < r → k < c → F i k = G i k) : MatF w p r c G := by
  obtain ⟨H, h1, h2⟩ := h
  exact ⟨H, h1, fun i hi => (h2 i hi).congr fun k hk => e i k hi hk⟩
theorem RowF.cells {w : World} {p : Option Addr} {c : Nat} {f : Nat → Int} (h : RowF w p c f) {k : Nat} (hk : k < c) :
    ∃ b off, p = some ⟨b, off, none⟩ ∧ b < w.heap.size ∧ ∀ i, i < c → w.cell? ⟨b, off + i * 2, none⟩ = some (.bool (canon (f i)).neg) ∧ w.cell? ⟨b, off + i * 2 + 1, none⟩ = some (.string (canon (f i)).mag) := by
  rcases h with h | ⟨b, off, rfl, hlt, hc⟩
  · omega
  · exact ⟨b, off, rfl, hlt, fun i hi => ⟨by simpa [zc] using hc i hi 0 (by omega), by simpa [zc] using hc i hi 1 (by omega)⟩⟩
theorem MatF.cells {w : World} {p : Option Addr} {r c : Nat} {F : Nat → Nat → Int} (h : MatF w p r c F) {i : Nat} (hi : i < r) :
    ∃ b off, p = some ⟨b, off, none⟩ ∧ b < w.heap.size ∧ ∃ H : Nat → Option Addr × Nat, (∀ i, i < r → w.cell? ⟨b, off + i, none⟩ = some (.slice (H i).1 c (H i).2)) ∧ ∀ i, i < r → RowF w (H i).1 c (F i) := by
  obtain ⟨H, h1, h2⟩ := h
  rcases h1 with h | ⟨b, off, rfl, hlt, hc⟩
  · omega
  · exact ⟨b, off, rfl, hlt, H, fun i hi => by simpa using hc i hi 0 (by omega), h2⟩
/-- Block g begins with n numbers, and may be written. -/
def ZAt (w : World) (g n : Nat) (f : Nat → Int) : Prop :=
  g < w.heap.size ∧ ∀ k, k < n → (w.cell? ⟨g, k * 2, none⟩ = some (.bool (canon (f k)).neg) ∧ w.cell? ⟨g, k * 2 + 1, none⟩ = some (.string (canon (f k)).mag)) ∧ w.frozen? ⟨g, k * 2, none⟩ = false ∧ w.frozen? ⟨g, k * 2 + 1, none⟩ = false
theorem ZAt.below {w w' : World} {g n B : Nat} {f : Nat → Int} (h : ZAt w g n f) (hb : Below B w w') (hg : g < B) : ZAt w' g n f :=
  ⟨Nat.lt_of_lt_of_le h.1 hb.size, fun k hk => by
    obtain ⟨⟨h1, h2⟩, h3, h4⟩ := h.2 k hk
    exact ⟨⟨(hb.cell (p := ⟨g, _, none⟩) hg).trans h1, (hb.cell (p := ⟨g, _, none⟩) hg).trans h2⟩, (hb.frozen (p := ⟨g, _, none⟩) hg).trans h3, (hb.frozen (p := ⟨g, _, none⟩) hg).trans h4⟩⟩
theorem ZAt.congr {w : World} {g n : Nat} {f h : Nat → Int} (hz : ZAt w g n f) (e : ∀ k, k < n → f k = h k) : ZAt w g n h := ⟨hz.1, fun k hk => by rw [← e k hk]; exact hz.2 k hk⟩
theorem ZAt.row {w : World} {g n : Nat} {f : Nat → Int} (h : ZAt w g n f) : RowF w (some ⟨g, 0, none⟩) n f :=
  .inr ⟨g, 0, rfl, h.1, fun k hk j hj => by
    obtain ⟨⟨h1, h2⟩, _⟩ := h.2 k hk
    match j, hj with
    | 0, _ => simpa [zc] using h1
    | 1, _ => simpa [zc] using h2⟩
theorem ZAt.set {w : World} {g n k : Nat} {f : Nat → Int} (h : ZAt w g n f) (v : Int) :
    ZAt ((w.setCell ⟨g, k * 2, none⟩ (.bool (canon v).neg)).setCell ⟨g, k * 2 + 1, none⟩ (.string (canon v).mag)) g n (fun i => if i = k then v else f i) := by
  refine ⟨by simpa using h.1, fun i hi => ?_⟩
  obtain ⟨⟨h1, h2⟩, h3, h4⟩ := h.2 i hi
  refine ⟨⟨?_, ?_⟩, by rw [World.frozen?_setCell, World.frozen?_setCell]; exact h3, by rw [World.frozen?_setCell, World.frozen?_setCell]; exact h4⟩
  · dsimp only
    rw [World.cell?_setCell_other _ _ _ _ (by intro hh; simp only [Addr.mk.injEq] at hh; omega)]
    by_cases e : i = k
    · subst e
      rw [if_pos rfl]
      exact World.cell?_setCell_same w _ _ h1
    · rw [if_neg e, World.cell?_setCell_other _ _ _ _ (by intro hh; simp only [Addr.mk.injEq] at hh; omega)]
      exact h1
  · dsimp only
    by_cases e : i = k
    · subst e
      rw [if_pos rfl]
      refine World.cell?_setCell_same _ _ _ (u := .string (canon (f i)).mag) ?_
      rw [World.cell?_setCell_other _ _ _ _ (by intro hh; simp only [Addr.mk.injEq] at hh; omega)]
      exact h2
    · rw [if_neg e, World.cell?_setCell_other _ _ _ _ (by intro hh; simp only [Addr.mk.injEq] at hh; omega), World.cell?_setCell_other _ _ _ _ (by intro hh; simp only [Addr.mk.injEq] at hh; omega)]
      exact h2
theorem ZAt.other {w : World} {g n : Nat} {f : Nat → Int} (h : ZAt w g n f) (a : Addr) (v : Value) (hne : a.block ≠ g) : ZAt (w.setCell a v) g n f := by
  refine ⟨by simpa using h.1, fun i hi => ?_⟩
  obtain ⟨⟨h1, h2⟩, h3, h4⟩ := h.2 i hi
  refine ⟨⟨?_, ?_⟩, by rw [World.frozen?_setCell]; exact h3, by rw [World.frozen?_setCell]; exact h4⟩
  · rw [World.cell?_setCell_other _ _ _ _ (by intro hh; rw [hh] at hne; exact hne rfl)]; exact h1
  · rw [World.cell?_setCell_other _ _ _ _ (by intro hh; rw [hh] at hne; exact hne rfl)]; exact h2
/-- Block g begins with n cells h, and may be written. -/
def HAt (w : World) (g n : Nat) (h : Nat → Value) : Prop := g < w.heap.size ∧ ∀ k, k < n → w.cell? ⟨g, k, none⟩ = some (h k) ∧ w.frozen? ⟨g, k, none⟩ = false
theorem HAt.below {w w' : World} {g n B : Nat} {f : Nat → Value} (h : HAt w g n f) (hb : Below B w w') (hg : g < B) : HAt w' g n f :=
  ⟨Nat.lt_of_lt_of_le h.1 hb.size, fun k hk => ⟨(hb.cell (p := ⟨g, _, none⟩) hg).trans (h.2 k hk).1, (hb.frozen (p := ⟨g, _, none⟩) hg).trans (h.2 k hk).2⟩⟩
theorem HAt.congr {w : World} {g n : Nat} {f h : Nat → Value} (hz : HAt w g n f) (e : ∀ k, k < n → f k = h k) : HAt w g n h := ⟨hz.1, fun k hk => by rw [← e k hk]; exact hz.2 k hk⟩
theorem HAt.set {w : World} {g n k : Nat} {f : Nat → Value} (h : HAt w g n f) (v : Value) : HAt (w.setCell ⟨g, k, none⟩ v) g n (fun i => if i = k then v else f i) := by
  refine ⟨by simpa using h.1, fun i hi => ⟨?_, by rw [World.frozen?_setCell]; exact (h.2 i hi).2⟩⟩
  by_cases e : i = k
  · subst e
    show _ = some (if i = i then v else f i)
    rw [if_pos rfl]; exact World.cell?_setCell_same w _ _ (h.2 i hi).1
  · show _ = some (if i = k then v else f i)
    rw [if_neg e, World.cell?_setCell_other _ _ _ _ (by intro hh; cases hh; exact e rfl)]; exact (h.2 i hi).1
theorem HAt.other {w : World} {g n : Nat} {f : Nat → Value} (h : HAt w g n f) (a : Addr) (v : Value) (hne : a.block ≠ g) : HAt (w.setCell a v) g n f :=
  ⟨by simpa using h.1, fun i hi => ⟨by rw [World.cell?_setCell_other _ _ _ _ (by intro hh; rw [hh] at hne; exact hne rfl)]; exact (h.2 i hi).1, by rw [World.frozen?_setCell]; exact (h.2 i hi).2⟩⟩
/-- A matrix of the call's own: its rows in blocks A of their own, behind B. -/
def OwnMat (w : World) (B g r c : Nat) (F : Nat → Nat → Int) : Prop := ∃ A : Nat → Nat, HAt w g r (fun i => .slice (some ⟨A i, 0, none⟩) c c) ∧ (∀ i, i < r → ZAt w (A i) c (F i) ∧ B ≤ A i ∧ A i ≠ g) ∧ B ≤ g
theorem OwnMat.low {w : World} {B C g r c : Nat} {F : Nat → Nat → Int} (h : OwnMat w B g r c F) (hC : C ≤ B) : OwnMat w C g r c F := by
  obtain ⟨A, h1, h2, h3⟩ := h
  exact ⟨A, h1, fun i hi => ⟨(h2 i hi).1, Nat.le_trans hC (h2 i hi).2.1, (h2 i hi).2.2⟩, Nat.le_trans hC h3⟩
theorem OwnMat.call {w w' : World} {B g r c : Nat} {F : Nat → Nat → Int} (h : OwnMat w B g r c F) (hb : Below w.heap.size w w') : OwnMat w' B g r c F := by
  obtain ⟨A, h1, h2, h3⟩ := h
  exact ⟨A, h1.below hb h1.1, fun i hi => ⟨(h2 i hi).1.below hb (h2 i hi).1.1, (h2 i hi).2⟩, h3⟩
theorem OwnMat.other {w : World} {B g r c : Nat} {F : Nat → Nat → Int} (h : OwnMat w B g r c F) (a : Addr) (v : Value) (ha : a.block < B) : OwnMat (w.setCell a v) B g r c F := by
  obtain ⟨A, h1, h2, h3⟩ := h
  exact ⟨A, h1.other _ _ (by omega), fun i hi => ⟨(h2 i hi).1.other _ _ (by have := (h2 i hi).2.1; omega), (h2 i hi).2⟩, h3⟩
theorem OwnMat.congr {w : World} {B g r c : Nat} {F G : Nat → Nat → Int} (h : OwnMat w B g r c F) (e : ∀ i k, i < r → k < c → F i k = G i k) : OwnMat w B g r c G := by
  obtain ⟨A, h1, h2, h3⟩ := h
  exact ⟨A, h1, fun i hi => ⟨(h2 i hi).1.congr fun k hk => e i k hi hk, (h2 i hi).2⟩, h3⟩
theorem made_zero (w : World) (n : Nat) (t : TypeId) : ZAt (w.alloc (.cells (madeCells #[.bool false, .string ⟨#[]⟩] (n * 2)) t)) w.heap.size n (fun _ => 0) := by
  have hblk : (w.alloc (.cells (madeCells #[.bool false, .string ⟨#[]⟩] (n * 2)) t)).heap[w.heap.size]? = some (.cells (madeCells #[.bool false, .string ⟨#[]⟩] (n * 2)) t (0, 0)) := heap_alloc_new w _
  refine ⟨by simp, fun k hk => ⟨⟨?_, ?_⟩, ?_, ?_⟩⟩
  · unfold World.cell?; simp only [hblk]
    have h1 : k * 2 < n * 2 := by omega
    have c0 : canon 0 = ⟨false, ⟨#[]⟩⟩ := by rfl
    simp [madeCells, h1, c0]
  · unfold World.cell?; simp only [hblk]
    have h1 : k * 2 + 1 < n * 2 := by omega
    have h2 : (k * 2 + 1) % 2 = 1 := by omega
    have c0 : canon 0 = ⟨false, ⟨#[]⟩⟩ := by rfl
    simp [madeCells, h1, h2, c0]
  · unfold World.frozen?; simp only [hblk]; simp
  · unfold World.frozen?; simp only [hblk]; simp
theorem made_hdr (w : World) (n : Nat) (t : TypeId) : HAt (w.alloc (.cells (madeCells #[.slice none 0 0] n) t)) w.heap.size n (fun _ => .slice none 0 0) := by
  have hblk : (w.alloc (.cells (madeCells #[.slice none 0 0] n) t)).heap[w.heap.size]? = some (.cells (madeCells #[.slice none 0 0] n) t (0, 0)) := heap_alloc_new w _
  refine ⟨by simp, fun k hk => ⟨?_, ?_⟩⟩
  · unfold World.cell?; simp only [hblk]
    simp [madeCells, hk, Nat.mod_one]
  · unfold World.frozen?; simp only [hblk]; simp
end Go.Proofs.Ytcafeffgaokiaaa
