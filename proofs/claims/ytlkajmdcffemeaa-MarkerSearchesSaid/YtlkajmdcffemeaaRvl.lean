/- The walk of grooveref49.valid. -/
import Derived.Test.YtlkajmdcffemeaaOnl
import Derived.Test.YtlkajmdcffemeaaQ1
import Derived.Test.YtlkajmdcffemeaaRst
import Derived.Deep.DeepCutAuto
namespace Go.Proofs.Ytlkajmdcffemeaa
open Go.RowKit

theorem below_then {w0 w w' : World} {B : Nat} (h : Below B w0 w) (hB : B ≤ w.heap.size) (hb : Below w.heap.size w w') : Below B w0 w' := h.trans (hb.mono hB)

theorem onlyB_good {b k : Nat} {sh : Int} {m u : ByteArray} {ws : List ByteArray} : onlyB (slipL b m ws (k, sh, u)) ws.length k sh = true ↔ GoodS b m ws (k, sh, u) := by
  unfold onlyB GoodS
  rw [Bool.and_eq_true, beq_iff_eq]
theorem trackL_set {m u : ByteArray} {ws : List ByteArray} {k : Nat} (hk : k < ws.length) : trackL m (ws.set k u) = trackL m (ws.take k) ++ (u.data.toList ++ (m.data.toList ++ trackL m (ws.drop (k + 1)))) := by
  rw [List.set_eq_take_append_cons_drop, if_pos hk]
  unfold trackL
  rw [List.flatMap_append, List.flatMap_cons, append_list, List.append_assoc]
theorem track_put {m x1 x2 : ByteArray} {ws : List ByteArray} {k : Nat} (hk : k < ws.length) :
    (⟨(trackL m (ws.take k)).toArray⟩ : ByteArray) ++ x1 ++ x2 ++ (m ++ ⟨(trackL m (ws.drop (k + 1))).toArray⟩) = ⟨(trackL m (ws.set k (x1 ++ x2))).toArray⟩ := by
  apply bytes_eq
  rw [trackL_set hk]
  simp only [append_list, List.append_assoc]
theorem track_put3 {m x1 x2 x3 : ByteArray} {ws : List ByteArray} {k : Nat} (hk : k < ws.length) :
    (⟨(trackL m (ws.take k)).toArray⟩ : ByteArray) ++ x1 ++ x2 ++ x3 ++ (m ++ ⟨(trackL m (ws.drop (k + 1))).toArray⟩) = ⟨(trackL m (ws.set k (x1 ++ x2 ++ x3))).toArray⟩ := by
  apply bytes_eq
  rw [trackL_set hk]
  simp only [append_list, List.append_assoc]
theorem StrsAt.takeN {w : World} {p : Option Addr} {ws : List ByteArray} (h : StrsAt w p ws) (k : Nat) (hk : k ≤ ws.length) : StrsAt w p (ws.take k) := by
  rcases h with h | ⟨b, off, rfl, hlt, hc⟩
  · left; rw [List.length_take]; omega
  · refine .inr ⟨b, off, rfl, hlt, fun i hi j hj => ?_⟩
    rw [List.length_take] at hi
    rw [hc i (by omega) j hj]
    simp only [List.getD_eq_getElem?_getD]
    rw [List.getElem?_take_of_lt (by omega)]
theorem StrsAt.dropN {w : World} {b off : Nat} {ws : List ByteArray} (h : StrsAt w (some ⟨b, off, none⟩) ws) (q : Nat) (hq : q ≤ ws.length) : StrsAt w (some ⟨b, off + q, none⟩) (ws.drop q) := by
  rcases h with h | ⟨b', off', he, hlt, hc⟩
  · left; rw [List.length_drop]; omega
  · cases he
    refine .inr ⟨b, off + q, rfl, hlt, fun i hi j hj => ?_⟩
    rw [List.length_drop] at hi
    have := hc (q + i) (by omega) j hj
    rw [show off + q + i * 1 + j = off + (q + i) * 1 + j from by omega, this]
    simp only [List.getD_eq_getElem?_getD]
    rw [List.getElem?_drop]

set_option maxRecDepth 100000 in
set_option maxHeartbeats 1500000 in
theorem refValid_any (b : Nat) (m : ByteArray) (ws : List ByteArray) (p : Option Addr) (c : Nat) (hb1 : 1 ≤ b) (hb2 : b ≤ 100000) (hm : 0 < m.size) (hm2 : m.size ≤ 100000) (hz : ∀ x ∈ ws, x.size = b) (hn : ws.length * (b + m.size) ≤ 1024) (hc : ws.length ≤ c) (hc2 : c ≤ maxLen) (w : World) (hS : StrsAt w p ws) :
    Calls Try.prog 59 #[.int .i64 (b : Int), .string m, .slice p ws.length c] w (RetIff (ValidP b m ws) w) := by
  have hwl : ws.length ≤ 1024 := Nat.le_trans (by have := Nat.le_mul_of_pos_right ws.length (show 0 < b + m.size by omega); exact this) hn
  have HS := Lib.hid hS
  have HZ := Lib.hid hz
  have HN := Lib.hid hn
  clear hS hz hn
  go_enter Try.func59, Try.ntmps59
  go_wp2
  go_loopw [7] (fun v wr => ∃ k : Nat, k ≤ ws.length ∧ v = .int .i64 k ∧ Hid (Below w.heap.size w wr) ∧ Hid (∀ y, SlipOf ws y → y.1 < k → GoodS b m ws y)) (fun v _ => ws.length - (intOf v).toNat)
  case atStart => exact ⟨0, by omega, rfl, Lib.hid (Below.refl _ _), Lib.hid (fun y _ h => by omega)⟩
  case round =>
    obtain ⟨k, hk, rfl, Hb, Hcov⟩ := hrel
    by_cases hkl : k < ws.length
    · have hk1 : (k : Int) < (ws.length : Int) := by omega
      have hk0 : (0 : Int) ≤ (k : Int) := by omega
      have HSr := Lib.hid (HS.out.below (Nat.le_refl _) Hb.out)
      obtain ⟨sb, so, rfl, hsb, hsc⟩ := StrsAt.cells HSr.out hkl
      obtain ⟨x, hxe⟩ : ∃ x, ws.getD k ByteArray.empty = x := ⟨_, rfl⟩
      have hxz : x.size = b := by rw [← hxe]; exact HZ.out _ (getD_mem ws k ByteArray.empty hkl)
      have Hxe := Lib.hid hxe
      clear hsc hxe
      go_wp2
      go_loopw [8] (fun v wr => ∃ i : Nat, i ≤ b + 1 ∧ v = .int .i64 i ∧ Hid (Below w.heap.size w wr) ∧ Hid (∀ j, j < i → j < b → GoodS b m ws (k, -1, dropAt x j)) ∧ Hid (∀ j e, j < i → e < 2 → GoodS b m ws (k, 1, insAt x j (bitC e)))) (fun v _ => b + 1 - (intOf v).toNat)
      case atStart => exact ⟨0, by omega, rfl, Hb, Lib.hid (fun j h => by omega), Lib.hid (fun j e h => by omega)⟩
      case round =>
        clear Hb HSr
        obtain ⟨i, hi, rfl, Hb, Hdr, Hin⟩ := hrel
        by_cases hib : i ≤ b
        · have hibI : (i : Int) ≤ (b : Int) := by omega
          have hi0 : (0 : Int) ≤ (i : Int) := by omega
          have HSr := Lib.hid (HS.out.below (Nat.le_refl _) Hb.out)
          obtain ⟨sb', so', he, _, hsc⟩ := StrsAt.cells HSr.out hkl
          cases he
          have hcx := hsc k hkl
          rw [Hxe.out] at hcx
          obtain ⟨q, hq⟩ : ∃ q, k + 1 = q := ⟨_, rfl⟩
          have ew : IntKind.i64.wrap ((k : Int) + 1) = (q : Int) := by rw [IntWalk.i64_in _ (by omega)]; omega
          have q0 : (0 : Int) ≤ (q : Int) := by omega
          have q1 : (q : Int) ≤ (ws.length : Int) := by omega
          have kc : (k : Int) ≤ (c : Int) := by omega
          have kcN : k ≤ c := by omega
          have qcN : q ≤ c := by omega
          have qlN : q ≤ ws.length := by omega
          obtain ⟨bf, hbf⟩ : ∃ bf : ByteArray, ⟨(trackL m (ws.take k)).toArray⟩ = bf := ⟨_, rfl⟩
          obtain ⟨bh, hbh⟩ : ∃ bh : ByteArray, ⟨(trackL m (ws.drop q)).toArray⟩ = bh := ⟨_, rfl⟩
          have htot : (trackL m ws).length ≤ 1024 := by
            have h1 := trackL_len m b ws (fun x hx => by rw [HZ.out x hx]; exact Nat.le_refl _)
            exact Nat.le_trans h1 HN.out
          have hl1 : (trackL m (ws.take k)).length ≤ 1024 := Nat.le_trans (trackL_take_le _ _ _) htot
          have hl2 : (trackL m (ws.drop q)).length ≤ 1024 := by
            have h1 := trackL_len m b (ws.drop q) (fun x hx => by rw [HZ.out x (List.mem_of_mem_drop hx)]; exact Nat.le_refl _)
            have h2 : (ws.drop q).length * (b + m.size) ≤ ws.length * (b + m.size) := Nat.mul_le_mul_right _ (by rw [List.length_drop]; omega)
            have := HN.out; omega
          have hz1 : bf.size ≤ 1024 := by rw [← hbf]; exact hl1
          have hz2 : bh.size ≤ 1024 := by rw [← hbh]; exact hl2
          have HT1 : Hid (∀ n, Calls Try.prog 45 #[.string m, .slice (some ⟨sb, so, none⟩) k c] (wr.drewN n) fun e w' => e = .returned (.string bf) ∧ wr.drewN n = w') := Lib.hid (fun n => by
            have h := refTrack_any m (ws.take k) (some ⟨sb, so, none⟩) c (wr.drewN n) ((HSr.out.takeN k hk).below (Nat.le_refl _) (Drawn.below ⟨n, rfl⟩ _)) (by rw [List.length_take]; omega) (by omega)
            rw [List.length_take, Nat.min_eq_left hk, hbf] at h
            exact h)
          obtain ⟨PB, hPB⟩ : ∃ PB, (if c = q then some ⟨sb, so, none⟩ else some ⟨sb, so + q, none⟩ : Option Addr) = PB := ⟨_, rfl⟩
          have HT2 : Hid (∀ n, Calls Try.prog 45 #[.string m, .slice PB (ws.length - q) (c - q)] (wr.drewN n) fun e w' => e = .returned (.string bh) ∧ wr.drewN n = w') := Lib.hid (fun n => by
            have hS2 : StrsAt wr PB (ws.drop q) := by
              by_cases e : c = q
              · left; rw [List.length_drop]; omega
              · rw [← hPB, if_neg e]; exact HSr.out.dropN q qlN
            have h := refTrack_any m (ws.drop q) PB (c - q) (wr.drewN n) (hS2.below (Nat.le_refl _) (Drawn.below ⟨n, rfl⟩ _)) (by rw [List.length_drop]; omega) (by omega)
            rw [List.length_drop, hbh] at h
            exact h)
          have Hbf := Lib.hid hbf
          have Hbh := Lib.hid hbh
          have Hq := Lib.hid hq
          have hs1 : ¬ 9223372036854775807 < m.size + bh.size := by omega
          obtain ⟨R, hR1, hR2⟩ : ∃ R : Nat → ByteArray, R c = bf ∧ R (c - q) = bh := ⟨fun l => if l = c then bf else bh, if_pos rfl, if_neg (by omega)⟩
          have HT : Hid (∀ (pp : Option Addr) (l c' n : Nat), (pp = some ⟨sb, so, none⟩ ∧ l = k ∧ c' = c) ∨ (pp = PB ∧ l = ws.length - q ∧ c' = c - q) → Calls Try.prog 45 #[.string m, .slice pp l c'] (wr.drewN n) fun e w' => e = .returned (.string (R c')) ∧ wr.drewN n = w') := Lib.hid (fun pp l c' n h => by
            rcases h with ⟨rfl, rfl, rfl⟩ | ⟨rfl, rfl, rfl⟩
            · rw [hR1]; exact HT1.out n
            · rw [hR2]; exact HT2.out n)
          clear hsc htot hl1 hl2 hbf hbh hq HT1 HT2
          go_wp2
          go_quiet ((go_at_call 45; exact quiet_l (HT.out _ _ _ _ (by first | exact .inl ⟨rfl, rfl, rfl⟩ | exact .inr ⟨rfl, rfl, rfl⟩))))
          rw [hR1]
          have Hb5 := Lib.hid (Hb.out.trans (Drawn.below (Drawn.drewN (Drawn.refl wr) nq) _))
          generalize wr.drewN nq = w5 at *
          obtain ⟨r, hr⟩ : ∃ r, i + 1 = r := ⟨_, rfl⟩
          have er : IntKind.i64.wrap ((i : Int) + 1) = (r : Int) := by rw [IntWalk.i64_in _ (by omega)]; omega
          have r0 : (0 : Int) ≤ (r : Int) := by omega
          have hmb : (m ++ bh).size ≤ 200000 := by rw [ByteArray.size_append]; omega
          obtain ⟨T, hT⟩ : ∃ T : ByteArray → ByteArray, T = fun u => ⟨(trackL m (ws.set k u)).toArray⟩ := ⟨_, rfl⟩
          have hTd : bf ++ x.extract 0 i ++ x.extract r b ++ (m ++ bh) = T (dropAt x i) := by
            rw [hT, ← Hbf.out, ← Hbh.out, ← Hq.out, track_put hkl]; unfold dropAt; rw [hr, hxz]
          have hTi : ∀ cc, bf ++ x.extract 0 i ++ cc ++ x.extract i b ++ (m ++ bh) = T (insAt x i cc) := fun cc => by
            rw [hT, ← Hbf.out, ← Hbh.out, ← Hq.out]
            have := track_put3 (m := m) (x1 := x.extract 0 i) (x2 := cc) (x3 := x.extract i b) hkl
            rw [this]; unfold insAt; rw [hxz]
          have hTs : ∀ u, u.size ≤ b + 1 → (T u).size ≤ 1000000 := fun u hu => by
            have h1 := trackL_len m (b + 1) (ws.set k u) (fun y hy => by
              rcases List.mem_or_eq_of_mem_set hy with h | h
              · have := HZ.out y h; omega
              · rw [h]; exact hu)
            rw [List.length_set] at h1
            have h2 : ws.length * (b + 1 + m.size) = ws.length * (b + m.size) + ws.length := by rw [show b + 1 + m.size = (b + m.size) + 1 from by omega, Nat.mul_succ]
            have h3 := HN.out
            rw [hT]; show (trackL m (ws.set k u)).length ≤ _
            omega
          have hbit : ∀ e, (bitC e).size = 1 := fun e => by unfold bitC; split <;> rfl
          have hins : ∀ e, (insAt x i (bitC e)).size ≤ b + 1 := fun e => by
            unfold insAt; rw [ByteArray.size_append, ByteArray.size_append, ByteArray.size_extract, ByteArray.size_extract, hbit]; omega
          have HO1 : Hid (∀ W, Calls Try.prog 77 #[.int .i64 (b : Int), .string m, .string (bf ++ x.extract 0 i ++ ⟨#[48]⟩ ++ x.extract i b ++ (m ++ bh)), .int .i64 (ws.length : Int), .int .i64 (k : Int), .int .i64 1] W fun e w' => e = .returned (.bool (onlyB (slipL b m ws (k, 1, insAt x i (bitC 0))) ws.length k 1)) ∧ Below W.heap.size W w') := Lib.hid (fun W => by
            have h := only_any b ws.length k 1 m (T (insAt x i (bitC 0))) hb1 hb2 hm hm2 (by have := hTs _ (hins 0); omega) (by omega) W
            rw [hTi ⟨#[48]⟩]
            rw [hT] at h ⊢; exact h)
          have HO2 : Hid (∀ W, Calls Try.prog 77 #[.int .i64 (b : Int), .string m, .string (bf ++ x.extract 0 i ++ ⟨#[49]⟩ ++ x.extract i b ++ (m ++ bh)), .int .i64 (ws.length : Int), .int .i64 (k : Int), .int .i64 1] W fun e w' => e = .returned (.bool (onlyB (slipL b m ws (k, 1, insAt x i (bitC 1))) ws.length k 1)) ∧ Below W.heap.size W w') := Lib.hid (fun W => by
            have h := only_any b ws.length k 1 m (T (insAt x i (bitC 1))) hb1 hb2 hm hm2 (by have := hTs _ (hins 1); omega) (by omega) W
            rw [hTi ⟨#[49]⟩]
            rw [hT] at h ⊢; exact h)
          have HO0 : Hid (i < b → ∀ W, Calls Try.prog 77 #[.int .i64 (b : Int), .string m, .string (bf ++ x.extract 0 i ++ x.extract r b ++ (m ++ bh)), .int .i64 (ws.length : Int), .int .i64 (k : Int), .int .i64 (-1)] W fun e w' => e = .returned (.bool (onlyB (slipL b m ws (k, -1, dropAt x i)) ws.length k (-1))) ∧ Below W.heap.size W w') := Lib.hid (fun hlt W => by
            have h := only_any b ws.length k (-1) m (T (dropAt x i)) hb1 hb2 hm hm2 (by
              have := hTs (dropAt x i) (by unfold dropAt; rw [ByteArray.size_append, ByteArray.size_extract, ByteArray.size_extract]; omega); omega) (by omega) W
            rw [hTd]
            rw [hT] at h ⊢; exact h)
          have G0 : Hid (onlyB (slipL b m ws (k, -1, dropAt x i)) ws.length k (-1) = true ↔ GoodS b m ws (k, -1, dropAt x i)) := Lib.hid onlyB_good
          have G1 : Hid (onlyB (slipL b m ws (k, 1, insAt x i (bitC 0))) ws.length k 1 = true ↔ GoodS b m ws (k, 1, insAt x i (bitC 0))) := Lib.hid onlyB_good
          have G2 : Hid (onlyB (slipL b m ws (k, 1, insAt x i (bitC 1))) ws.length k 1 = true ↔ GoodS b m ws (k, 1, insAt x i (bitC 1))) := Lib.hid onlyB_good
          have S0 : Hid (i < b → SlipOf ws (k, -1, dropAt x i)) := Lib.hid (fun h => ⟨hkl, .inl ⟨i, by rw [Hxe.out, hxz]; exact h, by rw [Hxe.out]⟩⟩)
          have S1 : Hid (SlipOf ws (k, 1, insAt x i (bitC 0))) := Lib.hid ⟨hkl, .inr ⟨i, 0, by rw [Hxe.out, hxz]; omega, by omega, by rw [Hxe.out]⟩⟩
          have S2 : Hid (SlipOf ws (k, 1, insAt x i (bitC 1))) := Lib.hid ⟨hkl, .inr ⟨i, 1, by rw [Hxe.out, hxz]; omega, by omega, by rw [Hxe.out]⟩⟩
          generalize onlyB (slipL b m ws (k, -1, dropAt x i)) ws.length k (-1) = R0 at *
          generalize onlyB (slipL b m ws (k, 1, insAt x i (bitC 0))) ws.length k 1 = R1 at *
          generalize onlyB (slipL b m ws (k, 1, insAt x i (bitC 1))) ws.length k 1 = R2 at *
          clear hTd hTi hTs hT hbit hins
          obtain ⟨MB, hMB⟩ : ∃ MB, m ++ bh = MB := ⟨_, rfl⟩
          rw [hMB] at HO0 HO1 HO2 hmb ⊢
          have n1 : ¬ 9223372036854775807 < bf.size + i := by omega
          have n2 : ¬ 9223372036854775807 < bf.size + i + (b - r) := by omega
          have n3 : ¬ 9223372036854775807 < bf.size + i + (b - r) + MB.size := by omega
          have n4 : ¬ 9223372036854775807 < bf.size + i + 1 := by omega
          have n5 : ¬ 9223372036854775807 < bf.size + i + 1 + (b - i) := by omega
          have n6 : ¬ 9223372036854775807 < bf.size + i + 1 + (b - i) + MB.size := by omega
          have Hr := Lib.hid hr
          have Hib := Lib.hid (show i ≤ b ∧ b ≤ 100000 from ⟨hib, hb2⟩)
          clear hMB hr hR1 hR2 HT hPB Hb HSr hcx
          go_wp2
          go_cut [63] (fun v wx => ∃ d : Bool, v = .bool d ∧ Hid (Below w.heap.size w wx) ∧ Hid (d = true → ¬ ValidP b m ws) ∧ Hid (d = false → ∀ j, j < i + 1 → j < b → GoodS b m ws (k, -1, dropAt x j)))
          case first =>
            by_cases hlt : i < b
            · have hltD : decide ((i : Int) < (b : Int)) = true := by rw [decide_eq_true_eq]; omega
              have hltI : (i : Int) < (b : Int) := by omega
              have r1 : (r : Int) ≤ (b : Int) := by have := Hr.out; omega
              have rN : r ≤ b := by have := Hr.out; omega
              have HO0' := Lib.hid (HO0.out hlt)
              have S0' := Lib.hid (S0.out hlt)
              refine wp_region_held_drew (S := fun _ => True) (by kernel_rfl) trivial (fun _ => ?_)
              refine wpAnyH_take (i := 0) (v := ?_) rfl (by kernel_rfl) (by kernel_rfl) (by kernel_rfl) (fun _ _ _ h => h) (Or.inl ⟨by rfl, ?_⟩) trivial ?_
              rotate_left 1
              next => intro w hSw; go_simp; try with_reducible rfl
              simp only [Act.put, List.getElem_toArray, List.getElem_cons_zero, List.getElem_cons_succ, List.setIfInBounds_toArray, List.set_cons_zero, List.set_cons_succ]
              refine wpAnyH_take (i := 1) (v := ?_) rfl (by kernel_rfl) (by kernel_rfl) (by kernel_rfl) (fun _ _ _ h => h) (Or.inl ⟨by rfl, ?_⟩) trivial ?_
              rotate_left 1
              next => intro w hSw; go_simp; try with_reducible rfl
              simp only [Act.put, List.getElem_toArray, List.getElem_cons_zero, List.getElem_cons_succ, List.setIfInBounds_toArray, List.set_cons_zero, List.set_cons_succ]
              refine wpAnyH_take (i := 2) (v := ?_) rfl (by kernel_rfl) (by kernel_rfl) (by kernel_rfl) (fun _ _ _ h => h) (Or.inl ⟨by rfl, ?_⟩) trivial ?_
              rotate_left 1
              next => intro w hSw; go_simp; try with_reducible rfl
              simp only [Act.put, List.getElem_toArray, List.getElem_cons_zero, List.getElem_cons_succ, List.setIfInBounds_toArray, List.set_cons_zero, List.set_cons_succ]
              refine wpAnyH_take (i := 3) (v := ?_) rfl (by kernel_rfl) (by kernel_rfl) (by kernel_rfl) (fun _ _ _ h => h) (Or.inl ⟨by rfl, ?_⟩) trivial ?_
              rotate_left 1
              next => intro w hSw; go_simp; try with_reducible rfl
              simp only [Act.put, List.getElem_toArray, List.getElem_cons_zero, List.getElem_cons_succ, List.setIfInBounds_toArray, List.set_cons_zero, List.set_cons_succ]
              refine wpAnyH_take (i := 4) (v := ?_) rfl (by kernel_rfl) (by kernel_rfl) (by kernel_rfl) (fun _ _ _ h => h) (Or.inl ⟨by rfl, ?_⟩) trivial ?_
              rotate_left 1
              next => intro w hSw; go_simp; try with_reducible rfl
              simp only [Act.put, List.getElem_toArray, List.getElem_cons_zero, List.getElem_cons_succ, List.setIfInBounds_toArray, List.set_cons_zero, List.set_cons_succ]
              refine wpAnyH_take (i := 5) (v := ?_) rfl (by kernel_rfl) (by kernel_rfl) (by kernel_rfl) (fun _ _ _ h => h) (Or.inl ⟨by rfl, ?_⟩) trivial ?_
              rotate_left 1
              next => intro w hSw; go_simp; try with_reducible rfl
              simp only [Act.put, List.getElem_toArray, List.getElem_cons_zero, List.getElem_cons_succ, List.setIfInBounds_toArray, List.set_cons_zero, List.set_cons_succ]
              refine wpAnyH_take (i := 6) (v := ?_) rfl (by kernel_rfl) (by kernel_rfl) (by kernel_rfl) (fun _ _ _ h => h) (Or.inl ⟨by rfl, ?_⟩) trivial ?_
              rotate_left 1
              next => intro w hSw; go_simp; try with_reducible rfl
              simp only [Act.put, List.getElem_toArray, List.getElem_cons_zero, List.getElem_cons_succ, List.setIfInBounds_toArray, List.set_cons_zero, List.set_cons_succ]
              refine wpAnyH_take (i := 7) (v := ?_) rfl (by kernel_rfl) (by kernel_rfl) (by kernel_rfl) (fun _ _ _ h => h) (Or.inl ⟨by rfl, ?_⟩) trivial ?_
              rotate_left 1
              next => intro w hSw; go_simp; try with_reducible rfl
              simp only [Act.put, List.getElem_toArray, List.getElem_cons_zero, List.getElem_cons_succ, List.setIfInBounds_toArray, List.set_cons_zero, List.set_cons_succ]
              refine wpAnyH_take (i := 8) (v := ?_) rfl (by kernel_rfl) (by kernel_rfl) (by kernel_rfl) (fun _ _ _ h => h) (Or.inl ⟨by rfl, ?_⟩) trivial ?_
              rotate_left 1
              next => intro w hSw; go_simp; try with_reducible rfl
              simp only [Act.put, List.getElem_toArray, List.getElem_cons_zero, List.getElem_cons_succ, List.setIfInBounds_toArray, List.set_cons_zero, List.set_cons_succ]
              refine wpAnyH_take (i := 9) (v := ?_) rfl (by kernel_rfl) (by kernel_rfl) (by kernel_rfl) (fun _ _ _ h => h) (Or.inl ⟨by rfl, ?_⟩) trivial ?_
              rotate_left 1
              next => intro w hSw; go_simp; try with_reducible rfl
              simp only [Act.put, List.getElem_toArray, List.getElem_cons_zero, List.getElem_cons_succ, List.setIfInBounds_toArray, List.set_cons_zero, List.set_cons_succ]
              refine wpAnyH_take (i := 10) (v := ?_) rfl (by kernel_rfl) (by kernel_rfl) (by kernel_rfl) (fun _ _ _ h => h) (Or.inl ⟨by rfl, ?_⟩) trivial ?_
              rotate_left 1
              next => intro w hSw; go_simp; try with_reducible rfl
              simp only [Act.put, List.getElem_toArray, List.getElem_cons_zero, List.getElem_cons_succ, List.setIfInBounds_toArray, List.set_cons_zero, List.set_cons_succ]
              refine wpAnyH_take (i := 11) (v := ?_) rfl (by kernel_rfl) (by kernel_rfl) (by kernel_rfl) (fun _ _ _ h => h) (Or.inl ⟨by rfl, ?_⟩) trivial ?_
              rotate_left 1
              next => intro w hSw; go_simp; try with_reducible rfl
              simp only [Act.put, List.getElem_toArray, List.getElem_cons_zero, List.getElem_cons_succ, List.setIfInBounds_toArray, List.set_cons_zero, List.set_cons_succ]
              refine wpAnyH_take (i := 12) (v := ?_) rfl (by kernel_rfl) (by kernel_rfl) (by kernel_rfl) (fun _ _ _ h => h) (Or.inl ⟨by rfl, ?_⟩) trivial ?_
              rotate_left 1
              next => intro w hSw; go_simp; try with_reducible rfl
              simp only [Act.put, List.getElem_toArray, List.getElem_cons_zero, List.getElem_cons_succ, List.setIfInBounds_toArray, List.set_cons_zero, List.set_cons_succ]
              refine wpAnyH_take (i := 13) (v := ?_) rfl (by kernel_rfl) (by kernel_rfl) (by kernel_rfl) (fun _ _ _ h => h) (Or.inl ⟨by rfl, ?_⟩) trivial ?_
              rotate_left 1
              next => intro w hSw; go_simp; try with_reducible rfl
              simp only [Act.put, List.getElem_toArray, List.getElem_cons_zero, List.getElem_cons_succ, List.setIfInBounds_toArray, List.set_cons_zero, List.set_cons_succ]
              refine wpAnyH_take (i := 14) (v := ?_) rfl (by kernel_rfl) (by kernel_rfl) (by kernel_rfl) (fun _ _ _ h => h) (Or.inl ⟨by rfl, ?_⟩) trivial ?_
              rotate_left 1
              next => intro w hSw; go_simp; try with_reducible rfl
              simp only [Act.put, List.getElem_toArray, List.getElem_cons_zero, List.getElem_cons_succ, List.setIfInBounds_toArray, List.set_cons_zero, List.set_cons_succ]
              refine wpAnyH_take (i := 15) (v := ?_) rfl (by kernel_rfl) (by kernel_rfl) (by kernel_rfl) (fun _ _ _ h => h) (Or.inl ⟨by rfl, ?_⟩) trivial ?_
              rotate_left 1
              next => intro w hSw; go_simp; try with_reducible rfl
              simp only [Act.put, List.getElem_toArray, List.getElem_cons_zero, List.getElem_cons_succ, List.setIfInBounds_toArray, List.set_cons_zero, List.set_cons_succ]
              refine wpAnyH_take (i := 16) (v := ?_) rfl (by kernel_rfl) (by kernel_rfl) (by kernel_rfl) (fun _ _ _ h => h) (Or.inl ⟨by rfl, ?_⟩) trivial ?_
              rotate_left 1
              next => intro w hSw; go_simp; try with_reducible rfl
              simp only [Act.put, List.getElem_toArray, List.getElem_cons_zero, List.getElem_cons_succ, List.setIfInBounds_toArray, List.set_cons_zero, List.set_cons_succ]
              refine wpAnyH_take (i := 17) (v := ?_) rfl (by kernel_rfl) (by kernel_rfl) (by kernel_rfl) (fun _ _ _ h => h) (Or.inl ⟨by rfl, ?_⟩) trivial ?_
              rotate_left 1
              next => intro w hSw; go_simp; try with_reducible rfl
              simp only [Act.put, List.getElem_toArray, List.getElem_cons_zero, List.getElem_cons_succ, List.setIfInBounds_toArray, List.set_cons_zero, List.set_cons_succ]
              refine wpAnyH_take (i := 18) (v := ?_) rfl (by kernel_rfl) (by kernel_rfl) (by kernel_rfl) (fun _ _ _ h => h) (Or.inl ⟨by rfl, ?_⟩) trivial ?_
              rotate_left 1
              next => intro w hSw; go_simp; try with_reducible rfl
              simp only [Act.put, List.getElem_toArray, List.getElem_cons_zero, List.getElem_cons_succ, List.setIfInBounds_toArray, List.set_cons_zero, List.set_cons_succ]
              refine wpAnyH_take (i := 19) (v := ?_) rfl (by kernel_rfl) (by kernel_rfl) (by kernel_rfl) (fun _ _ _ h => h) (Or.inl ⟨by rfl, ?_⟩) trivial ?_
              rotate_left 1
              next => intro w hSw; go_simp; try with_reducible rfl
              simp only [Act.put, List.getElem_toArray, List.getElem_cons_zero, List.getElem_cons_succ, List.setIfInBounds_toArray, List.set_cons_zero, List.set_cons_succ]
              refine wpAnyH_take (i := 20) (v := ?_) rfl (by kernel_rfl) (by kernel_rfl) (by kernel_rfl) (fun _ _ _ h => h) (Or.inl ⟨by rfl, ?_⟩) trivial ?_
              rotate_left 1
              next => intro w hSw; go_simp; try with_reducible rfl
              simp only [Act.put, List.getElem_toArray, List.getElem_cons_zero, List.getElem_cons_succ, List.setIfInBounds_toArray, List.set_cons_zero, List.set_cons_succ]
              refine wpAnyH_ready (rs := [21]) (by kernel_rfl) (by simp) ?_
              refine AllReadyH.cons rfl (fun K hK => ?_) AllReadyH.nil
              go_simp
              refine (HO0'.out _).mono ?_
              rintro e w6 ⟨rfl, hb⟩
              have Hb6 := Lib.hid (below_then Hb5.out.drew Hb5.out.drew.size hb)
              clear hb
              dsimp only
              refine hK.out _ _ trivial (fun _ => ?_)
              clear hK K
              refine wpAnyH_take (i := 22) (v := ?_) rfl (by kernel_rfl) (by kernel_rfl) (by kernel_rfl) (fun _ _ _ h => h) (Or.inl ⟨by rfl, ?_⟩) trivial ?_
              rotate_left 1
              next => intro w hSw; go_simp; try with_reducible rfl
              simp only [Act.put, List.getElem_toArray, List.getElem_cons_zero, List.getElem_cons_succ, List.setIfInBounds_toArray, List.set_cons_zero, List.set_cons_succ]
              refine wpAnyH_take (i := 23) (v := ?_) rfl (by kernel_rfl) (by kernel_rfl) (by kernel_rfl) (fun _ _ _ h => h) (Or.inl ⟨by rfl, ?_⟩) trivial ?_
              rotate_left 1
              next => intro w hSw; go_simp; try with_reducible rfl
              simp only [Act.put, List.getElem_toArray, List.getElem_cons_zero, List.getElem_cons_succ, List.setIfInBounds_toArray, List.set_cons_zero, List.set_cons_succ]
              refine wpAnyH_done (by kernel_rfl) ?_ _
              go_wp2_with fail
              go_meet
              case rel => exact ⟨!R0, rfl, Hb6, Lib.hid (fun h hv => by have := G0.out.2 (hv _ S0'.out); rw [this] at h; cases h), Lib.hid (fun h j hj hjb => by
                by_cases e1 : j = i
                · rw [e1]; exact G0.out.1 (by simpa using h)
                · exact Hdr.out j (by omega) hjb)⟩
            · have hltD : decide ((i : Int) < (b : Int)) = false := by rw [decide_eq_false_iff_not]; omega
              have hltI : ¬ (i : Int) < (b : Int) := by omega
              go_quiet (fail)
              go_wp2_with fail
              go_meet
              case rel => exact ⟨false, rfl, Lib.hid (Hb5.out.trans (Drawn.below (Drawn.drewN (Drawn.refl w5) nq) _)), Lib.hid (fun h => by cases h), Lib.hid (fun _ j hj hjb => Hdr.out j (by omega) hjb)⟩
          case rest =>
            obtain ⟨d, rfl, Hb6, HNd, HDd⟩ := hcut
            cases d
            · have HDr := Lib.hid (HDd.out rfl)
              clear HDd HNd
              go_wp2
              refine wp_region_held_drew (S := fun _ => True) (by kernel_rfl) trivial (fun _ => ?_)
              refine wpAnyH_take (i := 0) (v := ?_) rfl (by kernel_rfl) (by kernel_rfl) (by kernel_rfl) (fun _ _ _ h => h) (Or.inl ⟨by rfl, ?_⟩) trivial ?_
              rotate_left 1
              next => intro w hSw; go_simp; try with_reducible rfl
              simp only [Act.put, List.getElem_toArray, List.getElem_cons_zero, List.getElem_cons_succ, List.setIfInBounds_toArray, List.set_cons_zero, List.set_cons_succ]
              refine wpAnyH_take (i := 1) (v := ?_) rfl (by kernel_rfl) (by kernel_rfl) (by kernel_rfl) (fun _ _ _ h => h) (Or.inl ⟨by rfl, ?_⟩) trivial ?_
              rotate_left 1
              next => intro w hSw; go_simp; try with_reducible rfl
              simp only [Act.put, List.getElem_toArray, List.getElem_cons_zero, List.getElem_cons_succ, List.setIfInBounds_toArray, List.set_cons_zero, List.set_cons_succ]
              refine wpAnyH_take (i := 2) (v := ?_) rfl (by kernel_rfl) (by kernel_rfl) (by kernel_rfl) (fun _ _ _ h => h) (Or.inl ⟨by rfl, ?_⟩) trivial ?_
              rotate_left 1
              next => intro w hSw; go_simp; try with_reducible rfl
              simp only [Act.put, List.getElem_toArray, List.getElem_cons_zero, List.getElem_cons_succ, List.setIfInBounds_toArray, List.set_cons_zero, List.set_cons_succ]
              refine wpAnyH_take (i := 3) (v := ?_) rfl (by kernel_rfl) (by kernel_rfl) (by kernel_rfl) (fun _ _ _ h => h) (Or.inl ⟨by rfl, ?_⟩) trivial ?_
              rotate_left 1
              next => intro w hSw; go_simp; try with_reducible rfl
              simp only [Act.put, List.getElem_toArray, List.getElem_cons_zero, List.getElem_cons_succ, List.setIfInBounds_toArray, List.set_cons_zero, List.set_cons_succ]
              refine wpAnyH_take (i := 4) (v := ?_) rfl (by kernel_rfl) (by kernel_rfl) (by kernel_rfl) (fun _ _ _ h => h) (Or.inl ⟨by rfl, ?_⟩) trivial ?_
              rotate_left 1
              next => intro w hSw; go_simp; try with_reducible rfl
              simp only [Act.put, List.getElem_toArray, List.getElem_cons_zero, List.getElem_cons_succ, List.setIfInBounds_toArray, List.set_cons_zero, List.set_cons_succ]
              refine wpAnyH_take (i := 5) (v := ?_) rfl (by kernel_rfl) (by kernel_rfl) (by kernel_rfl) (fun _ _ _ h => h) (Or.inl ⟨by rfl, ?_⟩) trivial ?_
              rotate_left 1
              next => intro w hSw; go_simp; try with_reducible rfl
              simp only [Act.put, List.getElem_toArray, List.getElem_cons_zero, List.getElem_cons_succ, List.setIfInBounds_toArray, List.set_cons_zero, List.set_cons_succ]
              refine wpAnyH_take (i := 6) (v := ?_) rfl (by kernel_rfl) (by kernel_rfl) (by kernel_rfl) (fun _ _ _ h => h) (Or.inl ⟨by rfl, ?_⟩) trivial ?_
              rotate_left 1
              next => intro w hSw; go_simp; try with_reducible rfl
              simp only [Act.put, List.getElem_toArray, List.getElem_cons_zero, List.getElem_cons_succ, List.setIfInBounds_toArray, List.set_cons_zero, List.set_cons_succ]
              refine wpAnyH_take (i := 7) (v := ?_) rfl (by kernel_rfl) (by kernel_rfl) (by kernel_rfl) (fun _ _ _ h => h) (Or.inl ⟨by rfl, ?_⟩) trivial ?_
              rotate_left 1
              next => intro w hSw; go_simp; try with_reducible rfl
              simp only [Act.put, List.getElem_toArray, List.getElem_cons_zero, List.getElem_cons_succ, List.setIfInBounds_toArray, List.set_cons_zero, List.set_cons_succ]
              refine wpAnyH_take (i := 8) (v := ?_) rfl (by kernel_rfl) (by kernel_rfl) (by kernel_rfl) (fun _ _ _ h => h) (Or.inl ⟨by rfl, ?_⟩) trivial ?_
              rotate_left 1
              next => intro w hSw; go_simp; try with_reducible rfl
              simp only [Act.put, List.getElem_toArray, List.getElem_cons_zero, List.getElem_cons_succ, List.setIfInBounds_toArray, List.set_cons_zero, List.set_cons_succ]
              refine wpAnyH_take (i := 9) (v := ?_) rfl (by kernel_rfl) (by kernel_rfl) (by kernel_rfl) (fun _ _ _ h => h) (Or.inl ⟨by rfl, ?_⟩) trivial ?_
              rotate_left 1
              next => intro w hSw; go_simp; try with_reducible rfl
              simp only [Act.put, List.getElem_toArray, List.getElem_cons_zero, List.getElem_cons_succ, List.setIfInBounds_toArray, List.set_cons_zero, List.set_cons_succ]
              refine wpAnyH_take (i := 10) (v := ?_) rfl (by kernel_rfl) (by kernel_rfl) (by kernel_rfl) (fun _ _ _ h => h) (Or.inl ⟨by rfl, ?_⟩) trivial ?_
              rotate_left 1
              next => intro w hSw; go_simp; try with_reducible rfl
              simp only [Act.put, List.getElem_toArray, List.getElem_cons_zero, List.getElem_cons_succ, List.setIfInBounds_toArray, List.set_cons_zero, List.set_cons_succ]
              refine wpAnyH_take (i := 11) (v := ?_) rfl (by kernel_rfl) (by kernel_rfl) (by kernel_rfl) (fun _ _ _ h => h) (Or.inl ⟨by rfl, ?_⟩) trivial ?_
              rotate_left 1
              next => intro w hSw; go_simp; try with_reducible rfl
              simp only [Act.put, List.getElem_toArray, List.getElem_cons_zero, List.getElem_cons_succ, List.setIfInBounds_toArray, List.set_cons_zero, List.set_cons_succ]
              refine wpAnyH_take (i := 12) (v := ?_) rfl (by kernel_rfl) (by kernel_rfl) (by kernel_rfl) (fun _ _ _ h => h) (Or.inl ⟨by rfl, ?_⟩) trivial ?_
              rotate_left 1
              next => intro w hSw; go_simp; try with_reducible rfl
              simp only [Act.put, List.getElem_toArray, List.getElem_cons_zero, List.getElem_cons_succ, List.setIfInBounds_toArray, List.set_cons_zero, List.set_cons_succ]
              refine wpAnyH_take (i := 13) (v := ?_) rfl (by kernel_rfl) (by kernel_rfl) (by kernel_rfl) (fun _ _ _ h => h) (Or.inl ⟨by rfl, ?_⟩) trivial ?_
              rotate_left 1
              next => intro w hSw; go_simp; try with_reducible rfl
              simp only [Act.put, List.getElem_toArray, List.getElem_cons_zero, List.getElem_cons_succ, List.setIfInBounds_toArray, List.set_cons_zero, List.set_cons_succ]
              refine wpAnyH_take (i := 14) (v := ?_) rfl (by kernel_rfl) (by kernel_rfl) (by kernel_rfl) (fun _ _ _ h => h) (Or.inl ⟨by rfl, ?_⟩) trivial ?_
              rotate_left 1
              next => intro w hSw; go_simp; try with_reducible rfl
              simp only [Act.put, List.getElem_toArray, List.getElem_cons_zero, List.getElem_cons_succ, List.setIfInBounds_toArray, List.set_cons_zero, List.set_cons_succ]
              refine wpAnyH_take (i := 15) (v := ?_) rfl (by kernel_rfl) (by kernel_rfl) (by kernel_rfl) (fun _ _ _ h => h) (Or.inl ⟨by rfl, ?_⟩) trivial ?_
              rotate_left 1
              next => intro w hSw; go_simp; try with_reducible rfl
              simp only [Act.put, List.getElem_toArray, List.getElem_cons_zero, List.getElem_cons_succ, List.setIfInBounds_toArray, List.set_cons_zero, List.set_cons_succ]
              refine wpAnyH_take (i := 16) (v := ?_) rfl (by kernel_rfl) (by kernel_rfl) (by kernel_rfl) (fun _ _ _ h => h) (Or.inl ⟨by rfl, ?_⟩) trivial ?_
              rotate_left 1
              next => intro w hSw; go_simp; try with_reducible rfl
              simp only [Act.put, List.getElem_toArray, List.getElem_cons_zero, List.getElem_cons_succ, List.setIfInBounds_toArray, List.set_cons_zero, List.set_cons_succ]
              refine wpAnyH_ready (rs := [17]) (by kernel_rfl) (by simp) ?_
              refine AllReadyH.cons rfl (fun K hK => ?_) AllReadyH.nil
              go_simp
              refine (HO1.out _).mono ?_
              rintro e w7 ⟨rfl, hb⟩
              have Hb7 := Lib.hid (below_then Hb6.out.drew Hb6.out.drew.size hb)
              clear hb
              dsimp only
              refine hK.out _ _ trivial (fun _ => ?_)
              clear hK K
              cases hr1 : R1
              · have HNV : Hid (¬ ValidP b m ws) := Lib.hid (fun h => absurd (G1.out.2 (h _ S1.out)) (by rw [hr1]; decide))
                clear hr1
                refine wpAnyH_take (i := 18) (v := ?_) rfl (by kernel_rfl) (by kernel_rfl) (by kernel_rfl) (fun _ _ _ h => h) (Or.inl ⟨by rfl, ?_⟩) trivial ?_
                rotate_left 1
                next => intro w hSw; go_simp; try with_reducible rfl
                simp only [Act.put, List.getElem_toArray, List.getElem_cons_zero, List.getElem_cons_succ, List.setIfInBounds_toArray, List.set_cons_zero, List.set_cons_succ]
                refine wpAnyH_take (i := 19) (v := ?_) rfl (by kernel_rfl) (by kernel_rfl) (by kernel_rfl) (fun _ _ _ h => h) (Or.inl ⟨by rfl, ?_⟩) trivial ?_
                rotate_left 1
                next => intro w hSw; go_simp; try with_reducible rfl
                simp only [Act.put, List.getElem_toArray, List.getElem_cons_zero, List.getElem_cons_succ, List.setIfInBounds_toArray, List.set_cons_zero, List.set_cons_succ]
                refine wpAnyH_take (i := 20) (v := undef) rfl (by kernel_rfl) (by kernel_rfl) (by kernel_rfl) (fun _ _ _ h => h) (Or.inr ⟨by rfl, rfl⟩) trivial ?_
                simp only [Act.put, List.getElem_toArray, List.getElem_cons_zero, List.getElem_cons_succ, List.setIfInBounds_toArray, List.set_cons_zero, List.set_cons_succ]
                refine wpAnyH_take (i := 21) (v := undef) rfl (by kernel_rfl) (by kernel_rfl) (by kernel_rfl) (fun _ _ _ h => h) (Or.inr ⟨by rfl, rfl⟩) trivial ?_
                simp only [Act.put, List.getElem_toArray, List.getElem_cons_zero, List.getElem_cons_succ, List.setIfInBounds_toArray, List.set_cons_zero, List.set_cons_succ]
                refine wpAnyH_take (i := 22) (v := undef) rfl (by kernel_rfl) (by kernel_rfl) (by kernel_rfl) (fun _ _ _ h => h) (Or.inr ⟨by rfl, rfl⟩) trivial ?_
                simp only [Act.put, List.getElem_toArray, List.getElem_cons_zero, List.getElem_cons_succ, List.setIfInBounds_toArray, List.set_cons_zero, List.set_cons_succ]
                refine wpAnyH_take (i := 23) (v := undef) rfl (by kernel_rfl) (by kernel_rfl) (by kernel_rfl) (fun _ _ _ h => h) (Or.inr ⟨by rfl, rfl⟩) trivial ?_
                simp only [Act.put, List.getElem_toArray, List.getElem_cons_zero, List.getElem_cons_succ, List.setIfInBounds_toArray, List.set_cons_zero, List.set_cons_succ]
                refine wpAnyH_take (i := 24) (v := undef) rfl (by kernel_rfl) (by kernel_rfl) (by kernel_rfl) (fun _ _ _ h => h) (Or.inr ⟨by rfl, rfl⟩) trivial ?_
                simp only [Act.put, List.getElem_toArray, List.getElem_cons_zero, List.getElem_cons_succ, List.setIfInBounds_toArray, List.set_cons_zero, List.set_cons_succ]
                refine wpAnyH_take (i := 25) (v := undef) rfl (by kernel_rfl) (by kernel_rfl) (by kernel_rfl) (fun _ _ _ h => h) (Or.inr ⟨by rfl, rfl⟩) trivial ?_
                simp only [Act.put, List.getElem_toArray, List.getElem_cons_zero, List.getElem_cons_succ, List.setIfInBounds_toArray, List.set_cons_zero, List.set_cons_succ]
                refine wpAnyH_take (i := 26) (v := undef) rfl (by kernel_rfl) (by kernel_rfl) (by kernel_rfl) (fun _ _ _ h => h) (Or.inr ⟨by rfl, rfl⟩) trivial ?_
                simp only [Act.put, List.getElem_toArray, List.getElem_cons_zero, List.getElem_cons_succ, List.setIfInBounds_toArray, List.set_cons_zero, List.set_cons_succ]
                refine wpAnyH_take (i := 27) (v := undef) rfl (by kernel_rfl) (by kernel_rfl) (by kernel_rfl) (fun _ _ _ h => h) (Or.inr ⟨by rfl, rfl⟩) trivial ?_
                simp only [Act.put, List.getElem_toArray, List.getElem_cons_zero, List.getElem_cons_succ, List.setIfInBounds_toArray, List.set_cons_zero, List.set_cons_succ]
                refine wpAnyH_take (i := 28) (v := undef) rfl (by kernel_rfl) (by kernel_rfl) (by kernel_rfl) (fun _ _ _ h => h) (Or.inr ⟨by rfl, rfl⟩) trivial ?_
                simp only [Act.put, List.getElem_toArray, List.getElem_cons_zero, List.getElem_cons_succ, List.setIfInBounds_toArray, List.set_cons_zero, List.set_cons_succ]
                refine wpAnyH_take (i := 29) (v := undef) rfl (by kernel_rfl) (by kernel_rfl) (by kernel_rfl) (fun _ _ _ h => h) (Or.inr ⟨by rfl, rfl⟩) trivial ?_
                simp only [Act.put, List.getElem_toArray, List.getElem_cons_zero, List.getElem_cons_succ, List.setIfInBounds_toArray, List.set_cons_zero, List.set_cons_succ]
                refine wpAnyH_take (i := 30) (v := undef) rfl (by kernel_rfl) (by kernel_rfl) (by kernel_rfl) (fun _ _ _ h => h) (Or.inr ⟨by rfl, rfl⟩) trivial ?_
                simp only [Act.put, List.getElem_toArray, List.getElem_cons_zero, List.getElem_cons_succ, List.setIfInBounds_toArray, List.set_cons_zero, List.set_cons_succ]
                refine wpAnyH_take (i := 31) (v := undef) rfl (by kernel_rfl) (by kernel_rfl) (by kernel_rfl) (fun _ _ _ h => h) (Or.inr ⟨by rfl, rfl⟩) trivial ?_
                simp only [Act.put, List.getElem_toArray, List.getElem_cons_zero, List.getElem_cons_succ, List.setIfInBounds_toArray, List.set_cons_zero, List.set_cons_succ]
                refine wpAnyH_take (i := 32) (v := undef) rfl (by kernel_rfl) (by kernel_rfl) (by kernel_rfl) (fun _ _ _ h => h) (Or.inr ⟨by rfl, rfl⟩) trivial ?_
                simp only [Act.put, List.getElem_toArray, List.getElem_cons_zero, List.getElem_cons_succ, List.setIfInBounds_toArray, List.set_cons_zero, List.set_cons_succ]
                refine wpAnyH_take (i := 33) (v := undef) rfl (by kernel_rfl) (by kernel_rfl) (by kernel_rfl) (fun _ _ _ h => h) (Or.inr ⟨by rfl, rfl⟩) trivial ?_
                simp only [Act.put, List.getElem_toArray, List.getElem_cons_zero, List.getElem_cons_succ, List.setIfInBounds_toArray, List.set_cons_zero, List.set_cons_succ]
                refine wpAnyH_take (i := 34) (v := undef) rfl (by kernel_rfl) (by kernel_rfl) (by kernel_rfl) (fun _ _ _ h => h) (Or.inr ⟨by rfl, rfl⟩) trivial ?_
                simp only [Act.put, List.getElem_toArray, List.getElem_cons_zero, List.getElem_cons_succ, List.setIfInBounds_toArray, List.set_cons_zero, List.set_cons_succ]
                refine wpAnyH_take (i := 35) (v := undef) rfl (by kernel_rfl) (by kernel_rfl) (by kernel_rfl) (fun _ _ _ h => h) (Or.inr ⟨by rfl, rfl⟩) trivial ?_
                simp only [Act.put, List.getElem_toArray, List.getElem_cons_zero, List.getElem_cons_succ, List.setIfInBounds_toArray, List.set_cons_zero, List.set_cons_succ]
                refine wpAnyH_take (i := 36) (v := undef) rfl (by kernel_rfl) (by kernel_rfl) (by kernel_rfl) (fun _ _ _ h => h) (Or.inr ⟨by rfl, rfl⟩) trivial ?_
                simp only [Act.put, List.getElem_toArray, List.getElem_cons_zero, List.getElem_cons_succ, List.setIfInBounds_toArray, List.set_cons_zero, List.set_cons_succ]
                refine wpAnyH_take (i := 37) (v := undef) rfl (by kernel_rfl) (by kernel_rfl) (by kernel_rfl) (fun _ _ _ h => h) (Or.inr ⟨by rfl, rfl⟩) trivial ?_
                simp only [Act.put, List.getElem_toArray, List.getElem_cons_zero, List.getElem_cons_succ, List.setIfInBounds_toArray, List.set_cons_zero, List.set_cons_succ]
                refine wpAnyH_take (i := 38) (v := undef) rfl (by kernel_rfl) (by kernel_rfl) (by kernel_rfl) (fun _ _ _ h => h) (Or.inr ⟨by rfl, rfl⟩) trivial ?_
                simp only [Act.put, List.getElem_toArray, List.getElem_cons_zero, List.getElem_cons_succ, List.setIfInBounds_toArray, List.set_cons_zero, List.set_cons_succ]
                refine wpAnyH_take (i := 39) (v := ?_) rfl (by kernel_rfl) (by kernel_rfl) (by kernel_rfl) (fun _ _ _ h => h) (Or.inl ⟨by rfl, ?_⟩) trivial ?_
                rotate_left 1
                next => intro w hSw; go_simp; try with_reducible rfl
                simp only [Act.put, List.getElem_toArray, List.getElem_cons_zero, List.getElem_cons_succ, List.setIfInBounds_toArray, List.set_cons_zero, List.set_cons_succ]
                refine wpAnyH_done (by kernel_rfl) ?_ _
                go_wp2
                go_ret
                exact ⟨false, rfl, ⟨fun h => (by cases h), fun h => absurd h HNV.out⟩, Hb7.out⟩
              · have HG1 := Lib.hid (G1.out.1 hr1)
                clear hr1
                refine wpAnyH_take (i := 18) (v := ?_) rfl (by kernel_rfl) (by kernel_rfl) (by kernel_rfl) (fun _ _ _ h => h) (Or.inl ⟨by rfl, ?_⟩) trivial ?_
                rotate_left 1
                next => intro w hSw; go_simp; try with_reducible rfl
                simp only [Act.put, List.getElem_toArray, List.getElem_cons_zero, List.getElem_cons_succ, List.setIfInBounds_toArray, List.set_cons_zero, List.set_cons_succ]
                refine wpAnyH_take (i := 19) (v := ?_) rfl (by kernel_rfl) (by kernel_rfl) (by kernel_rfl) (fun _ _ _ h => h) (Or.inl ⟨by rfl, ?_⟩) trivial ?_
                rotate_left 1
                next => intro w hSw; go_simp; try with_reducible rfl
                simp only [Act.put, List.getElem_toArray, List.getElem_cons_zero, List.getElem_cons_succ, List.setIfInBounds_toArray, List.set_cons_zero, List.set_cons_succ]
                refine wpAnyH_take (i := 20) (v := ?_) rfl (by kernel_rfl) (by kernel_rfl) (by kernel_rfl) (fun _ _ _ h => h) (Or.inl ⟨by rfl, ?_⟩) trivial ?_
                rotate_left 1
                next => intro w hSw; go_simp; try with_reducible rfl
                simp only [Act.put, List.getElem_toArray, List.getElem_cons_zero, List.getElem_cons_succ, List.setIfInBounds_toArray, List.set_cons_zero, List.set_cons_succ]
                refine wpAnyH_take (i := 21) (v := ?_) rfl (by kernel_rfl) (by kernel_rfl) (by kernel_rfl) (fun _ _ _ h => h) (Or.inl ⟨by rfl, ?_⟩) trivial ?_
                rotate_left 1
                next => intro w hSw; go_simp; try with_reducible rfl
                simp only [Act.put, List.getElem_toArray, List.getElem_cons_zero, List.getElem_cons_succ, List.setIfInBounds_toArray, List.set_cons_zero, List.set_cons_succ]
                refine wpAnyH_take (i := 22) (v := ?_) rfl (by kernel_rfl) (by kernel_rfl) (by kernel_rfl) (fun _ _ _ h => h) (Or.inl ⟨by rfl, ?_⟩) trivial ?_
                rotate_left 1
                next => intro w hSw; go_simp; try with_reducible rfl
                simp only [Act.put, List.getElem_toArray, List.getElem_cons_zero, List.getElem_cons_succ, List.setIfInBounds_toArray, List.set_cons_zero, List.set_cons_succ]
                refine wpAnyH_take (i := 23) (v := ?_) rfl (by kernel_rfl) (by kernel_rfl) (by kernel_rfl) (fun _ _ _ h => h) (Or.inl ⟨by rfl, ?_⟩) trivial ?_
                rotate_left 1
                next => intro w hSw; go_simp; try with_reducible rfl
                simp only [Act.put, List.getElem_toArray, List.getElem_cons_zero, List.getElem_cons_succ, List.setIfInBounds_toArray, List.set_cons_zero, List.set_cons_succ]
                refine wpAnyH_take (i := 24) (v := ?_) rfl (by kernel_rfl) (by kernel_rfl) (by kernel_rfl) (fun _ _ _ h => h) (Or.inl ⟨by rfl, ?_⟩) trivial ?_
                rotate_left 1
                next => intro w hSw; go_simp; try with_reducible rfl
                simp only [Act.put, List.getElem_toArray, List.getElem_cons_zero, List.getElem_cons_succ, List.setIfInBounds_toArray, List.set_cons_zero, List.set_cons_succ]
                refine wpAnyH_take (i := 25) (v := ?_) rfl (by kernel_rfl) (by kernel_rfl) (by kernel_rfl) (fun _ _ _ h => h) (Or.inl ⟨by rfl, ?_⟩) trivial ?_
                rotate_left 1
                next => intro w hSw; go_simp; try with_reducible rfl
                simp only [Act.put, List.getElem_toArray, List.getElem_cons_zero, List.getElem_cons_succ, List.setIfInBounds_toArray, List.set_cons_zero, List.set_cons_succ]
                refine wpAnyH_take (i := 26) (v := ?_) rfl (by kernel_rfl) (by kernel_rfl) (by kernel_rfl) (fun _ _ _ h => h) (Or.inl ⟨by rfl, ?_⟩) trivial ?_
                rotate_left 1
                next => intro w hSw; go_simp; try with_reducible rfl
                simp only [Act.put, List.getElem_toArray, List.getElem_cons_zero, List.getElem_cons_succ, List.setIfInBounds_toArray, List.set_cons_zero, List.set_cons_succ]
                refine wpAnyH_take (i := 27) (v := ?_) rfl (by kernel_rfl) (by kernel_rfl) (by kernel_rfl) (fun _ _ _ h => h) (Or.inl ⟨by rfl, ?_⟩) trivial ?_
                rotate_left 1
                next => intro w hSw; go_simp; try with_reducible rfl
                simp only [Act.put, List.getElem_toArray, List.getElem_cons_zero, List.getElem_cons_succ, List.setIfInBounds_toArray, List.set_cons_zero, List.set_cons_succ]
                refine wpAnyH_take (i := 28) (v := ?_) rfl (by kernel_rfl) (by kernel_rfl) (by kernel_rfl) (fun _ _ _ h => h) (Or.inl ⟨by rfl, ?_⟩) trivial ?_
                rotate_left 1
                next => intro w hSw; go_simp; try with_reducible rfl
                simp only [Act.put, List.getElem_toArray, List.getElem_cons_zero, List.getElem_cons_succ, List.setIfInBounds_toArray, List.set_cons_zero, List.set_cons_succ]
                refine wpAnyH_take (i := 29) (v := ?_) rfl (by kernel_rfl) (by kernel_rfl) (by kernel_rfl) (fun _ _ _ h => h) (Or.inl ⟨by rfl, ?_⟩) trivial ?_
                rotate_left 1
                next => intro w hSw; go_simp; try with_reducible rfl
                simp only [Act.put, List.getElem_toArray, List.getElem_cons_zero, List.getElem_cons_succ, List.setIfInBounds_toArray, List.set_cons_zero, List.set_cons_succ]
                refine wpAnyH_take (i := 30) (v := ?_) rfl (by kernel_rfl) (by kernel_rfl) (by kernel_rfl) (fun _ _ _ h => h) (Or.inl ⟨by rfl, ?_⟩) trivial ?_
                rotate_left 1
                next => intro w hSw; go_simp; try with_reducible rfl
                simp only [Act.put, List.getElem_toArray, List.getElem_cons_zero, List.getElem_cons_succ, List.setIfInBounds_toArray, List.set_cons_zero, List.set_cons_succ]
                refine wpAnyH_take (i := 31) (v := ?_) rfl (by kernel_rfl) (by kernel_rfl) (by kernel_rfl) (fun _ _ _ h => h) (Or.inl ⟨by rfl, ?_⟩) trivial ?_
                rotate_left 1
                next => intro w hSw; go_simp; try with_reducible rfl
                simp only [Act.put, List.getElem_toArray, List.getElem_cons_zero, List.getElem_cons_succ, List.setIfInBounds_toArray, List.set_cons_zero, List.set_cons_succ]
                refine wpAnyH_take (i := 32) (v := ?_) rfl (by kernel_rfl) (by kernel_rfl) (by kernel_rfl) (fun _ _ _ h => h) (Or.inl ⟨by rfl, ?_⟩) trivial ?_
                rotate_left 1
                next => intro w hSw; go_simp; try with_reducible rfl
                simp only [Act.put, List.getElem_toArray, List.getElem_cons_zero, List.getElem_cons_succ, List.setIfInBounds_toArray, List.set_cons_zero, List.set_cons_succ]
                refine wpAnyH_take (i := 33) (v := ?_) rfl (by kernel_rfl) (by kernel_rfl) (by kernel_rfl) (fun _ _ _ h => h) (Or.inl ⟨by rfl, ?_⟩) trivial ?_
                rotate_left 1
                next => intro w hSw; go_simp; try with_reducible rfl
                simp only [Act.put, List.getElem_toArray, List.getElem_cons_zero, List.getElem_cons_succ, List.setIfInBounds_toArray, List.set_cons_zero, List.set_cons_succ]
                refine wpAnyH_take (i := 34) (v := ?_) rfl (by kernel_rfl) (by kernel_rfl) (by kernel_rfl) (fun _ _ _ h => h) (Or.inl ⟨by rfl, ?_⟩) trivial ?_
                rotate_left 1
                next => intro w hSw; go_simp; try with_reducible rfl
                simp only [Act.put, List.getElem_toArray, List.getElem_cons_zero, List.getElem_cons_succ, List.setIfInBounds_toArray, List.set_cons_zero, List.set_cons_succ]
                refine wpAnyH_take (i := 35) (v := ?_) rfl (by kernel_rfl) (by kernel_rfl) (by kernel_rfl) (fun _ _ _ h => h) (Or.inl ⟨by rfl, ?_⟩) trivial ?_
                rotate_left 1
                next => intro w hSw; go_simp; try with_reducible rfl
                simp only [Act.put, List.getElem_toArray, List.getElem_cons_zero, List.getElem_cons_succ, List.setIfInBounds_toArray, List.set_cons_zero, List.set_cons_succ]
                refine wpAnyH_take (i := 36) (v := ?_) rfl (by kernel_rfl) (by kernel_rfl) (by kernel_rfl) (fun _ _ _ h => h) (Or.inl ⟨by rfl, ?_⟩) trivial ?_
                rotate_left 1
                next => intro w hSw; go_simp; try with_reducible rfl
                simp only [Act.put, List.getElem_toArray, List.getElem_cons_zero, List.getElem_cons_succ, List.setIfInBounds_toArray, List.set_cons_zero, List.set_cons_succ]
                refine wpAnyH_ready (rs := [37]) (by kernel_rfl) (by simp) ?_
                refine AllReadyH.cons rfl (fun K hK => ?_) AllReadyH.nil
                go_simp
                refine (HO2.out _).mono ?_
                rintro e w8 ⟨rfl, hb⟩
                have Hb8 := Lib.hid (below_then Hb7.out Hb7.out.size hb)
                clear hb
                dsimp only
                refine hK.out _ _ trivial (fun _ => ?_)
                clear hK K
                cases hr2 : R2
                · have HNV : Hid (¬ ValidP b m ws) := Lib.hid (fun h => absurd (G2.out.2 (h _ S2.out)) (by rw [hr2]; decide))
                  clear hr2
                  refine wpAnyH_take (i := 38) (v := ?_) rfl (by kernel_rfl) (by kernel_rfl) (by kernel_rfl) (fun _ _ _ h => h) (Or.inl ⟨by rfl, ?_⟩) trivial ?_
                  rotate_left 1
                  next => intro w hSw; go_simp; try with_reducible rfl
                  simp only [Act.put, List.getElem_toArray, List.getElem_cons_zero, List.getElem_cons_succ, List.setIfInBounds_toArray, List.set_cons_zero, List.set_cons_succ]
                  refine wpAnyH_take (i := 39) (v := ?_) rfl (by kernel_rfl) (by kernel_rfl) (by kernel_rfl) (fun _ _ _ h => h) (Or.inl ⟨by rfl, ?_⟩) trivial ?_
                  rotate_left 1
                  next => intro w hSw; go_simp; try with_reducible rfl
                  simp only [Act.put, List.getElem_toArray, List.getElem_cons_zero, List.getElem_cons_succ, List.setIfInBounds_toArray, List.set_cons_zero, List.set_cons_succ]
                  refine wpAnyH_done (by kernel_rfl) ?_ _
                  go_wp2
                  go_ret
                  exact ⟨false, rfl, ⟨fun h => (by cases h), fun h => absurd h HNV.out⟩, Hb8.out⟩
                · have HG2 := Lib.hid (G2.out.1 hr2)
                  clear hr2
                  have HIn : Hid (∀ j e, j < i + 1 → e < 2 → GoodS b m ws (k, 1, insAt x j (bitC e))) := Lib.hid (fun j e hj he => by
                    by_cases e1 : j = i
                    · rw [e1]
                      match e, he with
                      | 0, _ => exact HG1.out
                      | 1, _ => exact HG2.out
                    · exact Hin.out j e (by omega) he)
                  refine wpAnyH_take (i := 38) (v := ?_) rfl (by kernel_rfl) (by kernel_rfl) (by kernel_rfl) (fun _ _ _ h => h) (Or.inl ⟨by rfl, ?_⟩) trivial ?_
                  rotate_left 1
                  next => intro w hSw; go_simp; try with_reducible rfl
                  simp only [Act.put, List.getElem_toArray, List.getElem_cons_zero, List.getElem_cons_succ, List.setIfInBounds_toArray, List.set_cons_zero, List.set_cons_succ]
                  refine wpAnyH_take (i := 39) (v := ?_) rfl (by kernel_rfl) (by kernel_rfl) (by kernel_rfl) (fun _ _ _ h => h) (Or.inl ⟨by rfl, ?_⟩) trivial ?_
                  rotate_left 1
                  next => intro w hSw; go_simp; try with_reducible rfl
                  simp only [Act.put, List.getElem_toArray, List.getElem_cons_zero, List.getElem_cons_succ, List.setIfInBounds_toArray, List.set_cons_zero, List.set_cons_succ]
                  refine wpAnyH_done (by kernel_rfl) ?_ _
                  go_wp2
                  go_roundw
                  case rel => exact ⟨r, by have h1 := Hib.out; have h2 := Hr.out; omega, rfl, Hb8, by rw [← Hr.out]; exact HDr, by rw [← Hr.out]; exact HIn⟩
                  case measure => have h1 := Hib.out; have h2 := Hr.out; simp [intOf]; omega
            · have HNV : Hid (¬ ValidP b m ws) := Lib.hid (HNd.out rfl)
              go_wp2
              go_ret
              exact ⟨false, rfl, ⟨fun h => (by cases h), fun h => absurd h HNV.out⟩, Hb6.out⟩
        · have hibI : ¬ (i : Int) ≤ (b : Int) := by omega
          go_wp2
          go_roundw
          case rel => exact ⟨k + 1, by omega, by go_num, Hb, Lib.hid (fun y h1 h2 => by
            by_cases e : y.1 < k
            · exact Hcov.out y h1 e
            · obtain ⟨y1, y2⟩ := y
              have e1 : y1 = k := by have : y1 < k + 1 := h2; have : ¬ y1 < k := e; omega
              subst e1
              rcases h1.2 with ⟨j, hj, he⟩ | ⟨j, c, hj, hc, he⟩
              · have hj : j < (ws.getD y1 ByteArray.empty).size := hj
                have he : y2 = ((-1 : Int), dropAt (ws.getD y1 ByteArray.empty) j) := he
                rw [Hxe.out] at hj he
                rw [he]; exact Hdr.out j (by omega) (by omega)
              · have hj : j < (ws.getD y1 ByteArray.empty).size + 1 := hj
                have he : y2 = ((1 : Int), insAt (ws.getD y1 ByteArray.empty) j (bitC c)) := he
                rw [Hxe.out] at hj he
                rw [he]; exact Hin.out j c (by omega) hc)⟩
          case measure => simp [intOf]; omega
    · have hk1 : ¬ (k : Int) < (ws.length : Int) := by omega
      go_wp2
      go_ret
      have Hc := Hcov.out
      exact ⟨true, rfl, ⟨fun _ y hy => Hc y hy (by have := hy.1; omega), fun _ => rfl⟩, Hb.out⟩
end Go.Proofs.Ytlkajmdcffemeaa
