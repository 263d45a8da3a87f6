/- grooveref28.all: what the replacements add up to. -/
import Derived.Test.YtcafeffgaokiaaaZ11
import Derived.Test.YtcafeffgaokiaaaZ12
namespace Go.Proofs.Ytcafeffgaokiaaa
open Go.RowKit
theorem let_get : ∀ q, (hq : q < 16) → (({ data := #[48, 49, 50, 51, 52, 53, 54, 55, 56, 57, 97, 98, 99, 100, 101, 102] } : ByteArray)[q]'hq) = letters.getD q 0 := by decide
theorem let_test (q : Nat) (hq : q < 16) (c : UInt8) : (((({ data := #[48, 49, 50, 51, 52, 53, 54, 55, 56, 57, 97, 98, 99, 100, 101, 102] } : ByteArray)[q]'hq).toNat : Int) == (c.toNat : Int)) = (idxL 16 c == (q : Int)) := by
  rw [idxL_beq q hq c, let_get q hq]
  generalize letters.getD q 0 = d
  by_cases h : d = c
  · subst h; simp
  · have h2 : ¬ ((d.toNat : Int) = (c.toNat : Int)) := fun e => h (UInt8.toNat_inj.1 (by omega))
    rw [beq_eq_false_iff_ne.2 h, beq_eq_false_iff_ne.2 h2]
/-- What stands in the variables behind some replacements. -/
structure StA (pre : List Rp) (s : Ws) (S T : Nat) : Prop where
  w : wsF pre = s
  s : sumF pre = S
  t : pre.length = T
theorem StA.step {pre : List Rp} {s : Ws} {S T : Nat} (h : StA pre s S T) (x : Rp) : StA (pre ++ [x]) (s.step x) (S + x.n) (T + 1) :=
  ⟨by rw [wsF_snoc, h.w], by rw [sumF_snoc, h.s], by rw [List.length_append, h.t]; rfl⟩
set_option maxRecDepth 100000 in
set_option maxHeartbeats 8000000 in
theorem all_any (L B I : Nat) (m : EM) (p : Option Addr) (c : Nat) (dp df : Int) (es : List Ent) (a : Option Addr) (ca : Nat) (N : Nat) (w : World) (hA : m.At w p) (hf : m.Fit) (hE : EntsAt w a es) (hwins : WinsFit es)
    (he : encCheck (L : Int) (B : Int) (I : Int) m = 0) (hd : decCheck (L : Int) (B : Int) (I : Int) dp df es = 0) (hN : N ≤ 16) (hz : m.r * I ^ N ≤ 4096) (ps : List Rp) (hps : rpE (decOut (L : Int) (B : Int) (I : Int) dp df es) L (wordsE m N) = ps) (hS : sumF ps ≤ 1000000000) (hT : ps.length ≤ 1000000000) :
    Calls Try.prog 47 #[.agg #[.int .i64 (L : Int), .int .i64 (B : Int), .int .i64 (I : Int), .slice p m.r c], .agg #[.int .i64 (L : Int), .int .i64 (B : Int), .int .i64 (I : Int), .int .i64 dp, .int .i64 df, .slice a es.length ca], .int .i64 (N : Int)] w fun e w' =>
      e = .returned (.tuple #[.int .i64 (wsF ps).n, .int .i64 (sumF ps : Int), .int .i64 (ps.length : Int), .string (wsF ps).w, .int .i64 (wsF ps).a, .int .i64 (wsF ps).c]) ∧ Below w.heap.size w w' := by
  obtain ⟨⟨l1, l2⟩, ⟨b1, b2⟩, ⟨i1, i2⟩, ⟨r1, r2⟩, hok, _⟩ := encCheck_ok he
  rw [Int.toNat_natCast, Int.toNat_natCast] at hok
  have hdec := words_dec (n := N) he hd hN
  have hl16 : L ≤ 16 := by omega
  have HD : Hid (∀ x ∈ wordsE m N, x.size ≤ 256 ∧ decErr (L : Int) (B : Int) (I : Int) dp df es x = 0) := Lib.hid (fun x hx => by
    have h := hdec x hx
    have h2 : N * B ≤ 16 * 16 := Nat.mul_le_mul hN (by omega)
    rw [Int.toNat_natCast] at h
    exact ⟨by omega, h.2⟩)
  have HWl : Hid ((wordsE m N).length ≤ 4096) := Lib.hid (by rw [wordsE_len hok N]; exact hz)
  have HW := Lib.hid (fun (W : World) (h : Below w.heap.size w W) => words_any (L : Int) (B : Int) (I : Int) m p c I B N W (hA.below (Nat.le_refl _) h) hf he rfl hok hN hz)
  have HC := Lib.hid (fun (W : World) (h : Below w.heap.size w W) (x : ByteArray) (k q : Nat) (hx : decErr (L : Int) (B : Int) (I : Int) dp df es x = 0) (hk : k < x.size) (hq : q < L) => refchanged_any (L : Int) (B : Int) (I : Int) dp df es a ca x k q W (SlAt.mono hE (Nat.le_refl _) h) hwins hx hk (by omega))
  have HPs := Lib.hid hps
  have HST := Lib.hid (And.intro hS hT)
  clear hA hf hE hwins he hd hz hdec hok hps hS hT b1 b2 i1 i2
  obtain ⟨V, hV⟩ : ∃ V, ((w.alloc (.cells #[.int .i64 (L : Int), .int .i64 (B : Int), .int .i64 (I : Int), .slice p m.r c] 24)).alloc (.cells #[.int .i64 (L : Int), .int .i64 (B : Int), .int .i64 (I : Int), .int .i64 dp, .int .i64 df, .slice a es.length ca] 30)) = V := ⟨_, rfl⟩
  have hbV : Below w.heap.size w V := by rw [← hV]; exact ((Below.refl w.heap.size w).alloc (Nat.le_refl _) _).alloc (by simp) _
  obtain ⟨g, hg⟩ : ∃ g, w.heap.size = g := ⟨_, rfl⟩
  have hsV : V.heap.size = g + 2 := by rw [← hV]; simp [hg]
  have x0 : V.cell? ⟨g, 0, none⟩ = some (.int .i64 (L : Int)) ∧ V.cell? ⟨g, 1, none⟩ = some (.int .i64 (B : Int)) ∧ V.cell? ⟨g, 2, none⟩ = some (.int .i64 (I : Int)) ∧ V.cell? ⟨g, 3, none⟩ = some (.slice p m.r c) := by
    rw [← hV, ← hg]; refine ⟨?_, ?_, ?_, ?_⟩ <;> simp
  have y0 : V.cell? ⟨g + 1, 0, none⟩ = some (.int .i64 (L : Int)) ∧ V.cell? ⟨g + 1, 1, none⟩ = some (.int .i64 (B : Int)) ∧ V.cell? ⟨g + 1, 2, none⟩ = some (.int .i64 (I : Int)) ∧ V.cell? ⟨g + 1, 3, none⟩ = some (.int .i64 dp) ∧ V.cell? ⟨g + 1, 4, none⟩ = some (.int .i64 df) ∧ V.cell? ⟨g + 1, 5, none⟩ = some (.slice a es.length ca) := by
    rw [← hV, ← hg]; refine ⟨?_, ?_, ?_, ?_, ?_, ?_⟩ <;> simp
  have HX := Lib.hid (fun (W : World) (h : Below V.heap.size V W) => show (W.cell? ⟨g, 0, none⟩ = some (.int .i64 (L : Int)) ∧ W.cell? ⟨g, 1, none⟩ = some (.int .i64 (B : Int)) ∧ W.cell? ⟨g, 2, none⟩ = some (.int .i64 (I : Int)) ∧ W.cell? ⟨g, 3, none⟩ = some (.slice p m.r c)) ∧ W.cell? ⟨g + 1, 0, none⟩ = some (.int .i64 (L : Int)) ∧ W.cell? ⟨g + 1, 1, none⟩ = some (.int .i64 (B : Int)) ∧ W.cell? ⟨g + 1, 2, none⟩ = some (.int .i64 (I : Int)) ∧ W.cell? ⟨g + 1, 3, none⟩ = some (.int .i64 dp) ∧ W.cell? ⟨g + 1, 4, none⟩ = some (.int .i64 df) ∧ W.cell? ⟨g + 1, 5, none⟩ = some (.slice a es.length ca) from
    ⟨⟨(h.cell (by simp; omega)).trans x0.1, (h.cell (by simp; omega)).trans x0.2.1, (h.cell (by simp; omega)).trans x0.2.2.1, (h.cell (by simp; omega)).trans x0.2.2.2⟩,
      (h.cell (by simp; omega)).trans y0.1, (h.cell (by simp; omega)).trans y0.2.1, (h.cell (by simp; omega)).trans y0.2.2.1, (h.cell (by simp; omega)).trans y0.2.2.2.1, (h.cell (by simp; omega)).trans y0.2.2.2.2.1, (h.cell (by simp; omega)).trans y0.2.2.2.2.2⟩)
  have HbV := Lib.hid hbV
  obtain ⟨⟨x0, x1, x2, x3⟩, y0, y1, y2, y3, y4, y5⟩ := HX.out V (Below.refl _ _)
  clear hbV
  go_enter Try.func47, Try.ntmps47
  go_wp2_with fail
  refine (HW.out _ HbV.out).mono ?_
  rintro e V1 ⟨v1, rfl, ho, hb⟩
  obtain ⟨pw, cw, rfl, _, hws, _⟩ := ho.form
  have Hws := Lib.hid hws
  have HB1 := Lib.hid hb
  clear hws ho hb HW x0 x1 x2 x3 y0 y1 y2 y3 y4 y5
  obtain ⟨n, hn⟩ : ∃ n, (wordsE m N).length = n := ⟨_, rfl⟩
  have HWn := Lib.hid hn
  have hn2 : n ≤ 4096 := by rw [← hn]; exact HWl.out
  rw [hn]
  clear hn
  obtain ⟨D, hD⟩ : ∃ D, decOut (L : Int) (B : Int) (I : Int) dp df es = D := ⟨_, rfl⟩
  have HDD := Lib.hid hD
  rw [hD] at HPs
  clear hD
  go_wp2
  go_loopw [12, 13, 14, 15, 16, 17, 19] (fun av bv cv dv ev fv kv wr => ∃ (i : Nat) (s : Ws) (S T : Nat), i ≤ n ∧ av = .int .i64 s.n ∧ bv = .int .i64 (S : Nat) ∧ cv = .int .i64 (T : Nat) ∧ dv = .string s.w ∧ ev = .int .i64 s.a ∧ fv = .int .i64 s.c ∧ kv = .int .i64 (i : Nat) ∧ Hid (StA (rpE D L ((wordsE m N).take i)) s S T) ∧ Hid (Below V1.heap.size V1 wr)) (fun _ _ _ _ _ _ kv _ => n - (intOf kv).toNat)
  case atStart => exact ⟨0, ⟨ByteArray.empty, 0, 0, -1⟩, 0, 0, by omega, rfl, rfl, rfl, rfl, rfl, rfl, rfl, Lib.hid ⟨rfl, rfl, rfl⟩, Lib.hid (Below.refl _ _)⟩
  case round =>
    obtain ⟨i, s, S, T, hi, rfl, rfl, rfl, rfl, rfl, rfl, rfl, HSt, Hb⟩ := hrel
    by_cases hlt : i < n
    · have i0 : (0 : Int) ≤ (i : Int) := by omega
      have i9 : (i : Int) < (n : Int) := by omega
      obtain ⟨b9, o9, hpw, hb9, hrow⟩ := (Hws.out.below (Nat.le_refl _) Hb.out).cells (k := i) (by rw [HWn.out]; exact hlt)
      have hxi := hrow i (by rw [HWn.out]; exact hlt)
      obtain ⟨x, hx⟩ : ∃ x, (wordsE m N).getD i ByteArray.empty = x := ⟨_, rfl⟩
      have hxm : x ∈ wordsE m N := by rw [← hx, List.getD_eq_getElem?_getD, List.getElem?_eq_getElem (by rw [HWn.out]; exact hlt)]; exact List.getElem_mem _
      have htk : (wordsE m N).take (i + 1) = (wordsE m N).take i ++ [x] := by
        rw [List.take_add_one, ← hx, List.getD_eq_getElem?_getD, List.getElem?_eq_getElem (by rw [HWn.out]; exact hlt)]; rfl
      have hdr : (wordsE m N).take i ++ x :: (wordsE m N).drop (i + 1) = wordsE m N := by
        have := List.take_append_drop (i + 1) (wordsE m N)
        rw [htk, List.append_assoc] at this
        exact this
      have Htk := Lib.hid htk
      have Hdr := Lib.hid hdr
      obtain ⟨hx256, hxe⟩ := HD.out x hxm
      have Hxe := Lib.hid hxe
      rw [hx] at hxi
      subst hpw
      clear hrow hx hxm htk hdr hxe
      obtain ⟨wo, hwo⟩ : ∃ X, wr = X := ⟨_, rfl⟩
      rw [hwo] at Hb hxi hb9 ⊢
      clear hwo
      go_wp2
      go_loopw [12, 13, 14, 15, 16, 17, 21] (fun av bv cv dv ev fv kv wr => ∃ (k : Nat) (s : Ws) (S T : Nat), k ≤ x.size ∧ av = .int .i64 s.n ∧ bv = .int .i64 (S : Nat) ∧ cv = .int .i64 (T : Nat) ∧ dv = .string s.w ∧ ev = .int .i64 s.a ∧ fv = .int .i64 s.c ∧ kv = .int .i64 (k : Nat) ∧ Hid (StA (rpE D L ((wordsE m N).take i) ++ rpA D x L k) s S T) ∧ Hid (Below V1.heap.size V1 wr)) (fun _ _ _ _ _ _ kv _ => x.size - (intOf kv).toNat)
      case atStart => exact ⟨0, s, S, T, by omega, rfl, rfl, rfl, rfl, rfl, rfl, rfl, Lib.hid (by simpa [rpA] using HSt.out), Hb⟩
      case round =>
        clear HSt Hb
        obtain ⟨k, s, S, T, hk, rfl, rfl, rfl, rfl, rfl, rfl, rfl, HSt, Hb⟩ := hrel
        by_cases hltk : k < x.size
        · have k0 : (0 : Int) ≤ (k : Int) := by omega
          have k9 : (k : Int) < (x.size : Int) := by omega
          go_wp2
          go_loopw [12, 13, 14, 15, 16, 17, 22] (fun av bv cv dv ev fv kv wr => ∃ (q : Nat) (s : Ws) (S T : Nat), q ≤ L ∧ av = .int .i64 s.n ∧ bv = .int .i64 (S : Nat) ∧ cv = .int .i64 (T : Nat) ∧ dv = .string s.w ∧ ev = .int .i64 s.a ∧ fv = .int .i64 s.c ∧ kv = .int .i64 (q : Nat) ∧ Hid (StA (rpE D L ((wordsE m N).take i) ++ rpA D x L k ++ rpK D x k q) s S T) ∧ Hid (Below V1.heap.size V1 wr)) (fun _ _ _ _ _ _ kv _ => L - (intOf kv).toNat)
          case atStart => exact ⟨0, s, S, T, by omega, rfl, rfl, rfl, rfl, rfl, rfl, rfl, Lib.hid (by simpa [rpK] using HSt.out), Hb⟩
          case round =>
            clear HSt Hb
            obtain ⟨q, s, S, T, hq, rfl, rfl, rfl, rfl, rfl, rfl, rfl, HSt, Hb⟩ := hrel
            obtain ⟨⟨x0, x1, x2, x3⟩, y0, y1, y2, y3, y4, y5⟩ := HX.out _ (HB1.out.trans (Hb.out.mono HB1.out.size))
            by_cases hltq : q < L
            · have q0 : (0 : Int) ≤ (q : Int) := by omega
              have q9 : (q : Int) < (L : Int) := by omega
              have q16 : (q : Int) < 16 := by omega
              have q15 : q < 16 := by omega
              have htest := let_test q q15 (x[k]'hltk)
              cases hmm : (idxL 16 (x[k]'hltk) == (q : Int)) with
              | true =>
                rw [hmm] at htest
                have HSt2 : Hid (StA (rpE D L ((wordsE m N).take i) ++ rpA D x L k ++ rpK D x k (q + 1)) s S T) := Lib.hid (by rw [rpK_hit (by rw [ba_getD x k hltk]; exact hmm)]; exact HSt.out)
                clear hmm
                go_wp2_with fail
                go_quiet (fail)
                go_wp2
                go_roundw
                case rel => exact ⟨q + 1, s, S, T, by omega, rfl, rfl, rfl, rfl, rfl, rfl, by go_num, HSt2, Lib.hid (below_dr Hb.out)⟩
                case measure => simp [intOf]; omega
              | false =>
                rw [hmm] at htest
                obtain ⟨p2, hp2⟩ := rp_pre (D := D) Hdr.out hltk hltq (by rw [ba_getD x k hltk]; exact hmm)
                rw [HPs.out] at hp2
                have hrs := rp_step hp2
                rw [HSt.out.s, HSt.out.t] at hrs
                have hn8 : (rpN D x k q).n ≤ 1000000 := Nat.le_trans (diffs_len _ _) (by
                  rw [← HDD.out, decOut_len Hxe.out]
                  exact Nat.le_trans winCount_le (by omega))
                have HSt2 : Hid (StA (rpE D L ((wordsE m N).take i) ++ rpA D x L k ++ rpK D x k (q + 1)) (s.step (rpN D x k q)) (S + (rpN D x k q).n) (T + 1)) := Lib.hid (by
                  rw [rpK_miss (by rw [ba_getD x k hltk]; exact hmm), ← List.append_assoc]
                  exact HSt.out.step _)
                have HCc := Lib.hid (fun (W : World) (h : Below w.heap.size w W) => HC.out W h x k q Hxe.out hltk hltq)
                rw [HDD.out] at HCc
                have hst := HST.out
                obtain ⟨z, hz⟩ : ∃ z, (diffs (D x) (D (replS x k q))).length = z := ⟨_, rfl⟩
                have hS9 : S + z ≤ 1000000000 := by rw [← hz]; exact Nat.le_trans hrs.1 hst.1
                have hT9 : T + 1 ≤ 1000000000 := Nat.le_trans hrs.2 hst.2
                have hw1 : wrap64 ((S : Int) + (z : Int)) = ((S + z : Nat) : Int) := by rw [← Int.natCast_add]; exact IntWalk.wrap64_in _ (by omega)
                have hw2 : IntKind.i64.wrap ((S : Int) + (z : Int)) = ((S + z : Nat) : Int) := (IntWalk.i64_left _).trans hw1
                have Hz : Hid (rpN D x k q = ⟨x, k, q, z⟩) := Lib.hid (by rw [← hz]; rfl)
                rw [Hz.out] at HSt2
                have HB9 := Lib.hid (HbV.out.trans ((HB1.out.trans (Hb.out.mono HB1.out.size)).mono HbV.out.size))
                clear hmm hp2 hrs hn8 hst p2 hS9
                go_wp2_with fail
                go_quiet (fail)
                go_wp2_with fail
                refine (HCc.out _ (below_dr HB9.out)).mono ?_
                rintro e W9 ⟨v9, rfl, ho9, hb9⟩
                obtain ⟨p9, c9, rfl, _, _, _⟩ := ho9.form
                rw [hz]
                have HbN : Hid (Below V1.heap.size V1 W9) := Lib.hid (Hb.out.trans ((Below.trans (below_dr (Below.refl _ _)) hb9).mono Hb.out.size))
                clear ho9 hb9 HCc hz HB9
                by_cases hgt : s.n < (z : Int)
                · have Hs2 : Hid (StA (rpE D L ((wordsE m N).take i) ++ rpA D x L k ++ rpK D x k (q + 1)) ⟨x, (k : Int), (q : Int), (z : Int)⟩ (S + z) (T + 1)) := Lib.hid (by
                    have h := HSt2.out
                    unfold Ws.step at h
                    rw [if_pos hgt] at h
                    exact h)
                  go_wp2
                  go_roundw
                  case rel => exact ⟨q + 1, ⟨x, (k : Int), (q : Int), (z : Int)⟩, S + z, T + 1, by omega, rfl, rfl, by go_num, rfl, rfl, rfl, by go_num, Hs2, HbN⟩
                  case measure => simp [intOf]; omega
                · have Hs2 : Hid (StA (rpE D L ((wordsE m N).take i) ++ rpA D x L k ++ rpK D x k (q + 1)) s (S + z) (T + 1)) := Lib.hid (by
                    have h := HSt2.out
                    unfold Ws.step at h
                    rw [if_neg hgt] at h
                    exact h)
                  go_wp2
                  go_roundw
                  case rel => exact ⟨q + 1, s, S + z, T + 1, by omega, rfl, rfl, by go_num, rfl, rfl, rfl, by go_num, Hs2, HbN⟩
                  case measure => simp [intOf]; omega
            · have q9 : ¬ (q : Int) < (L : Int) := by omega
              have hqe : q = L := by omega
              have Hs2 : Hid (StA (rpE D L ((wordsE m N).take i) ++ rpA D x L (k + 1)) s S T) := Lib.hid (by rw [rpA_succ, ← List.append_assoc, ← hqe]; have h := HSt.out; rw [hqe] at h ⊢; exact h)
              clear hqe
              go_wp2
              go_roundw
              case rel => exact ⟨k + 1, s, S, T, by omega, rfl, rfl, rfl, rfl, rfl, rfl, by go_num, Hs2, Hb⟩
              case measure => simp [intOf]; omega
        · have k9 : ¬ (k : Int) < (x.size : Int) := by omega
          have hke : k = x.size := by omega
          have Hs2 : Hid (StA (rpE D L ((wordsE m N).take (i + 1))) s S T) := Lib.hid (by rw [Htk.out, rpE_snoc, ← hke]; exact HSt.out)
          clear hke
          go_wp2
          go_roundw
          case rel => exact ⟨i + 1, s, S, T, by omega, rfl, rfl, rfl, rfl, rfl, rfl, by go_num, Hs2, Hb⟩
          case measure => simp [intOf]; omega
    · have i9 : ¬ (i : Int) < (n : Int) := by omega
      have Hs2 : Hid (StA ps s S T) := Lib.hid (by
        have h := HSt.out
        rw [List.take_of_length_le (by rw [HWn.out]; omega), HPs.out] at h
        exact h)
      go_wp2
      refine bodyPost_ret (v := .tuple #[.int .i64 s.n, .int .i64 (S : Int), .int .i64 (T : Int), .string s.w, .int .i64 s.a, .int .i64 s.c]) ?_ rfl ⟨by rw [Hs2.out.w, Hs2.out.s, Hs2.out.t], by rw [← hg]; exact HbV.out.trans ((HB1.out.trans (Hb.out.mono HB1.out.size)).mono HbV.out.size)⟩
      simp [results, Try.results47, go_sem]
end Go.Proofs.Ytcafeffgaokiaaa
