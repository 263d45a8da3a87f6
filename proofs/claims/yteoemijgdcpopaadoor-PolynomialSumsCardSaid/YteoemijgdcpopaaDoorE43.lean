/- grooveref01.Print: the walk. -/
import Derived.Test.YteoemijgdcpopaaDoorE42
import Derived.Test.YteoemijgdcpopaaDoorE24
namespace Go.Proofs.YteoemijgdcpopaaDoor
open Go.RowKit Go.Shelf
/-- Block g begins with these n bytes. -/
def BytB (w : World) (g : Nat) (F : Nat → Nat) (n : Nat) : Prop := g < w.heap.size ∧ ∀ j, j < n → w.cell? ⟨g, j, none⟩ = some (.int .u8 (F j : Nat)) ∧ w.frozen? ⟨g, j, none⟩ = false
theorem BytB.set {w : World} {g n : Nat} {F : Nat → Nat} (h : BytB w g F n) {j : Nat} (v : Nat) : BytB (w.setCell ⟨g, j, none⟩ (.int .u8 (v : Int))) g (fun i => if i = j then v else F i) n := by
  refine ⟨by simpa using h.1, fun i hi => ⟨?_, by rw [World.frozen?_setCell]; exact (h.2 i hi).2⟩⟩
  by_cases e : i = j
  · subst e
    show _ = some (Value.int .u8 ((if i = i then v else F i : Nat) : Int))
    rw [if_pos rfl]
    exact World.cell?_setCell_same w _ _ (h.2 i hi).1
  · show _ = some (Value.int .u8 ((if i = j then v else F i : Nat) : Int))
    rw [if_neg e, World.cell?_setCell_other w _ _ _ (by intro hh; cases hh; exact e rfl)]
    exact (h.2 i hi).1
theorem BytB.congr {w : World} {g n : Nat} {F G : Nat → Nat} (h : BytB w g F n) (e : ∀ j, j < n → F j = G j) : BytB w g G n :=
  ⟨h.1, fun j hj => by rw [← e j hj]; exact h.2 j hj⟩
theorem BytB.below {w w' : World} {g n B : Nat} {F : Nat → Nat} (h : BytB w g F n) (hb : Below B w w') (hg : g < B) : BytB w' g F n :=
  ⟨Nat.lt_of_lt_of_le h.1 hb.size, fun j hj => ⟨(hb.cell (p := ⟨g, j, none⟩) hg).trans (h.2 j hj).1, (hb.frozen (p := ⟨g, j, none⟩) hg).trans (h.2 j hj).2⟩⟩
theorem bytesB_string {w : World} {g n cap : Nat} {F : Nat → Nat} (h : BytB w g F n) (l : List UInt8) (hl : l.length = n) (hF : ∀ j (hj : j < l.length), F j = l[j].toNat) :
    (convert 58 9 (.slice (some ⟨g, 0, none⟩) n cap)).run Tryd.prog w = .ok (.string ⟨l.toArray⟩) w := by
  subst hl
  refine run_convert_bytes_back (P := Tryd.prog) w 58 9 5 ⟨g, 0, none⟩ cap l Tryd.underlying58 Tryd.underlying5 Tryd.underlying9 (fun j hj => ?_)
  have := (h.2 j hj).1
  rw [hF j hj] at this
  rw [Addr.add_lit]; simpa using this
/-- []byte(s). -/
theorem bytes_of (s : ByteArray) (w : World) :
    ∃ cap w', (convert 9 58 (.string s)).run Tryd.prog w = .ok (.slice (some ⟨w.heap.size, 0, none⟩) s.size cap) w' ∧ BytB w' w.heap.size (fun t => (s.data.toList.getD t 0).toNat) s.size ∧ Below w.heap.size w w' := by
  have h := run_bytes_of_string (P := Tryd.prog) w 9 58 5 s Tryd.underlying9 Tryd.underlying58 Tryd.underlying5
  refine ⟨_, _, h, ?_, (Below.refl _ w).drew.alloc (Nat.le_refl _) _⟩
  obtain ⟨cap, hcap⟩ : ∃ cap, grownCap w s.size 0 5 = cap := ⟨_, rfl⟩
  rw [hcap]
  have hsz : s.size ≤ (bytesRow s cap).size := by
    unfold bytesRow
    rw [Array.size_append, Array.size_map]
    show s.data.size ≤ s.data.size + _
    omega
  have hblk : (w.drew.alloc (.cells (bytesRow s cap) 5 ((bytesRow s cap).size, (bytesRow s cap).size + 1))).heap[w.heap.size]? = some (.cells (bytesRow s cap) 5 ((bytesRow s cap).size, (bytesRow s cap).size + 1)) := heap_alloc_new w.drew _
  refine ⟨by simp, fun j hj => ⟨?_, ?_⟩⟩
  · unfold World.cell?
    simp only [hblk]
    have hj2 : j < s.data.size := hj
    have : (bytesRow s cap)[j]? = some (.int .u8 (((s.data.toList.getD j 0).toNat : Nat) : Int)) := by
      unfold bytesRow
      rw [Array.getElem?_append_left (by rw [Array.size_map]; exact hj2), Array.getElem?_map]
      simp [Array.getElem?_eq_getElem hj2]
    simpa using this
  · unfold World.frozen?
    simp only [hblk]
    rw [Bool.and_eq_false_iff]
    left
    rw [decide_eq_false_iff_not]
    show ¬ (bytesRow s cap).size ≤ j
    omega
theorem grownBy_setCellN (W : World) (b i : Nat) (v : Value) : W.grownBy (W.setCell ⟨b, i, none⟩ v) (some b) :=
  ⟨rfl, rfl, rfl, by simp, fun k _ hne => by
    have hk : k ≠ b := fun h => hne (by rw [h])
    simp [World.setCell, Array.getElem?_modify, Ne.symm hk]⟩
theorem OwnBytes.setFar {w : World} {B b i : Nat} {v : Value} {xs : List UInt8} (h : OwnBytes w B v xs) (hb : b < B) (u : Value) : OwnBytes (w.setCell ⟨b, i, none⟩ u) B v xs := by
  refine World.ownsRow.kept h (grownBy_setCellN w b i u) ?_
  cases hv : v.ownBlock with
  | none => exact .inl rfl
  | some k =>
    refine .inr fun e => ?_
    have := (World.ownsRow.lt h k hv).1
    cases e
    omega
/-- The row that a call has made, as a block of bytes. -/
theorem OwnBytes.blk {w : World} {B : Nat} {v : Value} {xs : List UInt8} (h : OwnBytes w B v xs) (h0 : 0 < xs.length) : ∃ g cap, v = .slice (some ⟨g, 0, none⟩) xs.length cap ∧ B ≤ g ∧ BytB w g (fun t => (xs.getD t 0).toNat) xs.length := by
  rcases id h.2 with ⟨_, h1⟩ | ⟨g, cap, cur, rfl, hg, hh, hnc, _, hsz, htk⟩
  · omega
  · refine ⟨g, cap, rfl, hg, (Array.getElem?_eq_some_iff.1 hh).1, fun j hj => ⟨?_, ?_⟩⟩
    · have h1 := World.ownsRow.cellAt h j (by omega)
      rw [h1]
      simp [List.getD_eq_getElem?_getD, hj]
    · exact World.ownsRow.frozenAt h j
theorem wrap_u8 {q : Nat} (h : q < 256) : IntKind.u8.wrap (q : Int) = (q : Int) := by
  show (q : Int) % 256 = q
  omega
theorem ref_or (n : Nat) (c : Nat) (hc : c < 256) (hn : n < 10) : bits .or .i64 ((n : Int) * 256) (c : Int) = ((n * 256 + c : Nat) : Int) := or_byte n c hc (by omega)
set_option maxRecDepth 100000 in
set_option maxHeartbeats 8000000 in
theorem refPrint_any (z : ZI) (hz : z.mag.size ≤ 1000000) (w : World) :
    Calls Tryd.prog 100 #[.agg #[.bool z.neg, .string z.mag]] w fun e w' => e = .returned (.string ⟨(prI (valZ z)).toArray⟩) ∧ Below w.heap.size w w' := by
  have HC := Lib.hid (fun W => refCanonical_any z (by omega) W)
  have hms : (canon (valZ z)).mag.size ≤ 1000000 := Nat.le_trans (canon_size_le z) hz
  obtain ⟨x, hx⟩ : ∃ x, valZ z = x := ⟨_, rfl⟩
  rw [hx] at HC hms ⊢
  have hbx := BoxAt.new w (.bool z.neg) (.string z.mag) 35
  have hal := (Below.refl w.heap.size w).alloc (Nat.le_refl _) (.cells #[.bool z.neg, .string z.mag] 35)
  have HX := Lib.hid hbx
  have HB := Lib.hid hal
  have hbv : bval (canon x).mag.data.toList = x.natAbs := by
    show bval (beb x.natAbs) = _
    exact bval_beb _
  have hcn : (canon x).neg = decide (x < 0) := rfl
  obtain ⟨X, hX⟩ : ∃ X, canon x = X := ⟨_, rfl⟩
  have hXe : x ≠ 0 → X.mag.toList.isEmpty = false ∧ (X.mag.toList == []) = false ∧ 0 < X.mag.size ∧ (X.mag.data.toList.getD 0 0).toNat ≠ 0 := fun h0 => by
    have h1 : X.mag.data.toList = beb x.natAbs := by rw [← hX]; rfl
    have h2 : beb x.natAbs ≠ [] := fun h => by
      have h3 := bval_beb x.natAbs
      rw [h] at h3
      have : bval [] = 0 := rfl
      omega
    rw [ByteArray.toList_eq]
    rw [h1]
    refine ⟨by simpa using h2, by simpa using h2, ?_, ?_⟩
    · show 0 < X.mag.data.size
      rw [← Array.length_toList, h1]
      exact List.length_pos_iff.2 h2
    · exact beb_head0 _ h2
  rw [hX] at HC hms hbv hcn
  have HXe := Lib.hid hXe
  have Hbv := Lib.hid hbv
  have Hcn := Lib.hid hcn
  have HX0 : Hid (x = 0 → X = ⟨false, ⟨#[]⟩⟩) := Lib.hid (fun h => by rw [← hX, h]; rfl)
  clear hz hx hbx hal hbv hcn hX hXe
  go_enter Tryd.func100, Tryd.ntmps100
  go_upto_region 1 with (fail)
  obtain ⟨gx, hgx⟩ : ∃ g, w.heap.size = g := ⟨_, rfl⟩
  have hwg : w.heap.size ≤ gx := by omega
  have Hgx := Lib.hid hgx
  rw [hgx] at HX ⊢
  clear hgx
  generalize w.alloc (.cells #[.bool z.neg, .string z.mag] 35) = V at *
  obtain ⟨a0, a1, _, _, _⟩ := HX.out
  go_wp2_with fail
  refine (HC.out V).mono ?_
  rintro e V1 ⟨rfl, hb1⟩
  dsimp only
  have HX1 := Lib.hid (HX.out.below hb1 HX.out.2.2.2.2)
  have HB1 := Lib.hid (HB.out.trans (hb1.mono HB.out.size))
  clear hb1 a0 a1 HX HB HC
  obtain ⟨b0, b1, b2, b3, b4⟩ := HX1.out
  have HX2 := Lib.hid (HX1.out.set2 (.bool X.neg) (.string X.mag))
  have HB2 := Lib.hid ((HB1.out.setCell (p := ⟨gx, 0, none⟩) hwg (.bool X.neg)).setCell (p := ⟨gx, 1, none⟩) hwg (.string X.mag))
  go_upto_region 2 with (fail)
  clear b0 b1 b2 b3 b4 HX1 HB1
  generalize (V1.setCell ⟨gx, 0, none⟩ (.bool X.neg)).setCell ⟨gx, 1, none⟩ (.string X.mag) = V2 at *
  obtain ⟨b0, b1, b2, b3, b4⟩ := HX2.out
  by_cases hx0 : x = 0
  · have hXz := HX0.out hx0
    rw [hXz] at b0 b1
    subst hx0
    clear HX0 HXe hXz
    go_wp2_with fail
    go_ret
    exact ⟨rfl, HB2.out⟩
  · obtain ⟨e1, e2, hn0, hF0⟩ := HXe.out hx0
    have e3 : X.mag.toList ≠ [] := by simpa using e2

    obtain ⟨M, hM⟩ : ∃ M, X.mag = M := ⟨_, rfl⟩
    rw [hM] at e1 e2 e3 b1 hn0 hF0 Hbv HX2 hms ⊢
    obtain ⟨cap, V3, hcv, hBy, hb3⟩ := bytes_of M V2
    obtain ⟨gb, hgb⟩ : ∃ g, V2.heap.size = g := ⟨_, rfl⟩
    have hxg : gx < gb := by omega
    have hgw : w.heap.size ≤ gb := by omega
    have HX3 := Lib.hid (HX2.out.below hb3 b4)
    have HB3 := Lib.hid (HB2.out.trans (hb3.mono HB2.out.size))
    rw [hgb] at hcv hBy
    have HBy := Lib.hid hBy
    obtain ⟨n, hn⟩ : ∃ n, M.size = n := ⟨_, rfl⟩
    have HN0 : Hid (bvA (fun t => (M.data.toList.getD t 0).toNat) 0 n = x.natAbs) := Lib.hid (by
      rw [← Hbv.out, ← bval_bvA _ n (by rw [← hn]; exact Nat.le_of_eq (Array.length_toList (xs := M.data)).symm), List.take_of_length_le (by rw [← hn]; exact Nat.le_of_eq (Array.length_toList (xs := M.data)))])
    have HG8 : Hid (∀ j, (M.data.toList.getD j 0).toNat < 256) := Lib.hid (fun j => UInt8.toNat_lt _)
    obtain ⟨G, hG⟩ : ∃ G : Nat → Nat, (fun t => (M.data.toList.getD t 0).toNat) = G := ⟨_, rfl⟩
    have hGk : ∀ j, (M.data.toList.getD j 0).toNat = G j := fun j => by rw [← hG]
    rw [hG, hn] at HBy
    rw [hG] at HN0
    simp only [hGk] at HG8 hF0
    rw [hn] at hcv hn0 hms
    clear hb3 hBy hG hGk HX2 HB2 hgb Hbv HXe HX0
    obtain ⟨B1, hB1⟩ : ∃ B, V3.heap.size = B := ⟨_, rfl⟩
    have hgB : gb < B1 := by have := HBy.out.1; omega
    have hB1w : B1 ≤ V3.heap.size := by omega
    have hxB : gx < B1 := by omega
    have hwB : w.heap.size ≤ B1 := by omega
    obtain ⟨NN, hNN⟩ : ∃ N, x.natAbs = N := ⟨_, rfl⟩
    rw [hNN] at HN0
    have hng : ∀ t, NN / 10 ^ (t + 1) = NN / 10 ^ t / 10 := fun t => by rw [Nat.pow_succ, Nat.div_div_eq_div_mul]
    have Hng := Lib.hid hng
    have HXc := Lib.hid (show BoxAt V3 gx (.bool X.neg) (.string M) from HX3.out)
    have HNN := Lib.hid hNN
    have Htb : Hid (∀ t, 0 < NN / 10 ^ t → t + 1 ≤ 3000000) := Lib.hid (fun t h => by
      have h1 : NN < 256 ^ n := by rw [← HN0.out]; exact bvA_lt HG8.out 0 n
      have h2 : 10 ^ t ≤ NN := by
        refine Nat.le_of_not_lt fun h3 => ?_
        rw [Nat.div_eq_of_lt h3] at h
        omega
      have h4 : (256 : Nat) ^ n ≤ (10 ^ 3) ^ n := Nat.pow_le_pow_left (by decide) n
      rw [← Nat.pow_mul] at h4
      have h5 : t < 3 * n := Nat.lt_of_not_le fun h6 => by
        have := Nat.pow_le_pow_right (show 0 < 10 by decide) h6
        omega
      omega)
    clear hng hNN hB1 HX3
    go_wp2_with fail
    go_loopg [3, 5] NN (fun g ov av wr => ∃ (t a : Nat) (F : Nat → Nat), av = .int .i64 (a : Nat) ∧ a ≤ n ∧ (a < n → F a ≠ 0) ∧ t ≤ 3000000 ∧ NN / 10 ^ t ≤ g ∧ Hid (∀ j, F j < 256) ∧ Hid (bvA F a (n - a) = NN / 10 ^ t) ∧ Hid (∀ s, s < t → 0 < NN / 10 ^ s) ∧ Hid (OwnBytes wr B1 ov (rdg NN t)) ∧ Hid (BytB wr gb F n) ∧ Hid (BoxAt wr gx (.bool X.neg) (.string M)) ∧ Hid (Below w.heap.size w wr) ∧ B1 ≤ wr.heap.size)
    case atStart => exact ⟨0, 0, G, by go_num, by omega, fun _ => hF0, by omega, by simp, HG8, by rw [Nat.sub_zero, Nat.pow_zero, Nat.div_one]; exact HN0, Lib.hid (fun s hs => by omega), Lib.hid (World.ownsRow_nil _ _ _ _), HBy, HXc, HB3, hB1w⟩
    case round =>
      clear HBy HXc HB3 HN0 HG8 hF0
      obtain ⟨t, a, F, rfl, ha, hFa, ht3, hgm, HF8, HVal, Hpos, HO, HBb, HXb, HBl, hBs⟩ := hrel
      by_cases hal : a < n
      · have a0 : (0 : Int) ≤ (a : Int) := by omega
        have a1 : (a : Int) < (n : Int) := by omega
        go_wp2_with fail
        go_loopw [6, 7] (fun rv iv wr2 => ∃ (k : Nat) (F2 : Nat → Nat), a + k ≤ n ∧ iv = .int .i64 ((a + k : Nat) : Int) ∧ rv = .int .i64 ((bvA F a k % 10 : Nat) : Int) ∧ Hid (∀ j, F2 j < 256) ∧ Hid (∀ j, a + k ≤ j → F2 j = F j) ∧ Hid (bvA F2 a k = bvA F a k / 10) ∧ Hid (BytB wr2 gb F2 n) ∧ Hid (OwnBytes wr2 B1 u3 (rdg NN t)) ∧ Hid (BoxAt wr2 gx (.bool X.neg) (.string M)) ∧ Hid (Below w.heap.size w wr2) ∧ B1 ≤ wr2.heap.size) (fun _ iv _ => n - (intOf iv).toNat)
        case atStart => exact ⟨0, F, by omega, by go_num, by simp [bvA], HF8, Lib.hid (fun _ _ => rfl), Lib.hid (by simp [bvA]), HBb, HO, HXb, HBl, hBs⟩
        case round =>
          clear HBb HO HXb HBl hBs
          obtain ⟨k, F2, hk, rfl, rfl, HF28, HFe, HQ, HBb, HO, HXb, HBl, hBs⟩ := hrel
          by_cases hkl : a + k < n
          · have k0 : (0 : Int) ≤ ((a + k : Nat) : Int) := by omega
            have k1 : ((a + k : Nat) : Int) < (n : Int) := by omega
            obtain ⟨c0, f0⟩ := HBb.out.2 (a + k) hkl
            have hbl : gb < wr.heap.size := HBb.out.1
            have hFk := HFe.out (a + k) (Nat.le_refl _)
            have hA1 : bvA F a (k + 1) = bvA F a k * 256 + F2 (a + k) := by rw [hFk]; rfl
            obtain ⟨d1, d2⟩ := div10_step (bvA F a k) (F2 (a + k))
            rw [← hA1] at d1 d2
            obtain ⟨r, hr⟩ : ∃ r, bvA F a k % 10 = r := ⟨_, rfl⟩
            obtain ⟨g, hg⟩ : ∃ g, F2 (a + k) = g := ⟨_, rfl⟩
            have rl : r < 10 := by omega
            have gl : g < 256 := by rw [← hg]; exact HF28.out _
            obtain ⟨cc, hcc⟩ : ∃ cc, r * 256 + g = cc := ⟨_, rfl⟩
            have cl : cc < 2560 := by omega
            have hor := ref_or r g gl rl
            rw [hcc] at hor
            rw [hr, hg, hcc] at d1 d2
            rw [hg] at c0
            rw [hr]
            have hq8 : cc / 10 < 256 := by omega
            obtain ⟨qq, hqq⟩ : ∃ q, cc / 10 = q := ⟨_, rfl⟩
            obtain ⟨mm, hmm⟩ : ∃ q, cc % 10 = q := ⟨_, rfl⟩
            have hqI : (cc : Int) / 10 = (qq : Int) := by omega
            have hmI : (cc : Int) % 10 = (mm : Int) := by omega
            have hwq : IntKind.i64.wrap ((cc : Int) / 10) = (qq : Int) := by rw [hqI]; exact IntWalk.i64_in _ (by omega)
            have hw6 : wrap64 ((cc : Int) / 10) = (qq : Int) := by rw [hqI]; exact IntWalk.wrap64_in _ (by omega)
            have hwu : IntKind.u8.wrap (qq : Int) = (qq : Int) := by rw [hqq] at hq8; exact wrap_u8 hq8
            rw [hqq] at d1 hq8
            rw [hmm] at d2
            have Hd := Lib.hid (And.intro d1 d2)
            have Hh := Lib.hid (And.intro hr (And.intro hg (And.intro hcc (And.intro hqq hmm))))
            have HB5 := Lib.hid (HBb.out.set (j := a + k) qq)
            have HO5 := Lib.hid (HO.out.setFar (i := a + k) hgB (.int .u8 (qq : Int)))
            have HX5 := Lib.hid ((HXb.out.far ⟨gb, a + k, none⟩ (.int .u8 (qq : Int)) (by show gb ≠ gx; omega)))
            have HL5 := Lib.hid (HBl.out.setCell (p := ⟨gb, a + k, none⟩) hgw (.int .u8 (qq : Int)))
            clear d1 d2 hr hg hcc hqq hmm hA1 hFk HBb HO HXb HBl hqI hmI
            go_wp2_with fail
            go_roundw
            case rel =>
              refine ⟨k + 1, fun j => if j = a + k then qq else F2 j, by omega, by first | go_num | (congr 1; omega), ?_, Lib.hid (fun j => ?_), Lib.hid (fun j hj => ?_), Lib.hid ?_, HB5, HO5, HX5, HL5, by simpa using hBs⟩
              · have h1 := Hd.out.2
                have h2 := Hh.out.2.2.2.2
                rw [h1, ← h2]
                congr 1
              · show (if j = a + k then qq else F2 j) < 256
                split
                · exact hq8
                · exact HF28.out j
              · show (if j = a + k then qq else F2 j) = F j
                rw [if_neg (by omega)]
                exact HFe.out j (by omega)
              · rw [bvA, bvA_congr (G := F2) fun j h1 h2 => if_neg (by omega), if_pos rfl, HQ.out]
                exact Hd.out.1.symm
            case measure => simp [intOf]; omega
          · have k1 : ¬ ((a + k : Nat) : Int) < (n : Int) := by omega
            have hke : k = n - a := by omega
            subst hke
            have hV := HVal.out
            obtain ⟨V, hVe⟩ : ∃ V, NN / 10 ^ t = V := ⟨_, rfl⟩
            rw [hVe] at hV hgm
            rw [hV]
            rw [hV] at HQ
            have hVp : 0 < V := by
              rw [← hV]
              have := bvA_pos (hFa hal) (n - a - 1)
              rwa [show n - a - 1 + 1 = n - a from by omega] at this
            obtain ⟨r, hr⟩ : ∃ r, V % 10 = r := ⟨_, rfl⟩
            have rl : r < 10 := by omega
            rw [hr]
            have ht4 : t + 1 ≤ 3000000 := Htb.out t (by rw [hVe]; exact hVp)
            have hnx : rdg NN (t + 1) = rdg NN t ++ [UInt8.ofNat (48 + r)] := by rw [rdg, hVe, hr]
            have hyv : (UInt8.ofNat (48 + r)).toNat = 48 + r := by rw [UInt8.toNat_ofNat']; exact Nat.mod_eq_of_lt (by omega)
            obtain ⟨y, hy⟩ : ∃ y, UInt8.ofNat (48 + r) = y := ⟨_, rfl⟩
            rw [hy] at hnx hyv
            have Hnx := Lib.hid hnx
            have hyI : ((y.toNat : Nat) : Int) = 48 + (r : Int) := by rw [hyv]; omega
            have hw8 : IntKind.u8.wrap (48 + (r : Int)) = ((y.toNat : Nat) : Int) := by
              rw [hyI]
              show (48 + (r : Int)) % 256 = _
              omega
            have Hyv := Lib.hid hyv
            have HVe := Lib.hid (And.intro hVe hr)
            have Hpos2 : Hid (∀ s, s < t + 1 → 0 < NN / 10 ^ s) := Lib.hid (fun s hs => by
              by_cases h : s = t
              · rw [h, hVe]; exact hVp
              · exact Hpos.out s (by omega))
            clear hnx hyv hy hyI hV Hpos HVal hVe
            go_wp2_with (at_builtin; refine wpList_append_byte rfl _ _ rfl B1 _ (rdg NN t) rfl (HO.out.alloc _) wr.heap.size 1 y rfl ?_ ?_ ?_ ?_)
            · rw [rdg_len]; omega
            · omega
            · intro v9 w9 hown9 hgr9
              have hb9 : Below B1 wr w9 := below_append ((Below.refl B1 wr).alloc hBs _) (HO.out.alloc _) hgr9 (by simp; omega) (Nat.le_refl _)
              rw [← Hnx.out] at hown9
              have HO9 := Lib.hid hown9
              have HBb9 := Lib.hid (HBb.out.below hb9 hgB)
              have HXb9 := Lib.hid (HXb.out.below hb9 hxB)
              have HBl9 := Lib.hid (HBl.out.trans (hb9.mono hwB))
              have hBs9 : B1 ≤ w9.heap.size := Nat.le_trans hBs hb9.size
              clear hown9 hgr9 hb9 HO HBb HXb HBl hBs Hnx
              go_wp2_with fail
              go_loopw [5] (fun av wr3 => ∃ b2 : Nat, b2 ≤ n ∧ av = .int .i64 (b2 : Nat) ∧ Hid (bvA F2 b2 (n - b2) = V / 10) ∧ w9 = wr3) (fun av _ => n - (intOf av).toNat)
              case atStart => exact ⟨a, ha, by go_num, HQ, rfl⟩
              case round =>
                obtain ⟨b2, hb2, rfl, HW, rfl⟩ := hrel
                by_cases hbn : b2 < n
                · have k2 : (0 : Int) ≤ (b2 : Int) := by omega
                  have k3 : (b2 : Int) < (n : Int) := by omega
                  obtain ⟨c0, f0⟩ := HBb9.out.2 b2 hbn
                  by_cases hz0 : F2 b2 = 0
                  · rw [hz0] at c0
                    have HW2 : Hid (bvA F2 (b2 + 1) (n - (b2 + 1)) = V / 10) := Lib.hid (by
                      have h1 := bvA_front hz0 (n - (b2 + 1))
                      rw [← h1, show n - (b2 + 1) + 1 = n - b2 from by omega]
                      exact HW.out)
                    have e00 : (((0 : Nat) : Int) == 0) = true := rfl
                    clear hz0 f0 HW
                    go_wp2_with fail
                    go_roundw
                    case rel => exact ⟨b2 + 1, by omega, by go_num, HW2, by first | rfl | trivial⟩
                    case measure => simp [intOf]; omega
                  · have hz1 : ((F2 b2 : Nat) : Int) ≠ 0 := by omega
                    have hz2 : (((F2 b2 : Nat) : Int) == 0) = false := by rw [beq_eq_false_iff_ne]; exact hz1
                    obtain ⟨gg, hgg⟩ : ∃ q, F2 b2 = q := ⟨_, rfl⟩
                    have Hz0 := Lib.hid hz0
                    rw [hgg] at c0 hz1 hz2
                    clear hgg hz0 f0
                    go_wp2_with fail
                    go_roundg (NN / 10 ^ (t + 1))
                    case measure => have h1 := Hng.out t; rw [HVe.out.1] at h1; omega
                    case rel => exact ⟨t + 1, b2, F2, by go_num, hb2, fun _ => Hz0.out, ht4, Nat.le_refl _, HF28, Lib.hid (by rw [HW.out, Hng.out t, HVe.out.1]), Hpos2, HO9, HBb9, HXb9, HBl9, hBs9⟩
                · have k3 : ¬ (b2 : Int) < (n : Int) := by omega
                  go_wp2_with fail
                  go_roundg (NN / 10 ^ (t + 1))
                  case measure => have h1 := Hng.out t; rw [HVe.out.1] at h1; omega
                  case rel => exact ⟨t + 1, b2, F2, by go_num, hb2, fun h => absurd h hbn, ht4, Nat.le_refl _, HF28, Lib.hid (by rw [HW.out, Hng.out t, HVe.out.1]), Hpos2, HO9, HBb9, HXb9, HBl9, hBs9⟩
      · have k3 : ¬ (a : Int) < (n : Int) := by omega
        have hae : a = n := by omega
        have hN0 : NN / 10 ^ t = 0 := by
          rw [← HVal.out, hae, Nat.sub_self]; rfl
        have hNt : NN < 10 ^ t := by
          have hp : 0 < 10 ^ t := Nat.pow_pos (by decide)
          refine Nat.lt_of_not_le fun h => ?_
          have := Nat.div_pos h hp
          omega
        have HR := Lib.hid (rdg_dec t NN hNt Hpos.out)
        have ht0 : 0 < t := by
          rcases Nat.eq_zero_or_pos t with h | h
          · rw [h] at hNt
            have := HNN.out
            simp at hNt
            omega
          · exact h
        clear hN0 hNt HVal Hpos hFa
        obtain ⟨q0, q1, _, _, _⟩ := HXb.out
        by_cases hneg : x < 0
        · have hXn : X.neg = true := by rw [Hcn.out]; exact decide_eq_true hneg
          rw [hXn] at q0
          have HRes : Hid ((rdg NN t ++ [45]).reverse = prI x) := Lib.hid (by
            unfold prI
            rw [if_neg (by omega), if_pos hneg, List.reverse_append, HR.out, HNN.out]; rfl)
          have HLen : Hid ((rdg NN t ++ [45]).length = t + 1) := Lib.hid (by rw [List.length_append, rdg_len]; rfl)
          have hy45 : ((45 : UInt8).toNat : Int) = 45 := rfl
          clear HR hneg hXn
          go_wp2_with (at_builtin; refine wpList_append_byte rfl _ _ rfl B1 _ (rdg NN t) rfl (HO.out.alloc _) wr.heap.size 1 45 rfl ?_ ?_ ?_ ?_)
          all_goals first | (rw [rdg_len]; omega) | omega | skip
          · intro v9 w9 hown9 hgr9
            have hb9 : Below B1 wr w9 := below_append ((Below.refl B1 wr).alloc hBs _) (HO.out.alloc _) hgr9 (by simp; omega) (Nat.le_refl _)
            have HO9 := Lib.hid hown9
            have HBl9 := Lib.hid (HBl.out.trans (hb9.mono hwB))
            obtain ⟨l, hl⟩ : ∃ l, rdg NN t ++ [45] = l := ⟨_, rfl⟩
            rw [hl] at HO9 HRes HLen
            obtain ⟨Ln, hLn⟩ : ∃ k, t + 1 = k := ⟨_, rfl⟩
            rw [hLn] at HLen
            have hLp : 0 < Ln := by omega
            have hLm : Ln ≤ 4000000 := by omega
            clear hown9 hgr9 hb9 HO HBl hl hLn q0 q1
            obtain ⟨gq, cq, hve, hgq, hbq⟩ := HO9.out.blk (by rw [HLen.out]; exact hLp)
            rw [HLen.out] at hve hbq
            subst hve
            have hgw9 : w.heap.size ≤ gq := Nat.le_trans hwB hgq
            have HQ0 := Lib.hid hbq
            have hO8 : ∀ t, (l.getD t 0).toNat < 256 := fun t => UInt8.toNat_lt _
            obtain ⟨O, hO⟩ : ∃ O : Nat → Nat, (fun t => (l.getD t 0).toNat) = O := ⟨_, rfl⟩
            have HOk : Hid (∀ t, (l.getD t 0).toNat = O t) := Lib.hid (fun t => by rw [← hO])
            rw [hO] at HQ0
            have hL1 : IntKind.i64.wrap ((Ln : Int) - 1) = (Ln : Int) - 1 := IntWalk.i64_in _ (by omega)
            clear hbq hO hO8 HO9
            go_wp2_with fail
            go_loopw [8, 9] (fun iv kv wr2 => ∃ i : Nat, i ≤ Ln ∧ 2 * i ≤ Ln + 1 ∧ iv = .int .i64 (i : Nat) ∧ kv = .int .i64 ((Ln : Int) - 1 - (i : Int)) ∧ Hid (BytB wr2 gq (fun t => if t < i ∨ Ln ≤ t + i then O (Ln - 1 - t) else O t) Ln) ∧ Hid (Below w.heap.size w wr2)) (fun iv _ _ => Ln - (intOf iv).toNat)
            case atStart => exact ⟨0, by omega, by omega, by go_num, by first | rfl | (congr 1; omega) | simp, Lib.hid (HQ0.out.congr fun t ht => by rw [if_neg (by omega)]), HBl9⟩
            case round =>
              clear HQ0 HBl9
              obtain ⟨i, hi, hi2, rfl, rfl, HQi, HBi⟩ := hrel
              by_cases hil : 2 * i + 1 < Ln
              · obtain ⟨kN, hkN⟩ : ∃ k, Ln - 1 - i = k := ⟨_, rfl⟩
                rw [show (Ln : Int) - 1 - (i : Int) = (kN : Int) from by omega]
                have z0 : (0 : Int) ≤ (i : Int) := by omega
                have z1 : (0 : Int) ≤ (kN : Int) := by omega
                have z2 : (i : Int) < (kN : Int) := by omega
                have z3 : (i : Int) < (Ln : Int) := by omega
                have z4 : (kN : Int) < (Ln : Int) := by omega
                have hik : i ≠ kN := by omega
                obtain ⟨c1, f1⟩ := HQi.out.2 i (by omega)
                obtain ⟨c2, f2⟩ := HQi.out.2 kN (by omega)
                dsimp only at c1 c2
                rw [if_neg (by omega)] at c1 c2
                have hS1 := HQi.out.set (j := i) (O kN)
                have hS2 := hS1.set (j := kN) (O i)
                obtain ⟨c3, f3⟩ := hS1.2 kN (by omega)
                have c3' : (wr.setCell ⟨gq, i, none⟩ (.int .u8 ((O kN : Nat) : Int))).cell? ⟨gq, kN, none⟩ = some (.int .u8 ((O kN : Nat) : Int)) := by
                  rw [World.cell?_setCell_other _ _ _ _ (by intro h; cases h; exact hik rfl)]; exact c2
                have HS2 := Lib.hid hS2
                have HL2 := Lib.hid ((HBi.out.setCell (p := ⟨gq, i, none⟩) hgw9 (.int .u8 ((O kN : Nat) : Int))).setCell (p := ⟨gq, kN, none⟩) hgw9 (.int .u8 ((O i : Nat) : Int)))
                have Hk := Lib.hid hkN
                clear hS1 hS2 c3 HQi HBi hkN
                go_upto_region 23 with (fail)
                refine wp_region_held_drew (S := fun _ => True) (by kernel_rfl) trivial (fun _ => ?_)
                refine wpAnyH_take (i := 0) (v := ?_) rfl (by kernel_rfl) (by kernel_rfl) (by kernel_rfl) (fun _ _ _ h => h) (Or.inl ⟨by rfl, ?_⟩) trivial ?_
                rotate_left 1
                next => intro w hSw; go_simp; try with_reducible rfl
                try simp only [Act.put, List.getElem_toArray, List.getElem_cons_zero, List.getElem_cons_succ, List.setIfInBounds_toArray, List.set_cons_zero, List.set_cons_succ]
                refine wpAnyH_take (i := 1) (v := ?_) rfl (by kernel_rfl) (by kernel_rfl) (by kernel_rfl) (fun _ _ _ h => h) (Or.inl ⟨by rfl, ?_⟩) trivial ?_
                rotate_left 1
                next => intro w hSw; go_simp; try with_reducible rfl
                try simp only [Act.put, List.getElem_toArray, List.getElem_cons_zero, List.getElem_cons_succ, List.setIfInBounds_toArray, List.set_cons_zero, List.set_cons_succ]
                refine wpAnyH_take (i := 2) (v := ?_) rfl (by kernel_rfl) (by kernel_rfl) (by kernel_rfl) (fun _ _ _ h => h) (Or.inl ⟨by rfl, ?_⟩) trivial ?_
                rotate_left 1
                next => intro w hSw; go_simp; try with_reducible rfl
                try simp only [Act.put, List.getElem_toArray, List.getElem_cons_zero, List.getElem_cons_succ, List.setIfInBounds_toArray, List.set_cons_zero, List.set_cons_succ]
                refine wpAnyH_take (i := 3) (v := ?_) rfl (by kernel_rfl) (by kernel_rfl) (by kernel_rfl) (fun _ _ _ h => h) (Or.inl ⟨by rfl, ?_⟩) trivial ?_
                rotate_left 1
                next => intro w hSw; go_simp; try with_reducible rfl
                try simp only [Act.put, List.getElem_toArray, List.getElem_cons_zero, List.getElem_cons_succ, List.setIfInBounds_toArray, List.set_cons_zero, List.set_cons_succ]
                refine wpAnyH_take (i := 4) (v := ?_) rfl (by kernel_rfl) (by kernel_rfl) (by kernel_rfl) (fun _ _ _ h => h) (Or.inl ⟨by rfl, ?_⟩) trivial ?_
                rotate_left 1
                next => intro w hSw; go_simp; try with_reducible rfl
                try simp only [Act.put, List.getElem_toArray, List.getElem_cons_zero, List.getElem_cons_succ, List.setIfInBounds_toArray, List.set_cons_zero, List.set_cons_succ]
                refine wpAnyH_take (i := 5) (v := ?_) rfl (by kernel_rfl) (by kernel_rfl) (by kernel_rfl) (fun _ _ _ h => h) (Or.inl ⟨by rfl, ?_⟩) trivial ?_
                rotate_left 1
                next => intro w hSw; go_simp; try with_reducible rfl
                try simp only [Act.put, List.getElem_toArray, List.getElem_cons_zero, List.getElem_cons_succ, List.setIfInBounds_toArray, List.set_cons_zero, List.set_cons_succ]
                refine wpAnyH_take (i := 6) (v := ?_) rfl (by kernel_rfl) (by kernel_rfl) (by kernel_rfl) (fun _ _ _ h => h) (Or.inl ⟨by rfl, ?_⟩) trivial ?_
                rotate_left 1
                next => intro w hSw; go_simp; try with_reducible rfl
                try simp only [Act.put, List.getElem_toArray, List.getElem_cons_zero, List.getElem_cons_succ, List.setIfInBounds_toArray, List.set_cons_zero, List.set_cons_succ]
                refine wpAnyH_take (i := 8) (v := ?_) rfl (by kernel_rfl) (by kernel_rfl) (by kernel_rfl) (fun _ _ _ h => h) (Or.inl ⟨by rfl, ?_⟩) trivial ?_
                rotate_left 1
                next => intro w hSw; go_simp; try with_reducible rfl
                try simp only [Act.put, List.getElem_toArray, List.getElem_cons_zero, List.getElem_cons_succ, List.setIfInBounds_toArray, List.set_cons_zero, List.set_cons_succ]
                refine wpAnyH_take (i := 9) (v := ?_) rfl (by kernel_rfl) (by kernel_rfl) (by kernel_rfl) (fun _ _ _ h => h) (Or.inl ⟨by rfl, ?_⟩) trivial ?_
                rotate_left 1
                next => intro w hSw; go_simp; try with_reducible rfl
                try simp only [Act.put, List.getElem_toArray, List.getElem_cons_zero, List.getElem_cons_succ, List.setIfInBounds_toArray, List.set_cons_zero, List.set_cons_succ]
                refine wpAnyH_take (i := 10) (v := ?_) rfl (by kernel_rfl) (by kernel_rfl) (by kernel_rfl) (fun _ _ _ h => h) (Or.inl ⟨by rfl, ?_⟩) trivial ?_
                rotate_left 1
                next => intro w hSw; go_simp; try with_reducible rfl
                try simp only [Act.put, List.getElem_toArray, List.getElem_cons_zero, List.getElem_cons_succ, List.setIfInBounds_toArray, List.set_cons_zero, List.set_cons_succ]
                try simp only [Act.put, List.getElem_toArray, List.getElem_cons_zero, List.getElem_cons_succ, List.setIfInBounds_toArray, List.set_cons_zero, List.set_cons_succ]
                refine wpAnyH_ready (rs := [7, 11]) (by kernel_rfl) (by simp) ?_
                refine AllReadyH.cons rfl (fun K hK => ?_) (AllReadyH.cons rfl (fun K hK => ?_) AllReadyH.nil)
                · go_simp
                  refine hK.out _ _ trivial (fun _ => ?_)
                  clear hK K
                  try simp only [Act.put, List.getElem_toArray, List.getElem_cons_zero, List.getElem_cons_succ, List.setIfInBounds_toArray, List.set_cons_zero, List.set_cons_succ]
                  refine wpAnyH_ready (rs := [11]) (by kernel_rfl) (by simp) ?_
                  refine AllReadyH.cons rfl (fun K hK => ?_) AllReadyH.nil
                  go_simp
                  refine hK.out _ _ trivial (fun _ => ?_)
                  clear hK K
                  refine wpAnyH_take (i := 12) (v := ?_) rfl (by kernel_rfl) (by kernel_rfl) (by kernel_rfl) (fun _ _ _ h => h) (Or.inl ⟨by rfl, ?_⟩) trivial ?_
                  rotate_left 1
                  next => intro w hSw; go_simp; try with_reducible rfl
                  try simp only [Act.put, List.getElem_toArray, List.getElem_cons_zero, List.getElem_cons_succ, List.setIfInBounds_toArray, List.set_cons_zero, List.set_cons_succ]
                  try simp only [Act.put, List.getElem_toArray, List.getElem_cons_zero, List.getElem_cons_succ, List.setIfInBounds_toArray, List.set_cons_zero, List.set_cons_succ]
                  refine wpAnyH_ready (rs := [13]) (by kernel_rfl) (by simp) ?_
                  refine AllReadyH.cons rfl (fun K hK => ?_) AllReadyH.nil
                  go_simp
                  refine hK.out _ _ trivial (fun _ => ?_)
                  clear hK K
                  refine wpAnyH_take (i := 14) (v := ?_) rfl (by kernel_rfl) (by kernel_rfl) (by kernel_rfl) (fun _ _ _ h => h) (Or.inl ⟨by rfl, ?_⟩) trivial ?_
                  rotate_left 1
                  next => intro w hSw; go_simp; try with_reducible rfl
                  try simp only [Act.put, List.getElem_toArray, List.getElem_cons_zero, List.getElem_cons_succ, List.setIfInBounds_toArray, List.set_cons_zero, List.set_cons_succ]
                  try simp only [Act.put, List.getElem_toArray, List.getElem_cons_zero, List.getElem_cons_succ, List.setIfInBounds_toArray, List.set_cons_zero, List.set_cons_succ]
                  refine wpAnyH_ready (rs := [15]) (by kernel_rfl) (by simp) ?_
                  refine AllReadyH.cons rfl (fun K hK => ?_) AllReadyH.nil
                  go_simp
                  refine hK.out _ _ trivial (fun _ => ?_)
                  clear hK K
                  refine wpAnyH_done (by kernel_rfl) ?_ _
                  go_wp2_with fail
                  go_roundw
                  case rel =>
                    refine ⟨i + 1, by omega, by omega, by go_num, by first | go_num | (congr 1; have := Hk.out; omega), Lib.hid (HS2.out.congr fun t ht => ?_), by first | exact HL2 | exact Lib.hid HL2.out.drew⟩
                    have := Hk.out
                    by_cases h1 : t = kN
                    · rw [if_pos h1, if_pos (by omega)]; congr 1; omega
                    · rw [if_neg h1]
                      by_cases h2 : t = i
                      · rw [if_pos h2, if_pos (by omega)]; congr 1; omega
                      · rw [if_neg h2]
                        by_cases h3 : t < i ∨ Ln ≤ t + i
                        · rw [if_pos h3, if_pos (by omega)]
                        · rw [if_neg h3, if_neg (by omega)]
                  case measure => simp [intOf]; omega
                · go_simp
                  refine hK.out _ _ trivial (fun _ => ?_)
                  clear hK K
                  try simp only [Act.put, List.getElem_toArray, List.getElem_cons_zero, List.getElem_cons_succ, List.setIfInBounds_toArray, List.set_cons_zero, List.set_cons_succ]
                  refine wpAnyH_ready (rs := [7]) (by kernel_rfl) (by simp) ?_
                  refine AllReadyH.cons rfl (fun K hK => ?_) AllReadyH.nil
                  go_simp
                  refine hK.out _ _ trivial (fun _ => ?_)
                  clear hK K
                  refine wpAnyH_take (i := 12) (v := ?_) rfl (by kernel_rfl) (by kernel_rfl) (by kernel_rfl) (fun _ _ _ h => h) (Or.inl ⟨by rfl, ?_⟩) trivial ?_
                  rotate_left 1
                  next => intro w hSw; go_simp; try with_reducible rfl
                  try simp only [Act.put, List.getElem_toArray, List.getElem_cons_zero, List.getElem_cons_succ, List.setIfInBounds_toArray, List.set_cons_zero, List.set_cons_succ]
                  try simp only [Act.put, List.getElem_toArray, List.getElem_cons_zero, List.getElem_cons_succ, List.setIfInBounds_toArray, List.set_cons_zero, List.set_cons_succ]
                  refine wpAnyH_ready (rs := [13]) (by kernel_rfl) (by simp) ?_
                  refine AllReadyH.cons rfl (fun K hK => ?_) AllReadyH.nil
                  go_simp
                  refine hK.out _ _ trivial (fun _ => ?_)
                  clear hK K
                  refine wpAnyH_take (i := 14) (v := ?_) rfl (by kernel_rfl) (by kernel_rfl) (by kernel_rfl) (fun _ _ _ h => h) (Or.inl ⟨by rfl, ?_⟩) trivial ?_
                  rotate_left 1
                  next => intro w hSw; go_simp; try with_reducible rfl
                  try simp only [Act.put, List.getElem_toArray, List.getElem_cons_zero, List.getElem_cons_succ, List.setIfInBounds_toArray, List.set_cons_zero, List.set_cons_succ]
                  try simp only [Act.put, List.getElem_toArray, List.getElem_cons_zero, List.getElem_cons_succ, List.setIfInBounds_toArray, List.set_cons_zero, List.set_cons_succ]
                  refine wpAnyH_ready (rs := [15]) (by kernel_rfl) (by simp) ?_
                  refine AllReadyH.cons rfl (fun K hK => ?_) AllReadyH.nil
                  go_simp
                  refine hK.out _ _ trivial (fun _ => ?_)
                  clear hK K
                  refine wpAnyH_done (by kernel_rfl) ?_ _
                  go_wp2_with fail
                  go_roundw
                  case rel =>
                    refine ⟨i + 1, by omega, by omega, by go_num, by first | go_num | (congr 1; have := Hk.out; omega), Lib.hid (HS2.out.congr fun t ht => ?_), by first | exact HL2 | exact Lib.hid HL2.out.drew⟩
                    have := Hk.out
                    by_cases h1 : t = kN
                    · rw [if_pos h1, if_pos (by omega)]; congr 1; omega
                    · rw [if_neg h1]
                      by_cases h2 : t = i
                      · rw [if_pos h2, if_pos (by omega)]; congr 1; omega
                      · rw [if_neg h2]
                        by_cases h3 : t < i ∨ Ln ≤ t + i
                        · rw [if_pos h3, if_pos (by omega)]
                        · rw [if_neg h3, if_neg (by omega)]
                  case measure => simp [intOf]; omega
              · have z2 : ¬ (i : Int) < (Ln : Int) - 1 - (i : Int) := by omega
                have hcv := bytesB_string (cap := cq) HQi.out l.reverse (by rw [List.length_reverse, HLen.out]) (fun j hj => by
                  rw [List.length_reverse, HLen.out] at hj
                  rw [List.getElem_reverse]
                  have h1 := HOk.out (Ln - 1 - j)
                  rw [List.getD_eq_getElem?_getD, List.getElem?_eq_getElem (by rw [HLen.out]; omega)] at h1
                  have h2 : (if j < i ∨ Ln ≤ j + i then O (Ln - 1 - j) else O j) = O (Ln - 1 - j) := by
                    split
                    · rfl
                    · rw [show j = Ln - 1 - j from by omega]
                      congr 1
                      omega
                  rw [h2, ← h1]
                  simp [HLen.out])
                rw [HRes.out] at hcv
                go_wp2_with fail
                go_ret
                exact ⟨rfl, HBi.out⟩
        · have hXn : X.neg = false := by rw [Hcn.out]; exact decide_eq_false hneg
          rw [hXn] at q0
          have HRes : Hid ((rdg NN t).reverse = prI x) := Lib.hid (by
            unfold prI
            rw [if_neg (by omega), if_neg hneg, List.nil_append, HR.out, HNN.out])
          have HLen : Hid ((rdg NN t).length = t) := Lib.hid (rdg_len NN t)
          have HO9 := HO
          have HBl9 := HBl
          obtain ⟨l, hl⟩ : ∃ l, rdg NN t = l := ⟨_, rfl⟩
          rw [hl] at HO9 HRes HLen
          obtain ⟨Ln, hLn⟩ : ∃ k, t = k := ⟨_, rfl⟩
          rw [hLn] at HLen
          have hLp : 0 < Ln := by omega
          have hLm : Ln ≤ 4000000 := by omega
          obtain ⟨v9, hv9⟩ : ∃ v, u3 = v := ⟨_, rfl⟩
          rw [hv9] at HO9 ⊢
          clear HR hneg hXn HO HBl hl hLn hv9
          obtain ⟨gq, cq, hve, hgq, hbq⟩ := HO9.out.blk (by rw [HLen.out]; exact hLp)
          rw [HLen.out] at hve hbq
          subst hve
          have hgw9 : w.heap.size ≤ gq := Nat.le_trans hwB hgq
          have HQ0 := Lib.hid hbq
          have hO8 : ∀ t, (l.getD t 0).toNat < 256 := fun t => UInt8.toNat_lt _
          obtain ⟨O, hO⟩ : ∃ O : Nat → Nat, (fun t => (l.getD t 0).toNat) = O := ⟨_, rfl⟩
          have HOk : Hid (∀ t, (l.getD t 0).toNat = O t) := Lib.hid (fun t => by rw [← hO])
          rw [hO] at HQ0
          have hL1 : IntKind.i64.wrap ((Ln : Int) - 1) = (Ln : Int) - 1 := IntWalk.i64_in _ (by omega)
          clear hbq hO hO8 HO9
          go_wp2_with fail
          go_loopw [8, 9] (fun iv kv wr2 => ∃ i : Nat, i ≤ Ln ∧ 2 * i ≤ Ln + 1 ∧ iv = .int .i64 (i : Nat) ∧ kv = .int .i64 ((Ln : Int) - 1 - (i : Int)) ∧ Hid (BytB wr2 gq (fun t => if t < i ∨ Ln ≤ t + i then O (Ln - 1 - t) else O t) Ln) ∧ Hid (Below w.heap.size w wr2)) (fun iv _ _ => Ln - (intOf iv).toNat)
          case atStart => exact ⟨0, by omega, by omega, by go_num, by first | rfl | (congr 1; omega) | simp, Lib.hid (HQ0.out.congr fun t ht => by rw [if_neg (by omega)]), HBl9⟩
          case round =>
            clear HQ0 HBl9
            obtain ⟨i, hi, hi2, rfl, rfl, HQi, HBi⟩ := hrel
            by_cases hil : 2 * i + 1 < Ln
            · obtain ⟨kN, hkN⟩ : ∃ k, Ln - 1 - i = k := ⟨_, rfl⟩
              rw [show (Ln : Int) - 1 - (i : Int) = (kN : Int) from by omega]
              have z0 : (0 : Int) ≤ (i : Int) := by omega
              have z1 : (0 : Int) ≤ (kN : Int) := by omega
              have z2 : (i : Int) < (kN : Int) := by omega
              have z3 : (i : Int) < (Ln : Int) := by omega
              have z4 : (kN : Int) < (Ln : Int) := by omega
              have hik : i ≠ kN := by omega
              obtain ⟨c1, f1⟩ := HQi.out.2 i (by omega)
              obtain ⟨c2, f2⟩ := HQi.out.2 kN (by omega)
              dsimp only at c1 c2
              rw [if_neg (by omega)] at c1 c2
              have hS1 := HQi.out.set (j := i) (O kN)
              have hS2 := hS1.set (j := kN) (O i)
              obtain ⟨c3, f3⟩ := hS1.2 kN (by omega)
              have c3' : (wr.setCell ⟨gq, i, none⟩ (.int .u8 ((O kN : Nat) : Int))).cell? ⟨gq, kN, none⟩ = some (.int .u8 ((O kN : Nat) : Int)) := by
                rw [World.cell?_setCell_other _ _ _ _ (by intro h; cases h; exact hik rfl)]; exact c2
              have HS2 := Lib.hid hS2
              have HL2 := Lib.hid ((HBi.out.setCell (p := ⟨gq, i, none⟩) hgw9 (.int .u8 ((O kN : Nat) : Int))).setCell (p := ⟨gq, kN, none⟩) hgw9 (.int .u8 ((O i : Nat) : Int)))
              have Hk := Lib.hid hkN
              clear hS1 hS2 c3 HQi HBi hkN
              go_upto_region 23 with (fail)
              refine wp_region_held_drew (S := fun _ => True) (by kernel_rfl) trivial (fun _ => ?_)
              refine wpAnyH_take (i := 0) (v := ?_) rfl (by kernel_rfl) (by kernel_rfl) (by kernel_rfl) (fun _ _ _ h => h) (Or.inl ⟨by rfl, ?_⟩) trivial ?_
              rotate_left 1
              next => intro w hSw; go_simp; try with_reducible rfl
              try simp only [Act.put, List.getElem_toArray, List.getElem_cons_zero, List.getElem_cons_succ, List.setIfInBounds_toArray, List.set_cons_zero, List.set_cons_succ]
              refine wpAnyH_take (i := 1) (v := ?_) rfl (by kernel_rfl) (by kernel_rfl) (by kernel_rfl) (fun _ _ _ h => h) (Or.inl ⟨by rfl, ?_⟩) trivial ?_
              rotate_left 1
              next => intro w hSw; go_simp; try with_reducible rfl
              try simp only [Act.put, List.getElem_toArray, List.getElem_cons_zero, List.getElem_cons_succ, List.setIfInBounds_toArray, List.set_cons_zero, List.set_cons_succ]
              refine wpAnyH_take (i := 2) (v := ?_) rfl (by kernel_rfl) (by kernel_rfl) (by kernel_rfl) (fun _ _ _ h => h) (Or.inl ⟨by rfl, ?_⟩) trivial ?_
              rotate_left 1
              next => intro w hSw; go_simp; try with_reducible rfl
              try simp only [Act.put, List.getElem_toArray, List.getElem_cons_zero, List.getElem_cons_succ, List.setIfInBounds_toArray, List.set_cons_zero, List.set_cons_succ]
              refine wpAnyH_take (i := 3) (v := ?_) rfl (by kernel_rfl) (by kernel_rfl) (by kernel_rfl) (fun _ _ _ h => h) (Or.inl ⟨by rfl, ?_⟩) trivial ?_
              rotate_left 1
              next => intro w hSw; go_simp; try with_reducible rfl
              try simp only [Act.put, List.getElem_toArray, List.getElem_cons_zero, List.getElem_cons_succ, List.setIfInBounds_toArray, List.set_cons_zero, List.set_cons_succ]
              refine wpAnyH_take (i := 4) (v := ?_) rfl (by kernel_rfl) (by kernel_rfl) (by kernel_rfl) (fun _ _ _ h => h) (Or.inl ⟨by rfl, ?_⟩) trivial ?_
              rotate_left 1
              next => intro w hSw; go_simp; try with_reducible rfl
              try simp only [Act.put, List.getElem_toArray, List.getElem_cons_zero, List.getElem_cons_succ, List.setIfInBounds_toArray, List.set_cons_zero, List.set_cons_succ]
              refine wpAnyH_take (i := 5) (v := ?_) rfl (by kernel_rfl) (by kernel_rfl) (by kernel_rfl) (fun _ _ _ h => h) (Or.inl ⟨by rfl, ?_⟩) trivial ?_
              rotate_left 1
              next => intro w hSw; go_simp; try with_reducible rfl
              try simp only [Act.put, List.getElem_toArray, List.getElem_cons_zero, List.getElem_cons_succ, List.setIfInBounds_toArray, List.set_cons_zero, List.set_cons_succ]
              refine wpAnyH_take (i := 6) (v := ?_) rfl (by kernel_rfl) (by kernel_rfl) (by kernel_rfl) (fun _ _ _ h => h) (Or.inl ⟨by rfl, ?_⟩) trivial ?_
              rotate_left 1
              next => intro w hSw; go_simp; try with_reducible rfl
              try simp only [Act.put, List.getElem_toArray, List.getElem_cons_zero, List.getElem_cons_succ, List.setIfInBounds_toArray, List.set_cons_zero, List.set_cons_succ]
              refine wpAnyH_take (i := 8) (v := ?_) rfl (by kernel_rfl) (by kernel_rfl) (by kernel_rfl) (fun _ _ _ h => h) (Or.inl ⟨by rfl, ?_⟩) trivial ?_
              rotate_left 1
              next => intro w hSw; go_simp; try with_reducible rfl
              try simp only [Act.put, List.getElem_toArray, List.getElem_cons_zero, List.getElem_cons_succ, List.setIfInBounds_toArray, List.set_cons_zero, List.set_cons_succ]
              refine wpAnyH_take (i := 9) (v := ?_) rfl (by kernel_rfl) (by kernel_rfl) (by kernel_rfl) (fun _ _ _ h => h) (Or.inl ⟨by rfl, ?_⟩) trivial ?_
              rotate_left 1
              next => intro w hSw; go_simp; try with_reducible rfl
              try simp only [Act.put, List.getElem_toArray, List.getElem_cons_zero, List.getElem_cons_succ, List.setIfInBounds_toArray, List.set_cons_zero, List.set_cons_succ]
              refine wpAnyH_take (i := 10) (v := ?_) rfl (by kernel_rfl) (by kernel_rfl) (by kernel_rfl) (fun _ _ _ h => h) (Or.inl ⟨by rfl, ?_⟩) trivial ?_
              rotate_left 1
              next => intro w hSw; go_simp; try with_reducible rfl
              try simp only [Act.put, List.getElem_toArray, List.getElem_cons_zero, List.getElem_cons_succ, List.setIfInBounds_toArray, List.set_cons_zero, List.set_cons_succ]
              try simp only [Act.put, List.getElem_toArray, List.getElem_cons_zero, List.getElem_cons_succ, List.setIfInBounds_toArray, List.set_cons_zero, List.set_cons_succ]
              refine wpAnyH_ready (rs := [7, 11]) (by kernel_rfl) (by simp) ?_
              refine AllReadyH.cons rfl (fun K hK => ?_) (AllReadyH.cons rfl (fun K hK => ?_) AllReadyH.nil)
              · go_simp
                refine hK.out _ _ trivial (fun _ => ?_)
                clear hK K
                try simp only [Act.put, List.getElem_toArray, List.getElem_cons_zero, List.getElem_cons_succ, List.setIfInBounds_toArray, List.set_cons_zero, List.set_cons_succ]
                refine wpAnyH_ready (rs := [11]) (by kernel_rfl) (by simp) ?_
                refine AllReadyH.cons rfl (fun K hK => ?_) AllReadyH.nil
                go_simp
                refine hK.out _ _ trivial (fun _ => ?_)
                clear hK K
                refine wpAnyH_take (i := 12) (v := ?_) rfl (by kernel_rfl) (by kernel_rfl) (by kernel_rfl) (fun _ _ _ h => h) (Or.inl ⟨by rfl, ?_⟩) trivial ?_
                rotate_left 1
                next => intro w hSw; go_simp; try with_reducible rfl
                try simp only [Act.put, List.getElem_toArray, List.getElem_cons_zero, List.getElem_cons_succ, List.setIfInBounds_toArray, List.set_cons_zero, List.set_cons_succ]
                try simp only [Act.put, List.getElem_toArray, List.getElem_cons_zero, List.getElem_cons_succ, List.setIfInBounds_toArray, List.set_cons_zero, List.set_cons_succ]
                refine wpAnyH_ready (rs := [13]) (by kernel_rfl) (by simp) ?_
                refine AllReadyH.cons rfl (fun K hK => ?_) AllReadyH.nil
                go_simp
                refine hK.out _ _ trivial (fun _ => ?_)
                clear hK K
                refine wpAnyH_take (i := 14) (v := ?_) rfl (by kernel_rfl) (by kernel_rfl) (by kernel_rfl) (fun _ _ _ h => h) (Or.inl ⟨by rfl, ?_⟩) trivial ?_
                rotate_left 1
                next => intro w hSw; go_simp; try with_reducible rfl
                try simp only [Act.put, List.getElem_toArray, List.getElem_cons_zero, List.getElem_cons_succ, List.setIfInBounds_toArray, List.set_cons_zero, List.set_cons_succ]
                try simp only [Act.put, List.getElem_toArray, List.getElem_cons_zero, List.getElem_cons_succ, List.setIfInBounds_toArray, List.set_cons_zero, List.set_cons_succ]
                refine wpAnyH_ready (rs := [15]) (by kernel_rfl) (by simp) ?_
                refine AllReadyH.cons rfl (fun K hK => ?_) AllReadyH.nil
                go_simp
                refine hK.out _ _ trivial (fun _ => ?_)
                clear hK K
                refine wpAnyH_done (by kernel_rfl) ?_ _
                go_wp2_with fail
                go_roundw
                case rel =>
                  refine ⟨i + 1, by omega, by omega, by go_num, by first | go_num | (congr 1; have := Hk.out; omega), Lib.hid (HS2.out.congr fun t ht => ?_), by first | exact HL2 | exact Lib.hid HL2.out.drew⟩
                  have := Hk.out
                  by_cases h1 : t = kN
                  · rw [if_pos h1, if_pos (by omega)]; congr 1; omega
                  · rw [if_neg h1]
                    by_cases h2 : t = i
                    · rw [if_pos h2, if_pos (by omega)]; congr 1; omega
                    · rw [if_neg h2]
                      by_cases h3 : t < i ∨ Ln ≤ t + i
                      · rw [if_pos h3, if_pos (by omega)]
                      · rw [if_neg h3, if_neg (by omega)]
                case measure => simp [intOf]; omega
              · go_simp
                refine hK.out _ _ trivial (fun _ => ?_)
                clear hK K
                try simp only [Act.put, List.getElem_toArray, List.getElem_cons_zero, List.getElem_cons_succ, List.setIfInBounds_toArray, List.set_cons_zero, List.set_cons_succ]
                refine wpAnyH_ready (rs := [7]) (by kernel_rfl) (by simp) ?_
                refine AllReadyH.cons rfl (fun K hK => ?_) AllReadyH.nil
                go_simp
                refine hK.out _ _ trivial (fun _ => ?_)
                clear hK K
                refine wpAnyH_take (i := 12) (v := ?_) rfl (by kernel_rfl) (by kernel_rfl) (by kernel_rfl) (fun _ _ _ h => h) (Or.inl ⟨by rfl, ?_⟩) trivial ?_
                rotate_left 1
                next => intro w hSw; go_simp; try with_reducible rfl
                try simp only [Act.put, List.getElem_toArray, List.getElem_cons_zero, List.getElem_cons_succ, List.setIfInBounds_toArray, List.set_cons_zero, List.set_cons_succ]
                try simp only [Act.put, List.getElem_toArray, List.getElem_cons_zero, List.getElem_cons_succ, List.setIfInBounds_toArray, List.set_cons_zero, List.set_cons_succ]
                refine wpAnyH_ready (rs := [13]) (by kernel_rfl) (by simp) ?_
                refine AllReadyH.cons rfl (fun K hK => ?_) AllReadyH.nil
                go_simp
                refine hK.out _ _ trivial (fun _ => ?_)
                clear hK K
                refine wpAnyH_take (i := 14) (v := ?_) rfl (by kernel_rfl) (by kernel_rfl) (by kernel_rfl) (fun _ _ _ h => h) (Or.inl ⟨by rfl, ?_⟩) trivial ?_
                rotate_left 1
                next => intro w hSw; go_simp; try with_reducible rfl
                try simp only [Act.put, List.getElem_toArray, List.getElem_cons_zero, List.getElem_cons_succ, List.setIfInBounds_toArray, List.set_cons_zero, List.set_cons_succ]
                try simp only [Act.put, List.getElem_toArray, List.getElem_cons_zero, List.getElem_cons_succ, List.setIfInBounds_toArray, List.set_cons_zero, List.set_cons_succ]
                refine wpAnyH_ready (rs := [15]) (by kernel_rfl) (by simp) ?_
                refine AllReadyH.cons rfl (fun K hK => ?_) AllReadyH.nil
                go_simp
                refine hK.out _ _ trivial (fun _ => ?_)
                clear hK K
                refine wpAnyH_done (by kernel_rfl) ?_ _
                go_wp2_with fail
                go_roundw
                case rel =>
                  refine ⟨i + 1, by omega, by omega, by go_num, by first | go_num | (congr 1; have := Hk.out; omega), Lib.hid (HS2.out.congr fun t ht => ?_), by first | exact HL2 | exact Lib.hid HL2.out.drew⟩
                  have := Hk.out
                  by_cases h1 : t = kN
                  · rw [if_pos h1, if_pos (by omega)]; congr 1; omega
                  · rw [if_neg h1]
                    by_cases h2 : t = i
                    · rw [if_pos h2, if_pos (by omega)]; congr 1; omega
                    · rw [if_neg h2]
                      by_cases h3 : t < i ∨ Ln ≤ t + i
                      · rw [if_pos h3, if_pos (by omega)]
                      · rw [if_neg h3, if_neg (by omega)]
                case measure => simp [intOf]; omega
            · have z2 : ¬ (i : Int) < (Ln : Int) - 1 - (i : Int) := by omega
              have hcv := bytesB_string (cap := cq) HQi.out l.reverse (by rw [List.length_reverse, HLen.out]) (fun j hj => by
                rw [List.length_reverse, HLen.out] at hj
                rw [List.getElem_reverse]
                have h1 := HOk.out (Ln - 1 - j)
                rw [List.getD_eq_getElem?_getD, List.getElem?_eq_getElem (by rw [HLen.out]; omega)] at h1
                have h2 : (if j < i ∨ Ln ≤ j + i then O (Ln - 1 - j) else O j) = O (Ln - 1 - j) := by
                  split
                  · rfl
                  · rw [show j = Ln - 1 - j from by omega]
                    congr 1
                    omega
                rw [h2, ← h1]
                simp [HLen.out])
              rw [HRes.out] at hcv
              go_wp2_with fail
              go_ret
              exact ⟨rfl, HBi.out⟩

end Go.Proofs.YteoemijgdcpopaaDoor
