/- The walk of integer.number: digits become an integer. -/
import Derived.Test.YtlkajmdcffemeaaInt3
import Derived.Laws.IdiomStrings
import Derived.Deep.CutRange
namespace Go.Proofs.Ytlkajmdcffemeaa
open Go.RowKit

theorem byteInfo : (Try.prog.info? 5).map (fun i => (i.zero, i.size, i.bytes)) = some (some (.int .u8 0), 1, 1) := by kernel_rfl
/-- Bytes that the call has made. -/
def OwnBytes (w : World) (B : Nat) (v : Value) (l : List UInt8) : Prop := w.ownsRow B 5 1 v l.length (l.map fun c => Value.int .u8 (c.toNat : Int))
theorem OwnBytes.below {w w' : World} {B C : Nat} {v : Value} {xs : List UInt8} (h : OwnBytes w B v xs) (hB : w.heap.size ≤ C) (hb : Below C w w') : OwnBytes w' B v xs := ownsRow_below h hB hb
theorem OwnBytes.alloc {w : World} {B : Nat} {v : Value} {xs : List UInt8} (h : OwnBytes w B v xs) (o : Obj) : OwnBytes (w.alloc o) B v xs := World.ownsRow.alloc h o
theorem OwnBytes.drewN {w : World} {B : Nat} {v : Value} {xs : List UInt8} (h : OwnBytes w B v xs) (n : Nat) : OwnBytes (w.drewN n) B v xs := h.below (Nat.le_refl _) (Drawn.below ⟨n, rfl⟩ _)
theorem wpList_append_byte {ops : Array Oper} {rest : List Oper} {o : Oper} {a : Act} {Q : Exit → Act → World → Prop} {w : World} (hgd : o.guard = none) (s x : Operand)
    (ho : o.op = .call { callee := .builtin .append, args := #[s, x], argTypes := #[40, 40] })
    (base : Nat) (v : Value) (xs : List UInt8) (hs : a.eval s = v) (hown : OwnBytes w base v xs) (g c : Nat) (y : UInt8) (hx : a.eval x = .slice (some ⟨g, 0, none⟩) 1 c)
    (hc : w.cell? ⟨g, 0, none⟩ = some (.int .u8 (y.toNat : Int))) (hn : xs.length < 1000000000000) (hbase : base ≤ w.heap.size)
    (h : ∀ v' w', OwnBytes w' base v' (xs ++ [y]) → w.grownBy w' v.ownBlock → wpList Try.prog ops Q rest (a.put o.dst v') w') : wpList Try.prog ops Q (o :: rest) a w := by
  obtain ⟨i0, hi, hz0, hz1, hz2⟩ := info_parts byteInfo
  refine wpList_append_own _ hgd s x _ ho base 5 i0 (.int .u8 0) 1 1 Try.underlying40 hi hz0 hz1 hz2 rfl (by decide) v xs.length _ hs hown ⟨g, 0, none⟩ 1 c [.int .u8 (y.toNat : Int)] hx rfl ?_ ?_ ?_ ?_ hbase ?_
  · intro j u hj
    match j, hj with
    | 0, hj => simp at hj; subst hj; simpa [Addr.add] using hc
  · intro u hu; simp at hu; subst hu; rfl
  · unfold maxLen; omega
  · omega
  · intro v' w' h2 h3 _
    exact h v' w' (by unfold OwnBytes; simpa using h2) h3
theorem run_make_bytes (kl kc : IntKind) (n : Nat) (h : n ≤ 10000000000) (w : World) :
    ∃ w', (Instr.makeSlice 40 (.int kl 0) (.int kc (n : Int))).run Try.prog w = .ok (.slice (some ⟨w.heap.size, 0, none⟩) 0 n) w' ∧ OwnBytes w' w.heap.size (.slice (some ⟨w.heap.size, 0, none⟩) 0 n) [] ∧ Below w.heap.size w w' := by
  obtain ⟨i0, hi, hz0, hz1, hz2⟩ := info_parts byteInfo
  obtain ⟨w', h1, h2, h3⟩ := run_make_own (P := Try.prog) w w.heap.size 40 5 i0 (.int .u8 0) 1 Try.underlying40 hi hz0 hz1 kl kc n (by rw [hz2]; omega) (by unfold maxLen; omega) (Nat.le_refl _)
  exact ⟨w', h1, h2, (Below.refl _ _).grown h3 (Nat.le_refl _) (fun k hk => by cases hk)⟩

theorem OwnBytes.form {w : World} {B : Nat} {v : Value} {xs : List UInt8} (h : OwnBytes w B v xs) : ∃ p cap, v = .slice p xs.length cap ∧ SlAt 1 w p xs.length (fun i _ => .int .u8 ((xs.getD i 0).toNat : Int)) := by
  obtain ⟨p, cap, h1, _, h3, _⟩ := slAt_of_owns h (fun i _ => .int .u8 ((xs.getD i 0).toNat : Int)) fun i hi j hj => by
    have : j = 0 := by omega
    subst this
    simp [List.getD_eq_getElem?_getD, hi]
  exact ⟨p, cap, h1, h3⟩
/-- The integer that a sign and a natural number make. -/
def mkZ (neg : Bool) (v : Nat) : ZI := if v = 0 then ⟨false, ⟨#[]⟩⟩ else ⟨neg, ⟨(beb v).toArray⟩⟩
theorem mkZ_pos (v : Nat) : mkZ false v = canon v := by
  unfold mkZ canon
  by_cases h : v = 0
  · subst h; rw [if_pos rfl]; rfl
  · rw [if_neg h]
    have : ¬ ((v : Int) < 0) := by omega
    simp [this]
theorem mkZ_neg (v : Nat) : mkZ true v = canon (-(v : Int)) := by
  unfold mkZ canon
  by_cases h : v = 0
  · subst h; rw [if_pos rfl]; rfl
  · rw [if_neg h]
    have h1 : decide (-(v : Int) < 0) = true := by rw [decide_eq_true_eq]; omega
    rw [h1]; simp
/-- What a function that returns an integer gives. -/
def RetZ (z : ZI) (w : World) (e : Ending) (w' : World) : Prop := e = .returned (.agg #[.bool z.neg, .string z.mag]) ∧ Below w.heap.size w w'

theorem box_frozen {w wr : World} {vs : Array Value} {t : TypeId} {B : Nat} (hb : Below B (w.alloc (.cells vs t (0, 0))) wr) (hB : w.heap.size < B) (j : Nat) : wr.frozen? ⟨w.heap.size, j, none⟩ = false := by
  rw [hb.frozen (p := ⟨w.heap.size, j, none⟩) hB]
  have : (w.alloc (.cells vs t (0, 0))).heap[w.heap.size]? = some (.cells vs t (0, 0)) := by
    show (w.heap.push _)[w.heap.size]? = _
    simp
  unfold World.frozen?
  simp only [this]
  simp
/-- The value that stands when digit j is over down to byte t. -/
def topB (ds : List Nat) (j t : Nat) : Nat := val (ds.drop (j + 1)) * 256 ^ (4 - t) + ds.getD j 0 / 256 ^ t
theorem topB_four {ds : List Nat} (h : Dg ds) (j : Nat) : topB ds j 4 = val (ds.drop (j + 1)) := by
  have := h.getD j
  unfold topB
  rw [Nat.div_eq_of_lt (by simpa using this)]; simp
theorem topB_zero {ds : List Nat} {j : Nat} (hj : j < ds.length) : topB ds j 0 = val (ds.drop j) := by
  unfold topB
  rw [val_drop hj]; simp; omega
theorem topB_step (ds : List Nat) (j : Nat) {t : Nat} (ht : t < 4) : topB ds j t = topB ds j (t + 1) * 256 + ds.getD j 0 / 256 ^ t % 256 := by
  unfold topB
  rw [show 4 - t = (4 - (t + 1)) + 1 from by omega, Nat.pow_succ, Nat.pow_succ, ← Nat.div_div_eq_div_mul, Nat.add_mul, Nat.mul_assoc]
  have := Nat.div_add_mod (ds.getD j 0 / 256 ^ t) 256
  omega

theorem topB_step0 (ds : List Nat) (j : Nat) : topB ds j 1 ≤ topB ds j 0 := by have := topB_step ds j (t := 0) (by decide); simp only [Nat.zero_add] at this; omega
theorem topB_step1 (ds : List Nat) (j : Nat) : topB ds j 2 ≤ topB ds j 1 := by have := topB_step ds j (t := 1) (by decide); simp only [Nat.reduceAdd] at this; omega
theorem topB_step2 (ds : List Nat) (j : Nat) : topB ds j 3 ≤ topB ds j 2 := by have := topB_step ds j (t := 2) (by decide); simp only [Nat.reduceAdd] at this; omega
theorem topB_step3 (ds : List Nat) (j : Nat) : topB ds j 4 ≤ topB ds j 3 := by have := topB_step ds j (t := 3) (by decide); simp only [Nat.reduceAdd] at this; omega
theorem topB_lt {ds : List Nat} (h : Dg ds) {j : Nat} (hj : j < ds.length) {t : Nat} (ht : t ≤ 4) : topB ds j t < 256 ^ (4 * ds.length) := by
  have h1 : topB ds j t ≤ topB ds j 0 := by
    match t, ht with
    | 0, _ => exact Nat.le_refl _
    | 1, _ => have := topB_step0 ds j; omega
    | 2, _ => have := topB_step0 ds j; have := topB_step1 ds j; omega
    | 3, _ => have := topB_step0 ds j; have := topB_step1 ds j; have := topB_step2 ds j; omega
    | 4, _ => have := topB_step0 ds j; have := topB_step1 ds j; have := topB_step2 ds j; have := topB_step3 ds j; omega
  rw [topB_zero hj] at h1
  refine Nat.lt_of_le_of_lt h1 (Nat.lt_of_lt_of_le (val_lt (h.drop j)) ?_)
  rw [Nat.pow_mul, List.length_drop]
  exact Nat.pow_le_pow_right (by decide) (by omega)

set_option maxRecDepth 100000 in
set_option maxHeartbeats 4000000 in
theorem number_any (neg : Bool) (xs : List Nat) (p : Option Addr) (c : Nat) (w : World) (hX : NatsAt w p xs) (hdg : Dg xs) (hc : xs.length ≤ c) (hcm : c ≤ 1000000000) {v : Nat} (hv : val xs = v) :
    Calls Try.prog 70 #[.bool neg, .slice p xs.length c] w (RetZ (mkZ neg v) w) := by
  obtain ⟨i0, hi0, hz0, hz1, hz2⟩ := info_parts byteInfo
  have ht := trim_digs xs hdg
  rw [hv] at ht
  have hlen : tl xs xs.length = (digs v).length := by
    rw [← ht, List.length_take]; have := tl_le xs xs.length; omega
  have hX2 : NatsAt w p (digs v) := by rw [← ht]; exact hX.take _
  have HX := Lib.hid hX
  have HX2 := Lib.hid hX2
  have Hlen := Lib.hid hlen
  have hdl : (digs v).length ≤ c := by rw [← hlen]; exact Nat.le_trans (tl_le _ _) hc
  have hdd := Lib.hid (dg_digs v)
  have hvd := Lib.hid (val_digs v)
  clear hX hX2 hlen ht hv
  by_cases h0 : v = 0
  · subst h0
    go_enter Try.func70, Try.ntmps70
    go_wp2_with (go_at_call 89; refine (trim_any xs p c _ (HX.out.below (Nat.le_refl _) ((Below.refl _ _).alloc (Nat.le_refl _) _)) hc (by omega)).mono ?_; rintro e w' ⟨rfl, rfl⟩; rw [Hlen.out, digs_zero])
    exact bodyPost_ret (v := .agg #[.bool false, .string ⟨#[]⟩]) (by simp [results, Try.results70, go_sem]) rfl ⟨rfl, (Below.refl _ _).alloc (Nat.le_refl _) _⟩
  · have hne : ((((digs v).length : Nat) : Int) == 0) = false := by
      rw [beq_eq_false_iff_ne]
      intro h; exact h0 (digs_len_pos.1 (by omega))
    have hz : mkZ neg v = ⟨neg, ⟨(beb v).toArray⟩⟩ := by unfold mkZ; rw [if_neg h0]
    have Hz := Lib.hid hz
    have hpos : 0 < (digs v).length := Nat.pos_of_ne_zero (fun h => h0 (digs_len_pos.1 h))
    clear hz h0
    generalize hds : digs v = ds at *
    have Hds := Lib.hid hds
    clear hds
    go_enter Try.func70, Try.ntmps70
    go_wp2_with (first
      | (go_at_call 89; refine (trim_any xs p c _ (HX.out.below (Nat.le_refl _) ((Below.refl _ _).alloc (Nat.le_refl _) _)) hc (by omega)).mono ?_; rintro e w' ⟨rfl, rfl⟩; rw [Hlen.out])
      | (at_make; refine wpList_make_own _ rfl _ _ 40 rfl (w.heap.size + 1) 5 i0 (.int .u8 0) 1 Try.underlying40 hi0 hz0 hz1 .i64 .i64 (4 * (ds.length : Int)) (4 * ds.length) rfl rfl ?_ ?_ ?_ ?_ ?_))
    · omega
    · rw [hz2]; omega
    · unfold maxLen; omega
    · simp
    intro w1 hown hgrow
    have hb1 : Below (w.heap.size + 1) (w.alloc (.cells #[.bool false, .string ⟨#[]⟩] 34)) w1 := (Below.refl _ _).grown hgrow (by simp) (fun k hk => by cases hk)
    have Hb1 := Lib.hid hb1
    have Hown := Lib.hid hown
    clear hb1 hown hgrow hne
    go_wp2
    go_loopw [5, 6] (fun bv iv wr => ∃ j : Nat, j ≤ ds.length ∧ iv = .int .i64 ((j : Int) - 1) ∧ Below (w.heap.size + 1) (w.alloc (.cells #[.bool false, .string ⟨#[]⟩] 34)) wr ∧ Hid (OwnBytes wr (w.heap.size + 1) bv (beb (val (ds.drop j))))) (fun _ iv _ => (intOf iv + 1).toNat)
    case atStart => exact ⟨ds.length, Nat.le_refl _, rfl, Hb1.out, Lib.hid (by rw [List.drop_of_length_le (Nat.le_refl _)]; exact Hown.out)⟩
    case round =>
      obtain ⟨j, hj, rfl, hb, hO⟩ := hrel
      obtain ⟨⟨c0, c1⟩, hsz, hbw⟩ := box2 hb
      have Hb := Lib.hid hb
      have Hbw := Lib.hid hbw
      clear hb hbw
      by_cases hj0 : 0 < j
      · obtain ⟨i, rfl⟩ : ∃ i, j = i + 1 := ⟨j - 1, by omega⟩
        rw [show ((i + 1 : Nat) : Int) - 1 = (i : Int) from by omega]
        go_wp2
        go_loopw [5, 7] (fun bv kv wr2 => ∃ t : Nat, t ≤ 4 ∧ kv = .int .i64 ((t : Int) - 1) ∧ Below (w.heap.size + 1) (w.alloc (.cells #[.bool false, .string ⟨#[]⟩] 34)) wr2 ∧ Hid (OwnBytes wr2 (w.heap.size + 1) bv (beb (topB ds i t)))) (fun _ kv _ => (intOf kv + 1).toNat)
        case atStart => exact ⟨4, Nat.le_refl _, rfl, Hb.out, Lib.hid (by rw [topB_four hdd.out]; exact hO.out)⟩
        case round =>
          clear c0 c1
          obtain ⟨t, ht, rfl, hb2, hO2⟩ := hrel
          obtain ⟨⟨c0, c1⟩, hsz2, hbw2⟩ := box2 hb2
          have Hb2 := Lib.hid hb2
          have Hbw2 := Lib.hid hbw2
          clear hb2 hbw2
          by_cases ht0 : 0 < t
          · obtain ⟨r, rfl⟩ : ∃ r, t = r + 1 := ⟨t - 1, by omega⟩
            rw [show ((r + 1 : Nat) : Int) - 1 = (r : Int) from by omega]
            obtain ⟨b, off, rfl, hbl, hcell⟩ := NatsAt.cells HX2.out (k := i) (by omega)
            have hx := hcell i (by omega)
            rw [← Hbw2.out.cell (p := ⟨b, _, none⟩) hbl] at hx
            obtain ⟨x, hxe⟩ : ∃ x, ds.getD i 0 = x := ⟨_, rfl⟩
            rw [hxe] at hx
            have hxl : x < 4294967296 := by rw [← hxe]; exact hdd.out.getD i
            have hstep := topB_step ds i (t := r) (by omega)
            rw [hxe] at hstep
            obtain ⟨pb, cb, rfl, _⟩ := OwnBytes.form hO2.out
            have i1 : (i : Int) < (ds.length : Int) := by omega
            have i4 : (r : Int) < 4 := by omega
            obtain ⟨y, hyd⟩ : ∃ y : UInt8, y = UInt8.ofNat (x / 256 ^ r % 256) := ⟨_, rfl⟩
            have hyn : y.toNat = x / 256 ^ r % 256 := by rw [hyd]; simp
            have hcx : (x : Int) / 2 ^ (8 * r) % 256 = (y.toNat : Int) := by
              have h1 : (256 : Nat) ^ r = 2 ^ (8 * r) := by rw [Nat.pow_mul]
              rw [hyn, h1, Int.natCast_emod, Int.natCast_ediv]; simp
            have hsn : (topB ds i (r + 1) ≠ 0 ∨ y.toNat ≠ 0) → beb (topB ds i r) = beb (topB ds i (r + 1)) ++ [y] := fun h => by
              rw [hstep, beb_snoc (Nat.mod_lt _ (by decide)) (by rw [← hyn]; exact h), hyd]
            have hz0 : topB ds i (r + 1) = 0 → y.toNat = 0 → beb (topB ds i r) = beb (topB ds i (r + 1)) := fun h1 h2 => by
              rw [hstep, h1, ← hyn, h2]
            have hlz := @beb_len_zero (topB ds i (r + 1))
            have hll : (beb (topB ds i (r + 1))).length < 1000000000000 := by
              have := beb_len _ (topB_lt hdd.out (j := i) (by omega) (t := r + 1) (by omega))
              omega
            have Hxe := Lib.hid hxe
            clear hcell hxe hstep hyd
            generalize hl : beb (topB ds i (r + 1)) = l at *
            clear hl
            by_cases hy : y.toNat = 0
            case neg =>
              have hy1 : ((y.toNat : Int) != 0) = true := by rw [bne_iff_ne]; omega
              have Hsn := Lib.hid (hsn (.inr hy))
              clear hsn hz0 hlz hyn
              go_wp2_with (at_builtin; refine wpList_append_byte rfl _ _ rfl (w.heap.size + 1) _ _ rfl (hO2.out.alloc _) wr.heap.size 1 y rfl ?_ ?_ ?_ ?_)
              · exact cell_new0 _ _ _
              · exact hll
              · simp; omega
              · intro v' w3 hown3 hgrow3
                have Hb4 := Lib.hid (below_append (Hb2.out.alloc (by omega) _) (hO2.out.alloc _) hgrow3 (by simp; omega) (Nat.le_refl _))
                have Hown3 := Lib.hid hown3
                clear hown3 hgrow3
                go_wp2
                go_roundw
                case rel => exact ⟨r, by omega, by go_num, Hb4.out, Lib.hid (by rw [Hsn.out]; exact Hown3.out)⟩
                case measure => simp [intOf]
            have hy1 : ((y.toNat : Int) != 0) = false := by rw [bne_eq_false_iff_eq]; omega
            by_cases hQ : topB ds i (r + 1) = 0
            case neg =>
              have hl0 : 0 < l.length := Nat.pos_of_ne_zero fun h => hQ (hlz.1 h)
              have Hsn := Lib.hid (hsn (.inl hQ))
              have HQ := Lib.hid hQ
              clear hsn hz0 hlz hyn hQ
              go_wp2_with (at_builtin; refine wpList_append_byte rfl _ _ rfl (w.heap.size + 1) _ _ rfl (hO2.out.alloc _) wr.heap.size 1 y rfl ?_ ?_ ?_ ?_)
              · rw [← show (y.toNat : Int) = 0 from by omega]; exact cell_new0 _ _ _
              · exact hll
              · simp; omega
              · intro v' w3 hown3 hgrow3
                have Hb4 := Lib.hid (below_append (Hb2.out.alloc (by omega) _) (hO2.out.alloc _) hgrow3 (by simp; omega) (Nat.le_refl _))
                have Hown3 := Lib.hid hown3
                clear hown3 hgrow3
                go_wp2
                go_roundw
                case rel => exact ⟨r, by omega, by go_num, Hb4.out, Lib.hid (by rw [Hsn.out]; exact Hown3.out)⟩
                case measure => simp [intOf]
            have hl0 : l.length = 0 := hlz.2 hQ
            have hl1 : decide (0 < l.length) = false := by rw [hl0]; rfl
            have hl2 : ¬ (0 : Int) < (l.length : Int) := by omega
            have Hsn := Lib.hid (hz0 hQ hy)
            have HQ := Lib.hid hQ
            have Hl0 := Lib.hid hl0
            clear hsn hz0 hlz hyn hQ hl0
            go_wp2
            go_roundw
            case rel => exact ⟨r, by omega, by go_num, Hb2.out, Lib.hid (by rw [Hsn.out]; exact hO2.out)⟩
            case measure => simp [intOf]
          · obtain rfl : t = 0 := by omega
            have Ht := Lib.hid (topB_zero (ds := ds) (j := i) (by omega))
            go_wp2
            go_roundw
            case rel => exact ⟨i, by omega, by go_num, Hb2.out, Lib.hid (by rw [← Ht.out]; exact hO2.out)⟩
            case measure => simp [intOf]
      · obtain rfl : j = 0 := by omega
        have hv0 : beb (val (ds.drop 0)) = beb v := by rw [List.drop_zero, hvd.out]
        have hO2 := hO.out
        rw [hv0] at hO2
        obtain ⟨pb, cb, rfl, hS⟩ := OwnBytes.form hO2
        have hbp : (beb v).length ≠ 0 := fun h => by
          have h1 := beb_len_zero.1 h
          rw [h1, digs_zero] at Hds
          have := Hds.out
          rw [← this] at hpos
          exact absurd hpos (Nat.lt_irrefl 0)
        rcases hS with hS | ⟨b, off, rfl, hlt, hcl⟩
        · exact absurd hS hbp
        have hrun := run_convert_bytes_back (P := Try.prog) wr 40 9 5 ⟨b, off, none⟩ cb (beb v) rfl rfl rfl (fun j hj => by
          have := hcl j hj 0 (by decide)
          simp only [Nat.mul_one, Nat.add_zero] at this
          rw [show (Addr.add ⟨b, off, none⟩ j : Addr) = ⟨b, off + j, none⟩ from by simp [Addr.add], this]
          simp [List.getD_eq_getElem?_getD, List.getElem?_eq_getElem hj])
        have f0 := box_frozen Hb.out (Nat.lt_succ_self _) 0
        have f1 := box_frozen Hb.out (Nat.lt_succ_self _) 1
        clear hcl hv0 hO2
        generalize hl : beb v = l at *
        have Hl := Lib.hid hl
        clear hl hO
        go_wp2
        refine bodyPost_ret (v := .agg #[.bool neg, .string ⟨l.toArray⟩]) ?_ rfl ⟨by rw [Hz.out], ?_⟩
        · simp [results, Try.results70, go_sem, c0, c1]
        · exact (Hbw.out.setCell (by simp) _).setCell (by simp) _
end Go.Proofs.Ytlkajmdcffemeaa
