/- Vectors of int: rows that read; slices.IndexFunc, ContainsFunc, Equal, Clone at []int. -/
import Derived.Test.YtlaoijfphkhchaaB16
import Derived.Deep.QuietTactic
namespace Go.Proofs.Ytlaoijfphkhchaa
open Go.RowKit Go.Shelf
/-- n integers in memory. -/
def VRow (w : World) (p : Option Addr) (n : Nat) (f : Nat → Int) : Prop := SlAt 1 w p n (fun k _ => .int .i64 (f k))
theorem VRow.below {w w' : World} {p : Option Addr} {n : Nat} {f : Nat → Int} (h : VRow w p n f) {B : Nat} (hB : w.heap.size ≤ B) (hb : Below B w w') : VRow w' p n f := h.mono hB hb
theorem VRow.congr {w : World} {p : Option Addr} {n : Nat} {f g : Nat → Int} (h : VRow w p n f) (e : ∀ k, k < n → f k = g k) : VRow w p n g := SlAt.congr h fun i hi j _ => by rw [e i hi]
theorem VRow.cells {w : World} {p : Option Addr} {n : Nat} {f : Nat → Int} (h : VRow w p n f) {k : Nat} (hk : k < n) :
    ∃ b off, p = some ⟨b, off, none⟩ ∧ b < w.heap.size ∧ ∀ j, j < n → w.cell? ⟨b, off + j, none⟩ = some (.int .i64 (f j)) := by
  rcases h with h | ⟨b, off, rfl, hlt, hc⟩
  · omega
  · exact ⟨b, off, rfl, hlt, fun j hj => by simpa using hc j hj 0 (by omega)⟩
/-- A block of the call's own that begins with n integers. -/
def VAt (w : World) (g n : Nat) (f : Nat → Int) : Prop := HAt w g n (fun k => .int .i64 (f k))
theorem VAt.below {w w' : World} {g n B : Nat} {f : Nat → Int} (h : VAt w g n f) (hb : Below B w w') (hg : g < B) : VAt w' g n f := HAt.below h hb hg
theorem VAt.congr {w : World} {g n : Nat} {f h : Nat → Int} (hz : VAt w g n f) (e : ∀ k, k < n → f k = h k) : VAt w g n h := HAt.congr hz fun k hk => by rw [e k hk]
theorem VAt.row {w : World} {g n : Nat} {f : Nat → Int} (h : VAt w g n f) : VRow w (some ⟨g, 0, none⟩) n f := .inr ⟨g, 0, rfl, h.1, fun k hk j hj => by
  have : j = 0 := by omega
  subst this
  simpa using (h.2 k hk).1⟩
theorem VAt.set {w : World} {g n k : Nat} {f : Nat → Int} (h : VAt w g n f) (v : Int) : VAt (w.setCell ⟨g, k, none⟩ (.int .i64 v)) g n (fun i => if i = k then v else f i) :=
  (HAt.set h (.int .i64 v)).congr fun i _ => by
    dsimp only
    split <;> rfl
theorem VAt.other {w : World} {g n : Nat} {f : Nat → Int} (h : VAt w g n f) (a : Addr) (v : Value) (hne : a.block ≠ g) : VAt (w.setCell a v) g n f := HAt.other h a v hne
theorem made_ints (w : World) (n : Nat) (t : TypeId) : VAt (w.alloc (.cells (madeCells #[.int .i64 0] n) t)) w.heap.size n (fun _ => 0) := by
  have hblk : (w.alloc (.cells (madeCells #[.int .i64 0] n) t)).heap[w.heap.size]? = some (.cells (madeCells #[.int .i64 0] n) t (0, 0)) := heap_alloc_new w _
  refine ⟨by simp, fun k hk => ⟨?_, ?_⟩⟩
  · unfold World.cell?; simp only [hblk]
    simp [madeCells, hk, Nat.mod_one]
  · unfold World.frozen?; simp only [hblk]; simp
theorem make_is (n : Nat) (h : n ≤ 1000000) (w : World) :
    (Instr.makeSlice 38 (.int .i64 (n : Int)) (.int .i64 (n : Int))).run Try.prog w = .ok (.slice (some ⟨w.heap.size, 0, none⟩) n n) (w.alloc (.cells (madeCells #[.int .i64 0] n) 3)) := by
  obtain ⟨i, hi, hzz⟩ := Option.map_eq_some_iff.1 intInfo
  simp only [Prod.mk.injEq] at hzz
  obtain ⟨hz, hs, hb⟩ := hzz
  have hr := run_make (P := Try.prog) w 38 3 i _ Try.underlying38 hi hz .i64 .i64 n n (by omega) (Int.le_refl _) (by rw [hb]; omega) (by omega)
  simp only [Int.toNat_natCast, hs, Nat.mul_one] at hr
  exact hr
/-- A vector as a list. -/
def vecL (f : Nat → Int) (n : Nat) : List Int := (List.range n).map f
theorem vecL_len (f : Nat → Int) (n : Nat) : (vecL f n).length = n := by simp [vecL]
theorem vecL_get (f : Nat → Int) (n : Nat) {k : Nat} (hk : k < n) : (vecL f n).getD k 0 = f k := by
  simp [vecL, List.getD_eq_getElem?_getD, hk]
theorem VRow.ints {w : World} {p : Option Addr} {n : Nat} {f : Nat → Int} (h : VRow w p n f) : IntsAt w p (vecL f n) := by
  unfold IntsAt
  rw [vecL_len]
  exact SlAt.congr h fun i hi j _ => by rw [vecL_get f n hi]
theorem VRow.of_ints {w : World} {p : Option Addr} {xs : List Int} (h : IntsAt w p xs) : VRow w p xs.length (fun k => xs.getD k 0) := h
/-- What a function answers that returns a vector. -/
def RetVec (n : Nat) (f : Nat → Int) (w : World) (e : Ending) (w' : World) : Prop := ∃ p cap, e = .returned (.slice p n cap) ∧ VRow w' p n f ∧ Below w.heap.size w w'

set_option maxRecDepth 100000 in
set_option maxHeartbeats 4000000 in
theorem indexFn_i (n : Nat) (p : Option Addr) (c : Nat) (f : Nat → Int) (fid : Nat) (bound : Array Value) (P : Nat → Bool) (w : World) (eg : ∀ args w, (callFunc fid args).run Try.prog w = .ok (.enter fid args) w) (hn : n ≤ 1000000000000)
    (hp : VRow w p n f) (hof : ∀ k W, k < n → Below w.heap.size w W → Calls Try.prog fid (#[(.int .i64 (f k))] ++ bound) W (RetB (P k) W)) :
    Calls Try.prog 90 #[.slice p n c, .func (.func fid) #[] bound] w (RetIdx P n w) := by
  have Hof := Lib.hid hof
  have Heg := Lib.hid eg
  have Hp := Lib.hid hp
  clear hof eg hp
  go_enter Try.func90, Try.ntmps90
  go_wp2
  go_loopw [8] (fun v wr => ∃ i : Nat, i ≤ n ∧ v = .int .i64 i ∧ Hid (Below w.heap.size w wr) ∧ Hid (∀ k, k < i → P k = false)) (fun v _ => n - (intOf v).toNat)
  case atStart => exact ⟨0, by omega, by go_num, Lib.hid (Below.refl _ _), Lib.hid (fun k hk => by omega)⟩
  case round =>
    obtain ⟨i, hi, rfl, Hb, HN⟩ := hrel
    by_cases hlt : i < n
    · have i1 : (i : Int) < (n : Int) := by omega
      have i0 : (0 : Int) ≤ (i : Int) := by omega
      have heg := Heg.out
      rcases Hp.out with h | ⟨ab, ao, rfl, hab, hac⟩
      · omega
      have a3 : wr.cell? ⟨ab, ao + i, none⟩ = some (.int .i64 (f i)) := cell_lo Hb.out hab (by simpa using hac i hlt 0 (by omega))
      clear hac
      go_wp2_with fail
      refine (Hof.out i wr hlt Hb.out).mono ?_
      rintro e w2 ⟨rfl, hb2⟩
      dsimp only
      have Hb2 := Lib.hid (Hb.out.trans (hb2.mono Hb.out.size))
      clear hb2
      cases hP : P i
      · have HN2 : Hid (∀ k, k < i + 1 → P k = false) := Lib.hid (fun k hk => by
          by_cases e : k = i
          · subst e; exact hP
          · exact HN.out k (by omega))
        clear hP
        go_wp2
        go_roundw
        case rel => exact ⟨i + 1, by omega, by go_num, Hb2, HN2⟩
        case measure => simp [intOf]; omega
      · have HA : Hid (anyN P n = true) := Lib.hid (anyN_true.2 ⟨i, hlt, hP⟩)
        clear hP
        go_wp2
        go_ret
        exact ⟨_, rfl, .inl ⟨by omega, HA.out⟩, Hb2.out⟩
    · have i1 : ¬ (i : Int) < (n : Int) := by omega
      have HA : Hid (anyN P n = false) := Lib.hid (anyN_false.2 fun k hk => HN.out k (by omega))
      go_wp2
      go_ret
      exact ⟨_, rfl, .inr ⟨rfl, HA.out⟩, Hb.out⟩
set_option maxRecDepth 100000 in
set_option maxHeartbeats 4000000 in
theorem containsFn_i (n : Nat) (p : Option Addr) (c : Nat) (f : Nat → Int) (fid : Nat) (bound : Array Value) (P : Nat → Bool) (w : World) (eg : ∀ args w, (callFunc fid args).run Try.prog w = .ok (.enter fid args) w) (hn : n ≤ 1000000000000)
    (hp : VRow w p n f) (hof : ∀ k W, k < n → Below w.heap.size w W → Calls Try.prog fid (#[(.int .i64 (f k))] ++ bound) W (RetB (P k) W)) :
    Calls Try.prog 60 #[.slice p n c, .func (.func fid) #[] bound] w (RetB (anyN P n) w) := by
  have HI := Lib.hid (indexFn_i n p c f fid bound P w eg hn hp hof)
  clear hof eg hp
  go_enter Try.func60, Try.ntmps60
  go_wp2_with fail
  refine HI.out.mono ?_
  rintro e w2 ⟨v, rfl, hv, hb⟩
  dsimp only
  have Hb := Lib.hid hb
  clear hb
  rcases hv with ⟨h1, h2⟩ | ⟨h1, h2⟩
  · have H2 := Lib.hid h2
    clear h2
    have h3 : decide (v ≥ 0) = true := decide_eq_true h1
    go_wp2
    go_ret
    exact ⟨by rw [H2.out]; rfl, Hb.out⟩
  · have H2 := Lib.hid h2
    clear h2
    subst h1
    go_wp2
    go_ret
    exact ⟨by rw [H2.out]; rfl, Hb.out⟩


set_option maxRecDepth 100000 in
set_option maxHeartbeats 4000000 in
/-- slices.Equal of two vectors of the same length. -/
theorem sameV_any (n : Nat) (f g : Nat → Int) (pa pb : Option Addr) (ca cb : Nat) (w : World) (hA : VRow w pa n f) (hB : VRow w pb n g) (hla : n < 1000000000000) :
    Calls Try.prog 25 #[.slice pa n ca, .slice pb n cb] w (RetB (!anyN (fun k => f k != g k) n) w) := by
  have HA := Lib.hid hA
  have HB := Lib.hid hB
  clear hA hB
  go_enter Try.func25, Try.ntmps25
  go_wp2
  go_loopw [13] (fun i wr => ∃ k : Nat, k ≤ n ∧ i = .int .i64 k ∧ Hid (Drawn w wr) ∧ Hid (∀ j, j < k → f j = g j)) (fun i _ => n - (intOf i).toNat)
  case atStart => exact ⟨0, by omega, rfl, Lib.hid (Drawn.refl _), Lib.hid (fun j hj => by omega)⟩
  case round =>
    obtain ⟨k, hk, rfl, Hd, He⟩ := hrel
    by_cases hlt : k < n
    · obtain ⟨ab, ao, rfl, hab, hca⟩ := VRow.cells HA.out hlt
      obtain ⟨bb, bo, rfl, hbb, hcb⟩ := VRow.cells HB.out hlt
      have hxa := hca k hlt
      have hxb := hcb k hlt
      rw [← Hd.out.cell] at hxa hxb
      have i0 : (0 : Int) ≤ (k : Int) := by omega
      have i1 : (k : Int) < (n : Int) := by omega
      have HF := Lib.hid (fun (h : (f k != g k) = true) => show anyN (fun k => f k != g k) n = true from anyN_true.2 ⟨k, hlt, h⟩)
      have HE := Lib.hid (fun (h : (f k != g k) = false) (j : Nat) (hj : j < k + 1) => show f j = g j from by
        by_cases e : j = k
        · rw [e]; simpa using h
        · exact He.out j (by omega))
      obtain ⟨x, hx⟩ : ∃ x, f k = x := ⟨_, rfl⟩
      obtain ⟨y, hy⟩ : ∃ x, g k = x := ⟨_, rfl⟩
      rw [hx, hy] at HE HF
      rw [hx] at hxa
      rw [hy] at hxb
      clear hca hcb hx hy He
      cases hb : (x != y)
      · have HE2 := Lib.hid (HE.out hb)
        clear HE HF
        go_wp2_with fail
        go_quiet (fail)
        go_wp2
        go_roundw
        case rel => exact ⟨k + 1, by omega, by go_num, Lib.hid (Hd.out.drewN _), HE2⟩
        case measure => simp [intOf]; omega
      · have HF2 := Lib.hid (HF.out hb)
        clear HE HF
        go_wp2_with fail
        go_quiet (fail)
        go_wp2
        go_ret
        exact ⟨by rw [HF2.out]; rfl, (Hd.out.drewN _).below _⟩
    · have HF : Hid (anyN (fun k => f k != g k) n = false) := Lib.hid (anyN_false.2 fun j hj => by simpa using He.out j (by omega))
      go_wp2
      go_ret
      exact ⟨by rw [HF.out]; rfl, Hd.out.below _⟩
end Go.Proofs.Ytlaoijfphkhchaa
