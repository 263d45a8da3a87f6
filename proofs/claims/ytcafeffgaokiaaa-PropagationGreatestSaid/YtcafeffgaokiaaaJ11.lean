/- Sizes of what the replacements add up to; a letter by its number: plain facts. A range over an iterator as in Range0, where the assignment of the round's variables makes memory. propagation.replacements: the function that it returns, for a range; what a range over it keeps. -/
import Derived.Test.YtcafeffgaokiaaaJ9
import Derived.Test.YtcafeffgaokiaaaJ7
import Derived.Test.YtcafeffgaokiaaaJ8
import Derived.Test.YtcafeffgaokiaaaJ10
import Derived.RangeFuncBox
namespace Go.Proofs.Ytcafeffgaokiaaa
open Go.RowKit
theorem sumF_append (l r : List Rp) : sumF l ≤ sumF (l ++ r) := by
  unfold sumF
  rw [List.foldl_append]
  generalize l.foldl (fun s x => s + x.n) 0 = s
  induction r generalizing s with
  | nil => exact Nat.le_refl _
  | cons x r ih => exact Nat.le_trans (Nat.le_add_right _ _) (ih (s + x.n))
theorem rp_step {pre post ps : List Rp} {z : Rp} (h : pre ++ z :: post = ps) : sumF pre + z.n ≤ sumF ps ∧ pre.length + 1 ≤ ps.length := by
  have e : ps = (pre ++ [z]) ++ post := by rw [← h, List.append_assoc]; rfl
  rw [e]
  refine ⟨?_, by simp⟩
  rw [← sumF_snoc]
  exact sumF_append _ _
/-- The test on a letter, in both spellings. -/
theorem idxL_beq (q : Nat) (hq : q < 16) (c : UInt8) : (idxL 16 c == (q : Int)) = (letters.getD q 0 == c) := by
  have h : ∀ q : Nat, q < 16 → ∀ n : Nat, n < 256 → (idxL 16 (UInt8.ofNat n) == (q : Int)) = (letters.getD q 0 == UInt8.ofNat n) := by decide +kernel
  have hc : UInt8.ofNat c.toNat = c := by simp
  have := h q hq c.toNat c.toNat_lt
  rwa [hc] at this
theorem diffs_len (a b : List Int) : (diffs a b).length ≤ a.length := Nat.le_trans (diffsK_len _ _ _) (Nat.min_le_left _ _)
/-- The replacements that Greatest, Average and Worst look at. -/
def rps (l b i : Int) (m : EM) (dp df : Int) (es : List Ent) (n : Int) : List Rp := rpE (decOut l b i dp df es) l.toNat (wordsE m n.toNat)
theorem fit_ok {l b i : Int} {m : EM} {dl db di dp df : Int} {es : List Ent} {n : Int} (h : fitErr l b i m dl db di dp df es n = 0) :
    encCheck l b i m = 0 ∧ decCheck l b i dp df es = 0 ∧ dl = l ∧ db = b ∧ di = i ∧ (1 ≤ n ∧ n ≤ 16) ∧ cntV i n.toNat (m.r : Int) ≤ 4096 := by
  unfold fitErr at h
  by_cases h1 : encCheck l b i m ≠ 0 ∨ decCheck dl db di dp df es ≠ 0
  · rw [if_pos h1] at h; cases h
  rw [if_neg h1] at h
  by_cases h2 : l ≠ dl ∨ b ≠ db ∨ i ≠ di
  · rw [if_pos h2] at h; cases h
  rw [if_neg h2] at h
  by_cases h3 : n < 1 ∨ 16 < n
  · rw [if_pos h3] at h; cases h
  rw [if_neg h3] at h
  by_cases h4 : 4096 < cntV i n.toNat (m.r : Int)
  · rw [if_pos h4] at h; cases h
  simp only [ne_eq, not_or, Classical.not_not] at h1 h2
  obtain ⟨rfl, rfl, rfl⟩ := h2
  exact ⟨h1.1, h1.2, rfl, rfl, rfl, by omega, by omega⟩
theorem cntV_ok {I r n : Nat} (hI : I ≤ 256) (hr : r ≤ 64) (h : cntV (I : Int) n (r : Int) ≤ 4096) : r * I ^ n ≤ 4096 ∧ cntV (I : Int) n (r : Int) = ((r * I ^ n : Nat) : Int) := by
  obtain ⟨u, hu, hc⟩ := cntV_nat I hI n r (by omega)
  rw [hu] at h ⊢
  rcases hc with ⟨h1, h2⟩ | h1
  · rw [← h1]; exact ⟨h2, rfl⟩
  · omega
theorem wordCheck_mem {q : Int} {l : List UInt8} (h : wordCheck q l = 0) : ∀ c ∈ l, isLet q c := by
  intro c hc
  obtain ⟨i, hi, rfl⟩ := List.getElem_of_mem hc
  have := (wordCheck_zero.1 h).2.2 i hi
  rwa [List.getD_eq_getElem?_getD, List.getElem?_eq_getElem hi] at this
theorem wordCheck_of {q : Int} {l : List UInt8} (h1 : 1 ≤ q ∧ q ≤ 16) (h2 : l.length ≤ 65536) (h3 : ∀ c ∈ l, isLet q c) : wordCheck q l = 0 :=
  wordCheck_zero.2 ⟨h1, h2, fun i hi => by
    rw [List.getD_eq_getElem?_getD, List.getElem?_eq_getElem hi]
    exact h3 _ (List.getElem_mem hi)⟩
theorem wordsL_let {q : Int} {m : EM} {I B : Nat} (hm : m.Ok I B) (hd : ∀ s k, s < m.r → k < m.L s → wordCheck q (m.D s k).data.toList = 0) : ∀ n s w, s < m.r → (∀ c ∈ w.data.toList, isLet q c) → ∀ x ∈ wordsL m n s w, ∀ c ∈ x.data.toList, isLet q c
  | 0, s, w, _, hw, x, hx => by rw [wordsL, List.mem_singleton] at hx; rw [hx]; exact hw
  | n + 1, s, w, hs, hw, x, hx => by
    obtain ⟨k, hk, hx⟩ := List.mem_flatMap.1 hx
    have hk := List.mem_range.1 hk
    refine wordsL_let hm hd n _ _ (hm.to1 s k hs (by rw [← hm.len s hs]; exact hk)) (fun c hc => ?_) x hx
    rw [ByteArray.data_append, Array.toList_append] at hc
    rcases List.mem_append.1 hc with h | h
    · exact hw c h
    · exact wordCheck_mem (hd s k hs hk) c h
/-- What is written can be decoded. -/
theorem words_dec {l b i : Int} {m : EM} {dp df : Int} {es : List Ent} {n : Nat} (he : encCheck l b i m = 0) (hd : decCheck l b i dp df es = 0) (hn : n ≤ 16) : ∀ x ∈ wordsE m n, x.size = n * b.toNat ∧ decErr l b i dp df es x = 0 := by
  intro x hx
  obtain ⟨hl, hb, hi, hr, hm, hw⟩ := encCheck_ok he
  obtain ⟨s, hs, hx⟩ := List.mem_flatMap.1 hx
  have hs := List.mem_range.1 hs
  have hz := wordsL_size hm n s _ hs x hx
  have h0 : ByteArray.empty.size = 0 := rfl
  rw [h0, Nat.zero_add] at hz
  have hnb : n * b.toNat ≤ 16 * 16 := Nat.mul_le_mul hn (by omega)
  refine ⟨hz, decErr_zero.2 ⟨hd, wordCheck_of hl ?_ (wordsL_let hm hw n s _ hs (fun c hc => by cases hc) x hx), ?_⟩⟩
  · have : x.data.toList.length = x.size := by simp
    omega
  · obtain ⟨B, rfl⟩ : ∃ B : Nat, b = B := ⟨b.toNat, by omega⟩
    rw [hz, Int.toNat_natCast, Int.natCast_mul]
    exact Int.mul_emod_left _ _
/-- Where the statement looks, there are few replacements, with few changes. -/
theorem wrap_small : ∀ k : Nat, k ≤ 256 → wrap64 (k : Int) = (k : Int) := fun k hk => IntWalk.wrap64_in _ (by omega)
theorem few_words {C : Int} {K b n : Nat} (hc : C = (K : Int)) (hK : K ≤ 4096) (hbn : b * n ≤ 256) (h : ¬ (0 < (n : Int) ∧ (n : Int) ≤ 16 ∧ ((300 < C ∧ C ≤ 4096) ∨ 12 < wrap64 ((b : Int) * (n : Int))))) (h1 : 0 < (n : Int)) (h2 : (n : Int) ≤ 16) : K ≤ 300 ∧ b * n ≤ 12 := by
  rw [← Int.natCast_mul, wrap_small _ hbn, hc] at h
  constructor
  · exact Classical.byContradiction fun hx => h ⟨h1, h2, .inl ⟨by omega, by omega⟩⟩
  · exact Classical.byContradiction fun hx => h ⟨h1, h2, .inr (by omega)⟩
theorem rps_small {l b i : Int} {m : EM} {dl db di dp df : Int} {es : List Ent} {n : Int} (h : fitErr l b i m dl db di dp df es n = 0) (hM : manyB b i m.r n = false) :
    (∀ x ∈ rps l b i m dp df es n, x.n ≤ 13) ∧ (rps l b i m dp df es n).length ≤ 57600 ∧ sumF (rps l b i m dp df es n) ≤ 1000000 := by
  obtain ⟨he, hd, rfl, rfl, rfl, ⟨n1, n2⟩, hc⟩ := fit_ok h
  obtain ⟨⟨l1, l2⟩, ⟨b1, b2⟩, ⟨i1, i2⟩, ⟨r1, r2⟩, hm, hw⟩ := encCheck_ok he
  obtain ⟨N, rfl⟩ : ∃ N : Nat, n = N := ⟨n.toNat, by omega⟩
  obtain ⟨I, rfl⟩ : ∃ I : Nat, di = I := ⟨di.toNat, by omega⟩
  obtain ⟨B, rfl⟩ : ∃ B : Nat, db = B := ⟨db.toNat, by omega⟩
  rw [Int.toNat_natCast] at hc
  obtain ⟨c1, c2⟩ := cntV_ok (by omega) r2 hc
  unfold manyB at hM
  have hM := of_decide_eq_false hM
  rw [Int.toNat_natCast] at hM
  have hBN : B * N ≤ 16 * 16 := Nat.mul_le_mul (by omega) (by omega)
  have hr3 := few_words c2 c1 hBN hM (by omega) n2
  rw [Int.toNat_natCast, Int.toNat_natCast] at hm
  have hsz : ∀ x ∈ wordsE m N, x.size ≤ 12 ∧ decErr dl (B : Int) (I : Int) dp df es x = 0 := fun x hx => by
    have := words_dec he hd (by omega) x hx
    rw [Int.toNat_natCast, Nat.mul_comm] at this
    exact ⟨by omega, this.2⟩
  have hn13 : ∀ x ∈ rps dl (B : Int) (I : Int) m dp df es (N : Int), x.n ≤ 13 := fun x hx => by
    unfold rps at hx
    rw [Int.toNat_natCast] at hx
    obtain ⟨w, hw, a, _, c, _, _, rfl⟩ := rpE_mem.1 hx
    obtain ⟨h1, h2⟩ := hsz w hw
    have h3 : (decOut dl (B : Int) (I : Int) dp df es w).length ≤ 13 := by
      rw [decOut_len h2]
      exact Nat.le_trans winCount_le (by omega)
    exact Nat.le_trans (diffs_len _ _) h3
  have hlen : (rps dl (B : Int) (I : Int) m dp df es (N : Int)).length ≤ 57600 := by
    unfold rps
    rw [Int.toNat_natCast]
    have h1 := rpE_len (decOut dl (B : Int) (I : Int) dp df es) dl.toNat 12 (wordsE m N) (fun x hx => (hsz x hx).1)
    rw [wordsE_len hm N] at h1
    have h2 : m.r * I ^ N * (12 * dl.toNat) ≤ 300 * (12 * 16) := Nat.mul_le_mul hr3.1 (Nat.mul_le_mul_left _ (by omega))
    omega
  refine ⟨hn13, hlen, ?_⟩
  have h4 := sumF_bound hn13
  have h5 : 13 * (rps dl (B : Int) (I : Int) m dp df es (N : Int)).length ≤ 13 * 57600 := Nat.mul_le_mul_left _ hlen
  omega
end Go.Proofs.Ytcafeffgaokiaaa
namespace Go.Proofs.Ytcafeffgaokiaaa
open Go.RowKit
theorem rangeT3 {α : Type} {P : Program} {n : Nat} {g : Operand} {ps : Array Tmp} {assign body : Code} {Q : Exit → Act → World → Prop} {a : Act} {w : World}
    (h1 : 1 ≤ n) {gf : Nat} {lb : Array Value} (hg : a.eval g = .func (.func gf) #[] lb) (eg : ∀ args w, (callFunc gf args).run P w = .ok (.enter gf args) w)
    {encs : α → Array Value} {G : List α → α → World → Prop} {S : List α → Prop} {T : Nat → World → Prop} {Kp : World → World → Prop} {Pre : World → Prop} {Kx : World → World → Prop} (hseq : SeqX P (n - 1) gf lb encs G S T Kp Kx Pre) (hKx : ∀ W W', KeepsFrom (w.heap.size + 2) W W' → Kx W W')
    (hT : ∀ r W, T r W → r ≠ w.heap.size ∧ r ≠ w.heap.size + 1)
    (hKt : ∀ {A B C : World}, Kp A B → Kp B C → Kp A C) (hKb : ∀ (W : World) (o o' : Obj), W.heap[w.heap.size + 1]? = some o → o.isCells = false → Kp W (W.putObj (w.heap.size + 1) o'))
    (hPre : ∀ W, Below w.heap.size w W → w.heap.size + 2 ≤ W.heap.size → Pre W) (hps : ∀ x, (encs x).size = ps.size)
    (I : List α → World → Prop) (Ix : Code → List α → World → Prop) (hI : AbT (TurnT w.heap.size T) I) (hIx : ∀ c, AbT (TurnT w.heap.size T) (Ix c)) (h0 : I [] w) (M : List α × α × Act → World → Prop) (hM : AbT (TurnT w.heap.size T) M)
    (hassign : ∀ (l : Nat) (pre : List α) (x : α) (W : World) (K : Act → World → Prop), I pre W → G pre x W → (∀ a₁ W1, M (pre, x, a₁) W1 → KeepsFrom w.heap.size W W1 → Kp W W1 → K a₁ W1) →
      assign.wpIn (Fence.wide.inRound l) (n - 1 - 1) P (Exit.then K (fun _ _ _ => False)) { tmps := (ps.zip (encs x)).foldl (fun t (p, v) => t.setIfInBounds p v) a.tmps, defers := [] } W)
    (hbody : ∀ (l : Nat) (pre : List α) (x : α) (a₁ : Act) (W : World), M (pre, x, a₁) W → body.wpIn (Fence.wide.inRound l) (n - 1 - 1) P (postT w.heap.size Kp I Ix (pre ++ [x]) W) a₁ W)
    (hdone : ∀ (D : Nat) (xs : List α) (W : World), w.heap.size ≤ D → S xs → I xs W → W.heap[D]? = some (.deferred (some [])) → Q .normal { a with defers := { target := .collected D, args := #[] } :: a.defers } W)
    (hstop : ∀ (D : Nat) (c : Code) (pre : List α) (W : World), w.heap.size ≤ D → Ix c pre W → W.heap[D]? = some (.deferred (some [])) → c.wpIn Fence.wide n P Q { a with defers := { target := .collected D, args := #[] } :: a.defers } W) :
    (Code.rangeFunc g ps assign body).wpIn Fence.wide n P Q a w := by
  refine wpIn_rangeFunc ?_
  intro fn hfn
  rw [show Fence.wide.round = none from rfl]
  obtain ⟨rec, hrec⟩ : ∃ rec : LoopState → Option Code → Loop, rec = fun st pe => { state := st, pending := pe, fn, tmps := a.tmps, params := ps, assign, body, defers := w.heap.size } := ⟨_, rfl⟩
  obtain ⟨W1, hW1⟩ : ∃ W1, (w.alloc (.deferred (some []))).alloc (.loop (rec .ready none)) = W1 := ⟨_, rfl⟩
  have hL1 : W1.heap[w.heap.size + 1]? = some (.loop (rec .ready none)) := by
    rw [← hW1]; have := World.alloc_heap_new (w.alloc (.deferred (some []))) (.loop (rec .ready none)); rwa [World.size_alloc] at this
  have hK1 : W1.heap[w.heap.size]? = some (.deferred (some [])) := by
    rw [← hW1]; exact (Below.heap_alloc _ _ _ (by simp)).trans (World.alloc_heap_new w _)
  have hI1 : I [] W1 := by rw [← hW1]; exact hI.alloc _ (hI.alloc _ h0)
  have hb1 : Below w.heap.size w W1 := by
    rw [← hW1]; exact ((Below.refl _ w).alloc (Nat.le_refl _) _).alloc (by simp) _
  refine ⟨w.heap.size + 1, [{ target := .collected w.heap.size, args := #[] }], W1, { target := .fn (.func gf) lb, args := #[.func (.yield (w.heap.size + 1)) #[] #[]] }, W1, gf,
    #[.func (.yield (w.heap.size + 1)) #[] #[]] ++ lb, W1, ?_, ?_, fun _ _ => trivial, ?_, fun _ => h1, ?_⟩
  · rw [← hW1, hrec]; exact run_enterLoop_outer _ _ _ _ _
  · simp only [resolve, hg]
    simp [go_sem]
  · simp [invoke, go_sem, eg]
  · have hkp : ∀ {A B : World} {row : Option Nat} {k : Nat} {o : Obj}, A.grownBy B row → (∀ r, row = some r → T r A) → (k = w.heap.size ∨ k = w.heap.size + 1) → A.heap[k]? = some o → B.heap[k]? = some o := fun hg' hr hk ho =>
      (hg'.block _ (Array.getElem?_eq_some_iff.1 ho).1 (fun e => by have := hT _ _ (hr _ e.symm); omega)).trans ho
    refine (hseq (w.heap.size + 1)
      (fun k W => I k W ∧ W.heap[w.heap.size + 1]? = some (.loop (rec .ready none)) ∧ W.heap[w.heap.size]? = some (.deferred (some [])))
      (fun k W => ∃ c, Ix c k W ∧ W.heap[w.heap.size + 1]? = some (.loop (rec .done (some c))) ∧ W.heap[w.heap.size]? = some (.deferred (some [])))
      W1 (hPre _ hb1 (by rw [← hW1]; simp))
      (fun s A B row hs hg' hr => ⟨hI s A B row hs.1 hg' (fun r e => .inl (hr r e)), hkp hg' hr (.inr rfl) hs.2.1, hkp hg' hr (.inl rfl) hs.2.2⟩)
      (fun s A B row hs hg' hr => by
        obtain ⟨c, hc, hl, hk⟩ := hs
        exact ⟨c, hIx c s A B row hc hg' (fun r e => .inl (hr r e)), hkp hg' hr (.inr rfl) hl, hkp hg' hr (.inl rfl) hk⟩)
      ?_ ⟨hI1, hL1, hK1⟩).mono ?_
    · rintro k x W ⟨hi, hl, hk⟩ hgx
      have hlt : w.heap.size + 1 < W.heap.size := (Array.getElem?_eq_some_iff.1 hl).1
      have hy := run_yield (P := P) (args := encs x) hl (by rw [hrec]; exact hps x)
      rw [hrec] at hy
      refine ⟨fn, _, assign, body, hy, roundIn_of_wpIn hfn (hassign _ k x W _ hi hgx fun a₁ Wa hMa hka hkpa => ?_)⟩
      have hl := hka.same _ _ (by omega) hl rfl
      have hk := hka.same _ _ (Nat.le_refl _) hk rfl
      have hlt : w.heap.size + 1 < Wa.heap.size := (Array.getElem?_eq_some_iff.1 hl).1
      refine ⟨_, run_beginRound hl (by rw [hrec]), ?_⟩
      have hl2 : (Wa.putObj (w.heap.size + 1) (.loop { rec .ready none with state := .busy })).heap[w.heap.size + 1]? = some (.loop { rec .ready none with state := .busy }) := World.putObj_heap_same hlt
      have hk2 : (Wa.putObj (w.heap.size + 1) (.loop { rec .ready none with state := .busy })).heap[w.heap.size]? = some (.deferred (some [])) := (World.putObj_heap_other (by omega)).trans hk
      have hw2 : Kp W (Wa.putObj (w.heap.size + 1) (.loop { rec .ready none with state := .busy })) := hKt hkpa (hKb _ _ _ hl rfl)
      refine wpIn_mono (hbody _ k x a₁ _ (hM.putObj _ hMa (by omega) hl rfl)) ?_
      have fin : ∀ (jump : Option Code) (W3 : World), KeepsFrom w.heap.size (Wa.putObj (w.heap.size + 1) (.loop { rec .ready none with state := .busy })) W3 →
          (Instr.endRound (w.heap.size + 1) jump).run P W3 = .ok (.bool jump.isNone) (W3.putObj (w.heap.size + 1) (.loop (rec (if jump.isNone then .ready else .done) jump))) ∧
          W3.heap[w.heap.size + 1]? = some (.loop { rec .ready none with state := .busy }) ∧
          (W3.putObj (w.heap.size + 1) (.loop (rec (if jump.isNone then .ready else .done) jump))).heap[w.heap.size + 1]? = some (.loop (rec (if jump.isNone then .ready else .done) jump)) ∧
          (W3.putObj (w.heap.size + 1) (.loop (rec (if jump.isNone then .ready else .done) jump))).heap[w.heap.size]? = some (.deferred (some [])) := fun jump W3 hk3 => by
        have hl3 := hk3.same _ _ (by omega) hl2 rfl
        have := run_endRound (P := P) jump hl3
        rw [hrec] at this ⊢
        exact ⟨this, by rw [hrec] at hl3; exact hl3, World.putObj_heap_same (Array.getElem?_eq_some_iff.1 hl3).1, (World.putObj_heap_other (by omega)).trans (hk3.same _ _ (Nat.le_refl _) hk2 rfl)⟩
      rintro e a3 W3 hp
      cases e with
      | normal =>
        obtain ⟨hk3, hkp3, hi3⟩ := hp
        obtain ⟨hr, hl3, hl4, hk4⟩ := fin none W3 hk3
        exact ⟨_, _, hr, .inl ⟨rfl, ⟨hI.putObj _ hi3 (by omega) hl3 rfl, hl4, hk4⟩, hKt (hKt hw2 hkp3) (hKb _ _ _ hl3 rfl)⟩⟩
      | ret =>
        obtain ⟨hk3, hi3⟩ := hp
        obtain ⟨hr, hl3, hl4, hk4⟩ := fin (some .ret) W3 hk3
        exact ⟨_, _, hr, .inr ⟨rfl, ⟨.ret, (hIx _).putObj _ hi3 (by omega) hl3 rfl, hl4, hk4⟩, hKx _ _ ((((keepsUp hka (by omega)).trans (keepsPut _ _ (by omega))).trans (keepsUp hk3 (by omega))).trans (keepsPut _ _ (by omega)))⟩⟩
      | exit id =>
        obtain ⟨hk3, hi3⟩ := hp
        obtain ⟨hr, hl3, hl4, hk4⟩ := fin (some (.exit id)) W3 hk3
        exact ⟨_, _, hr, .inr ⟨rfl, ⟨.exit id, (hIx _).putObj _ hi3 (by omega) hl3 rfl, hl4, hk4⟩, hKx _ _ ((((keepsUp hka (by omega)).trans (keepsPut _ _ (by omega))).trans (keepsUp hk3 (by omega))).trans (keepsPut _ _ (by omega)))⟩⟩
      | goto t =>
        obtain ⟨hk3, hi3⟩ := hp
        obtain ⟨hr, hl3, hl4, hk4⟩ := fin (some (.goto t)) W3 hk3
        exact ⟨_, _, hr, .inr ⟨rfl, ⟨.goto t, (hIx _).putObj _ hi3 (by omega) hl3 rfl, hl4, hk4⟩, hKx _ _ ((((keepsUp hka (by omega)).trans (keepsPut _ _ (by omega))).trans (keepsUp hk3 (by omega))).trans (keepsPut _ _ (by omega)))⟩⟩
      | panic ch => exact hp.elim
      | outgrown => exact hp.elim
    · rintro e W2 ⟨⟨v, rfl⟩, (⟨xs, hS, hi, hl, hk⟩ | ⟨k, c, hi, hl, hk⟩)⟩
      · exact ⟨none, _, by have := run_endLoop (P := P) hl (by rw [hrec]; simp); rw [hrec] at this; exact this, hdone _ _ _ (Nat.le_refl _) hS (hI.putObj _ hi (by omega) hl rfl) ((World.putObj_heap_other (by omega)).trans hk)⟩
      · exact ⟨some c, _, by have := run_endLoop (P := P) hl (by rw [hrec]; simp); rw [hrec] at this; exact this, hstop _ c k _ (Nat.le_refl _) ((hIx c).putObj _ hi (by omega) hl rfl) ((World.putObj_heap_other (by omega)).trans hk)⟩
/-- .. in the plain walk. -/
theorem rangeW3 {α : Type} {P : Program} {g : Operand} {ps : Array Tmp} {assign body : Code} {Q : Exit → Act → World → Prop} {a : Act} {w : World}
    {gf : Nat} {lb : Array Value} (hg : a.eval g = .func (.func gf) #[] lb) (eg : ∀ args w, (callFunc gf args).run P w = .ok (.enter gf args) w)
    {encs : α → Array Value} {G : List α → α → World → Prop} {S : List α → Prop} {T : Nat → World → Prop} {Kp : World → World → Prop} {Pre : World → Prop} {Kx : World → World → Prop} (hseq : SeqX P 0 gf lb encs G S T Kp Kx Pre) (hKx : ∀ W W', KeepsFrom (w.heap.size + 2) W W' → Kx W W')
    (hT : ∀ r W, T r W → r ≠ w.heap.size ∧ r ≠ w.heap.size + 1)
    (hKt : ∀ {A B C : World}, Kp A B → Kp B C → Kp A C) (hKb : ∀ (W : World) (o o' : Obj), W.heap[w.heap.size + 1]? = some o → o.isCells = false → Kp W (W.putObj (w.heap.size + 1) o'))
    (hPre : ∀ W, Below w.heap.size w W → w.heap.size + 2 ≤ W.heap.size → Pre W) (hps : ∀ x, (encs x).size = ps.size)
    (I : List α → World → Prop) (Ix : Code → List α → World → Prop) (hI : AbT (TurnT w.heap.size T) I) (hIx : ∀ c, AbT (TurnT w.heap.size T) (Ix c)) (h0 : I [] w) (M : List α × α × Act → World → Prop) (hM : AbT (TurnT w.heap.size T) M)
    (hassign : ∀ (l : Nat) (pre : List α) (x : α) (W : World) (K : Act → World → Prop), I pre W → G pre x W → (∀ a₁ W1, M (pre, x, a₁) W1 → KeepsFrom w.heap.size W W1 → Kp W W1 → K a₁ W1) →
      assign.wpIn (Fence.wide.inRound l) 0 P (Exit.then K (fun _ _ _ => False)) { tmps := (ps.zip (encs x)).foldl (fun t (p, v) => t.setIfInBounds p v) a.tmps, defers := [] } W)
    (hbody : ∀ (l : Nat) (pre : List α) (x : α) (a₁ : Act) (W : World), M (pre, x, a₁) W → body.wpIn (Fence.wide.inRound l) 0 P (postT w.heap.size Kp I Ix (pre ++ [x]) W) a₁ W)
    (hdone : ∀ (D : Nat) (xs : List α) (W : World), w.heap.size ≤ D → S xs → I xs W → W.heap[D]? = some (.deferred (some [])) → Q .normal { a with defers := { target := .collected D, args := #[] } :: a.defers } W)
    (hstop : ∀ (D : Nat) (c : Code) (pre : List α) (W : World), w.heap.size ≤ D → Ix c pre W → W.heap[D]? = some (.deferred (some [])) → c.wp P Q { a with defers := { target := .collected D, args := #[] } :: a.defers } W) :
    (Code.rangeFunc g ps assign body).wp P Q a w :=
  wpIn_wide.1 (rangeT3 (n := 1) (by decide) hg eg hseq hKx hT hKt hKb hPre hps I Ix hI hIx h0 M hM hassign hbody hdone (fun D c pre W h1 h2 h3 => wpIn_wide.2 (hstop D c pre W h1 h2 h3)))
end Go.Proofs.Ytcafeffgaokiaaa
namespace Go.Proofs.Ytcafeffgaokiaaa
open Go.RowKit
theorem repls_any (L b i : Int) (p : Option Addr) (r c : Nat) (dl db di dp df : Int) (da : Option Addr) (dn dc : Nat) (n : Int) (W : World) :
    Calls Try.prog 45 #[.agg #[.int .i64 L, .int .i64 b, .int .i64 i, .slice p r c], .agg #[.int .i64 dl, .int .i64 db, .int .i64 di, .int .i64 dp, .int .i64 df, .slice da dn dc], .int .i64 n] W fun e w' =>
      e = .returned (.func (.func 69) #[] #[.pointer (some ⟨W.heap.size, 0, none⟩), .pointer (some ⟨W.heap.size + 1 + 1, 0, none⟩), .pointer (some ⟨W.heap.size + 1, 0, none⟩)]) ∧
      w' = ((W.alloc (.cells #[.int .i64 L, .int .i64 b, .int .i64 i, .slice p r c] 24)).alloc (.cells #[.int .i64 dl, .int .i64 db, .int .i64 di, .int .i64 dp, .int .i64 df, .slice da dn dc] 30)).alloc (.cells #[.int .i64 n] 3) := by
  go_enter Try.func45, Try.ntmps45
  go_wp2
  go_ret
  exact ⟨rfl, rfl⟩
/-- What a range over the replacements finds. -/
def RpPre (w0 : World) (B1 hi be bn bd : Nat) (L b i : Int) (m : EM) (p : Option Addr) (c n : Nat) (db di dp df : Int) (da : Option Addr) (dn dc : Nat) (W : World) : Prop :=
  B1 ≤ W.heap.size ∧ hi ≤ W.heap.size ∧ Low w0 W ∧ EBox W be L b i m p c ∧ W.cell? ⟨bn, 0, none⟩ = some (.int .i64 (n : Int)) ∧ DBox W bd L db di dp df da dn dc
theorem repl_seq (w0 : World) (B1 lo hi : Nat) (be bn bd : Nat) (hlo : w0.heap.size ≤ lo) (h3 : hi ≤ be) (h4 : hi ≤ bn) (h5 : hi ≤ bd) (L : Nat) (b i : Int) (m : EM) (p : Option Addr) (c : Nat) (I B n : Nat) (hAt : m.At w0 p) (hm : m.Ok I B) (hI : I ≤ 256) (hr : m.r ≤ 64) (hn : n ≤ 16) (hB : B ≤ 16)
    (db di dp df : Int) (es : List Ent) (da : Option Addr) (dc : Nat) (hEs : EntsAt w0 da es) (hwins : WinsFit es) (hL16 : L ≤ 16) (hok : ∀ x ∈ wordsE m n, decErr (L : Int) db di dp df es x = 0) :
    SeqX Try.prog 0 69 #[.pointer (some ⟨be, 0, none⟩), .pointer (some ⟨bn, 0, none⟩), .pointer (some ⟨bd, 0, none⟩)] encR (fun pre x _ => ∃ post, pre ++ x :: post = rpE (decOut (L : Int) db di dp df es) L (wordsE m n)) (fun xs => xs = rpE (decOut (L : Int) db di dp df es) L (wordsE m n)) (TB B1) (KpO B1 lo hi) (KeepsFrom B1) (RpPre w0 B1 hi be bn bd L b i m p c n db di dp df da es.length dc) :=
  fun l J Jx W hP hJ hJx hY h0 => repl_in w0 B1 lo hi l be bn bd hlo (.inr h3) (.inr h4) (.inr h5) L b i m p c I B n hAt hm hI hr hn hB db di dp df es da dc hEs hwins hL16 hok J Jx hJ hJx hY W hP.1 hP.2.1 hP.2.2.1 hP.2.2.2.1 hP.2.2.2.2.1 hP.2.2.2.2.2 h0
theorem tb_boxed {C B u : Nat} {t : TypeId} {v : Value} {W W' : World} {row : Option Nat} (h : Boxed W u t v) (hg : W.grownBy W' row) (hr : ∀ r, row = some r → TurnT C (TB B) r W) : Boxed W' u t v := by
  refine h.kept hg fun e => ?_
  rcases hr u e.symm with ⟨_, o, ho, hc⟩ | ⟨_, o, ho, hc⟩
  · rw [show W.heap[u]? = _ from h] at ho; cases ho; cases hc
  · rw [show W.heap[u]? = _ from h] at ho; cases ho; cases hc
theorem tb_cells {C B u : Nat} {o1 : Obj} {W W' : World} {row : Option Nat} (h : W.heap[u]? = some o1) (hc1 : o1.isCells = true) (hg : W.grownBy W' row) (hr : ∀ r, row = some r → TurnT C (TB B) r W) : W'.heap[u]? = some o1 := by
  have hlt := (Array.getElem?_eq_some_iff.1 h).1
  refine (hg.block u hlt fun e => ?_).trans h
  rcases hr u e.symm with ⟨_, o, ho, hc⟩ | ⟨_, o, ho, hc⟩
  · rw [h] at ho; cases ho; rw [hc1] at hc; cases hc
  · rw [h] at ho; cases ho; rw [hc1] at hc; cases hc
theorem tb_below {C B S : Nat} {w W W' : World} {row : Option Nat} (h : Below S w W) (hs : S ≤ W.heap.size) (hg : W.grownBy W' row) (hr : ∀ r, row = some r → TurnT C (TB B) r W) (hC : S ≤ C) (hB : S ≤ B) : Below S w W' :=
  h.grown hg hs fun k e => by
    rcases hr k e with ⟨h1, _⟩ | ⟨h1, _⟩
    · exact Nat.le_trans hB h1
    · exact Nat.le_trans hC h1
theorem KpO.setCell {B lo hi g : Nat} (W : World) (j : Nat) (v : Value) (h1 : lo ≤ g) (h2 : g < hi) : KpO B lo hi W (W.setCell ⟨g, j, none⟩ v) :=
  ⟨⟨by simp, fun b o hb ho hc => by rw [Below.heap_setCell W ⟨g, j, none⟩ v b (by show b ≠ g; omega)]; exact ho⟩, (KeepsOthers.setCell _ _ _).from _⟩
end Go.Proofs.Ytcafeffgaokiaaa
