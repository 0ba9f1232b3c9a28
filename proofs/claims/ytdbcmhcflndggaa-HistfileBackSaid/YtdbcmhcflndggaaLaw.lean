/- A range over strings.Lines: what the caller owes. The iterator keeps its rest in a cell of its own (block B). -/
import Derived.Test.YtdbcmhcflndggaaIter
namespace Go.Proofs.Ytdbcmhcflndggaa
open Go.RowKit Go.Shelf

/-- What the statement's own steps may turn: blocks that are no cells and lie at N or beyond, block B, new blocks. -/
structure Turn (N B : Nat) (W W' : World) : Prop where
  os : W'.os = W.os
  tape : W'.tape = W.tape
  output : W'.output = W.output
  size : W.heap.size ≤ W'.heap.size
  cells : ∀ (k : Nat) (o : Obj), W.heap[k]? = some o → o.isCells = true → k ≠ B → W'.heap[k]? = some o
  low : ∀ k, k < N → k ≠ B → W'.heap[k]? = W.heap[k]?

theorem Turn.alloc {N B : Nat} (W : World) (o : Obj) (h : N ≤ W.heap.size) : Turn N B W (W.alloc o) :=
  ⟨rfl, rfl, rfl, by simp, fun k o' hk _ _ => (Below.heap_alloc W o k (lt_of hk)).trans hk, fun k hk _ => Below.heap_alloc W o k (by omega)⟩
theorem Turn.trans {N B : Nat} {W1 W2 W3 : World} (h : Turn N B W1 W2) (k : Turn N B W2 W3) : Turn N B W1 W3 :=
  ⟨k.os.trans h.os, k.tape.trans h.tape, k.output.trans h.output, Nat.le_trans h.size k.size, fun i o hi ho hb => k.cells i o (h.cells i o hi ho hb) ho hb, fun i hi hb => (k.low i hi hb).trans (h.low i hi hb)⟩
theorem Turn.drewN {N B : Nat} (W : World) (n : Nat) : Turn N B W (W.drewN n) := ⟨rfl, rfl, rfl, Nat.le_refl _, fun _ _ h _ _ => h, fun _ _ _ => rfl⟩
theorem Turn.setB {N B : Nat} (W : World) (v : Value) : Turn N B W (W.setCell ⟨B, 0, none⟩ v) :=
  ⟨rfl, rfl, rfl, (KeepsWalks.setCell W ⟨B, 0, none⟩ v).size, fun k _ hk _ hb => (Below.heap_setCell W ⟨B, 0, none⟩ v k hb).trans hk, fun k _ hb => Below.heap_setCell W ⟨B, 0, none⟩ v k hb⟩
theorem Turn.putObj {N B : Nat} (W : World) (l : Nat) (o o' : Obj) (h : W.heap[l]? = some o) (ho : o.isCells = false) (hN : N ≤ l) : Turn N B W (W.putObj l o') :=
  ⟨rfl, rfl, rfl, by simp, fun k ok hk hc _ => by
    have : k ≠ l := by
      intro e; subst e
      rw [h] at hk; cases hk
      rw [ho] at hc; cases hc
    exact (World.putObj_heap_other this).trans hk, fun k hk _ => World.putObj_heap_other (by omega)⟩

/-- How the body of a round may be left. -/
def linesPost (I : List UInt8 → World → Prop) (Ix : World → Prop) (B : Nat) (rest : List UInt8) (W : World) : Exit → Act → World → Prop
  | .normal, _, W' => KeepsOthers W W' ∧ W'.heap[B]? = W.heap[B]? ∧ I rest W'
  | .ret, _, W' => KeepsOthers W W' ∧ Ix W'
  | _, _, _ => False

set_option maxHeartbeats 1000000 in
theorem range_lines {ps : Array Tmp} {assign body : Code} {Q : Exit → Act → World → Prop} {a : Act} {w0 : World} (m : Nat) (g : Operand) (B : Nat) (s : List UInt8) (hs : s.length ≤ 50000)
    (hg : a.eval g = .func (.func 35) #[] #[.pointer (some ⟨B, 0, none⟩)]) (hps : ps.size = 1) (hB : w0.heap[B]? = some (.cells #[.string (txt s)] 9 (0, 0)))
    (I : List UInt8 → World → Prop) (Ix : World → Prop) (hI : ∀ rest W W', I rest W → Turn w0.heap.size B W W' → I rest W') (hIx : ∀ W W', Ix W → Turn w0.heap.size B W W' → Ix W') (h0 : I s w0) (a₁ : List UInt8 → Act)
    (hassign : ∀ (l : Nat) (one : List UInt8) (W : World) (K : Act → World → Prop), K (a₁ one) W →
      assign.wpIn (Fence.wide.inRound l) m Try.prog (Exit.then K (fun _ _ _ => False)) { tmps := (ps.zip #[.string (txt one)]).foldl (fun t (p, v) => t.setIfInBounds p v) a.tmps, defers := [] } W)
    (hbody : ∀ (l : Nat) (one rest : List UInt8) (W : World), linesF (one ++ rest) = one :: linesF rest → one ≠ [] → I (one ++ rest) W → body.wpIn (Fence.wide.inRound l) m Try.prog (linesPost I Ix B rest W) (a₁ one) W)
    (hdone : ∀ (D : Nat) (W : World), w0.heap.size ≤ D → I [] W → W.heap[D]? = some (.deferred (some [])) → Q .normal { a with defers := { target := .collected D, args := #[] } :: a.defers } W)
    (hstop : ∀ (D : Nat) (W : World), w0.heap.size ≤ D → Ix W → W.heap[D]? = some (.deferred (some [])) → Code.ret.wpIn Fence.wide (m + 2) Try.prog Q { a with defers := { target := .collected D, args := #[] } :: a.defers } W) :
    (Code.rangeFunc g ps assign body).wpIn Fence.wide (m + 2) Try.prog Q a w0 := by
  refine wpIn_rangeFunc ?_
  intro fn hfn
  obtain ⟨rc, hrc⟩ : ∃ rc : LoopState → Option Code → Loop, rc = fun st pe => { state := st, pending := pe, fn, tmps := a.tmps, params := ps, assign, body, defers := w0.heap.size } := ⟨_, rfl⟩
  have hBl := lt_of hB
  obtain ⟨W1, hW1⟩ : ∃ W1, (w0.alloc (.deferred (some []))).alloc (.loop (rc .ready none)) = W1 := ⟨_, rfl⟩
  have hL1 : W1.heap[w0.heap.size + 1]? = some (.loop (rc .ready none)) := by
    rw [← hW1]; have := World.alloc_heap_new (w0.alloc (.deferred (some []))) (.loop (rc .ready none)); rwa [World.size_alloc] at this
  have hK1 : W1.heap[w0.heap.size]? = some (.deferred (some [])) := by
    rw [← hW1]; exact (Below.heap_alloc _ _ _ (by simp)).trans (World.alloc_heap_new w0 _)
  have hT1 : Turn w0.heap.size B w0 W1 := by rw [← hW1]; exact (Turn.alloc w0 _ (Nat.le_refl _)).trans (Turn.alloc _ _ (by simp))
  have hB1 : W1.heap[B]? = some (.cells #[.string (txt s)] 9 (0, 0)) := by
    rw [← hW1]; exact (Below.heap_alloc _ _ _ (by simp; omega)).trans ((Below.heap_alloc _ _ _ hBl).trans hB)
  refine ⟨w0.heap.size + 1, [{ target := .collected w0.heap.size, args := #[] }], W1, { target := .fn (.func 35) #[.pointer (some ⟨B, 0, none⟩)], args := #[.func (.yield (w0.heap.size + 1)) #[] #[]] }, W1, 35,
    #[.func (.yield (w0.heap.size + 1)) #[] #[], .pointer (some ⟨B, 0, none⟩)], W1, ?_, ?_, ?_, ?_, fun h => by simp [Fence.wide] at h, ?_⟩
  · rw [← hW1, hrc]; exact run_enterLoop_outer _ _ _ _ _
  · simp only [resolve, hg]
    simp [go_sem]
  · intro f' _; trivial
  · simp [invoke, go_sem]
  · change CallsIn Fence.wide (m + 1) Try.prog 35 _ W1 _
    refine (lines_iter m (w0.heap.size + 1) B
      (fun rest W => I rest W ∧ W.heap[B]? = some (.cells #[.string (txt rest)] 9 (0, 0)) ∧ W.heap[w0.heap.size + 1]? = some (.loop (rc .ready none)) ∧ W.heap[w0.heap.size]? = some (.deferred (some [])))
      (fun W => Ix W ∧ W.heap[w0.heap.size + 1]? = some (.loop (rc .done (some .ret))) ∧ W.heap[w0.heap.size]? = some (.deferred (some [])))
      ?_ ?_ s hs W1 ⟨hI _ _ _ h0 hT1, hB1, hL1, hK1⟩).mono ?_
    · rintro rest W ⟨_, hb, _, _⟩
      exact ⟨cell_of_row W B 0 _ 9 (0, 0) hb, frozen_of_row W B 0 _ 9 hb⟩
    · -- one round
      rintro one rest W k hlin hne ⟨hi, hb, hl, hd⟩
      obtain ⟨W2, hW2⟩ : ∃ W2, (W.setCell ⟨B, 0, none⟩ (.string (txt rest))).drewN k = W2 := ⟨_, rfl⟩
      have hT2 : Turn w0.heap.size B W W2 := by rw [← hW2]; exact (Turn.setB W _).trans (Turn.drewN _ _)
      have hb2 : W2.heap[B]? = some (.cells #[.string (txt rest)] 9 (0, 0)) := by rw [← hW2]; exact heap_setCell_same W _ 0 _ 9 _ hb
      have hl2 : W2.heap[w0.heap.size + 1]? = some (.loop (rc .ready none)) := by rw [← hW2]; exact (Below.heap_setCell W ⟨B, 0, none⟩ _ _ (show w0.heap.size + 1 ≠ B by omega)).trans hl
      have hd2 : W2.heap[w0.heap.size]? = some (.deferred (some [])) := by rw [← hW2]; exact (Below.heap_setCell W ⟨B, 0, none⟩ _ _ (show w0.heap.size ≠ B by omega)).trans hd
      have hi2 := hI _ _ _ hi hT2
      rw [hW2]
      clear hi hb hl hd hT2 hW2
      have hy := run_yield (P := Try.prog) (args := #[.string (txt one)]) hl2 (by rw [hrc]; simp [hps])
      rw [hrc] at hy
      have hlt := lt_of hl2
      refine ⟨fn, _, assign, body, hy, roundIn_of_wpIn trivial (hassign _ one W2 _ ⟨_, run_beginRound hl2 (by rw [hrc]), ?_⟩)⟩
      obtain ⟨W3, hW3⟩ : ∃ W3, W2.putObj (w0.heap.size + 1) (.loop { rc .ready none with state := .busy }) = W3 := ⟨_, rfl⟩
      have hl3 : W3.heap[w0.heap.size + 1]? = some (.loop { rc .ready none with state := .busy }) := by rw [← hW3]; exact World.putObj_heap_same hlt
      have hd3 : W3.heap[w0.heap.size]? = some (.deferred (some [])) := by rw [← hW3]; exact (World.putObj_heap_other (by omega)).trans hd2
      have hb3 : W3.heap[B]? = some (.cells #[.string (txt rest)] 9 (0, 0)) := by rw [← hW3]; exact (World.putObj_heap_other (by omega)).trans hb2
      have hi3 : I (one ++ rest) W3 := hI _ _ _ hi2 (by rw [← hW3]; exact Turn.putObj W2 _ _ _ hl2 rfl (by omega))
      have hre : ({ rc .ready none with state := .busy } : Loop) = rc .busy none := by rw [hrc]
      rw [hW3]
      rw [hre] at hl3
      clear hl2 hd2 hb2 hi2 hy hW3 hlt hre
      refine wpIn_mono (hbody _ one rest W3 hlin hne hi3) ?_
      have fin : ∀ (jump : Option Code) (W4 : World), KeepsOthers W3 W4 →
          (Instr.endRound (w0.heap.size + 1) jump).run Try.prog W4 = .ok (.bool jump.isNone) (W4.putObj (w0.heap.size + 1) (.loop (rc (if jump.isNone then .ready else .done) jump))) ∧
          W4.heap[w0.heap.size + 1]? = some (.loop (rc .busy none)) ∧
          (W4.putObj (w0.heap.size + 1) (.loop (rc (if jump.isNone then .ready else .done) jump))).heap[w0.heap.size + 1]? = some (.loop (rc (if jump.isNone then .ready else .done) jump)) ∧
          (W4.putObj (w0.heap.size + 1) (.loop (rc (if jump.isNone then .ready else .done) jump))).heap[w0.heap.size]? = some (.deferred (some [])) := fun jump W4 hk4 => by
        have hl4 := hk4.same _ _ hl3 rfl
        have hre := run_endRound (P := Try.prog) jump hl4
        have hd4 := hk4.same _ _ hd3 rfl
        refine ⟨?_, hl4, World.putObj_heap_same (lt_of hl4), (World.putObj_heap_other (by omega)).trans hd4⟩
        rw [hrc] at hre ⊢
        exact hre
      rintro e a3 W4 hp
      cases e with
      | normal =>
        obtain ⟨hk4, hB4, hi4⟩ := hp
        obtain ⟨hr, hl4, hl5, hd5⟩ := fin none W4 hk4
        exact ⟨_, _, hr, .inl ⟨rfl, hI _ _ _ hi4 (Turn.putObj W4 _ _ _ hl4 rfl (by omega)), (World.putObj_heap_other (by omega)).trans (hB4.trans hb3), hl5, hd5⟩⟩
      | ret =>
        obtain ⟨hk4, hi4⟩ := hp
        obtain ⟨hr, hl4, hl5, hd5⟩ := fin (some .ret) W4 hk4
        exact ⟨_, _, hr, .inr ⟨rfl, hIx _ _ hi4 (Turn.putObj W4 _ _ _ hl4 rfl (by omega)), hl5, hd5⟩⟩
      | exit id => exact hp.elim
      | goto t => exact hp.elim
      | panic ch => exact hp.elim
      | outgrown => exact hp.elim
    · -- behind the iterator
      rintro e W2 ⟨⟨v, rfl⟩, (⟨hi, _, hl, hd⟩ | ⟨hi, hl, hd⟩)⟩
      · have hend := run_endLoop (P := Try.prog) hl (by rw [hrc]; simp)
        refine ⟨none, _, by rw [show (rc .ready none).pending = none by rw [hrc]] at hend; exact hend, hdone w0.heap.size _ (Nat.le_refl _) (hI _ _ _ hi (Turn.putObj W2 _ _ _ hl rfl (by omega))) ((World.putObj_heap_other (by omega)).trans hd)⟩
      · have hend := run_endLoop (P := Try.prog) hl (by rw [hrc]; simp)
        refine ⟨some .ret, _, by rw [show (rc .done (some .ret)).pending = some .ret by rw [hrc]] at hend; exact hend, hstop w0.heap.size _ (Nat.le_refl _) (hIx _ _ hi (Turn.putObj W2 _ _ _ hl rfl (by omega))) ((World.putObj_heap_other (by omega)).trans hd)⟩
end Go.Proofs.Ytdbcmhcflndggaa
