/- The contract of histfile.Get. -/
import Derived.Test.YtdbcmhcflndggaaLaw
namespace Go.Proofs.Ytdbcmhcflndggaa
open Go.RowKit Go.Shelf

attribute [local go_sem] Oper.semAt_some

theorem lines_any (s : ByteArray) (w : World) : Calls Try.prog 27 #[.string s] w fun e w' => e = .returned (.func (.func 35) #[] #[.pointer (some ⟨w.heap.size, 0, none⟩)]) ∧ w' = w.alloc (.cells #[.string s] 9) := by
  go_enter Try.func27, Try.ntmps27
  go_wp2
  go_ret
  exact ⟨rfl, rfl⟩

theorem suffix_end (l : List UInt8) : Lib.hasSuffix l [10] = endF l := by
  unfold Lib.hasSuffix endF
  rw [Bool.eq_iff_iff, List.isSuffixOf_iff_suffix, beq_iff_eq, List.getLast?_eq_some_iff]
  constructor
  · rintro ⟨t, h⟩; exact ⟨t, h.symm⟩
  · rintro ⟨t, h⟩; exact ⟨t, h.symm⟩
theorem trim_end (l : List UInt8) : Lib.trimSuffix l [10] = if endF l then l.dropLast else l := by
  unfold Lib.trimSuffix
  rw [suffix_end]
  split
  · rw [List.dropLast_eq_take]; rfl
  · rfl

/-- Between two rounds: what the call's own cells hold. -/
structure Mid (s : ByteArray) (w : World) (v : Value) (acc : List ByteArray) (rest : List UInt8) (W : World) : Prop where
  l : W.heap[w.heap.size]? = some (.cells #[v] 22 (0, 0))
  n : W.heap[w.heap.size + 1]? = some (.cells #[.int .i64 0] 3 (0, 0))
  e : W.heap[w.heap.size + 1 + 1]? = some (.cells #[.int .i64 0] 31 (0, 0))
  row : W.ownsRow (w.heap.size + 4) 9 1 v acc.length (acc.map .string)
  got : getF (listsOf acc) (linesF rest) = getF [] (linesF s.data.toList)
  len : acc.length + rest.length ≤ s.size
  sz : ∀ x ∈ acc, x.size ≤ s.size
  bel : Below w.heap.size w W
  big : w.heap.size + 4 ≤ W.heap.size
structure Shut (s : ByteArray) (w : World) (k : Nat) (W : World) : Prop where
  l : W.heap[w.heap.size]? = some (.cells #[.slice none 0 0] 22 (0, 0))
  n : W.heap[w.heap.size + 1]? = some (.cells #[.int .i64 k] 3 (0, 0))
  e : W.heap[w.heap.size + 1 + 1]? = some (.cells #[.int .i64 10] 31 (0, 0))
  got : getF [] (linesF s.data.toList) = ([], k, 10)
  bel : Below w.heap.size w W

theorem Mid.turn {s : ByteArray} {w : World} {v : Value} {acc : List ByteArray} {rest : List UInt8} {W W' : World} (h : Mid s w v acc rest W) (t : Turn (w.heap.size + 4) (w.heap.size + 1 + 1 + 1) W W') : Mid s w v acc rest W' := by
  refine ⟨t.cells _ _ h.l rfl (by omega), t.cells _ _ h.n rfl (by omega), t.cells _ _ h.e rfl (by omega), ⟨h.row.1, ?_⟩, h.got, h.len, h.sz,
    ⟨t.os.trans h.bel.os, t.tape.trans h.bel.tape, t.output.trans h.bel.output, Nat.le_trans h.bel.size t.size, fun k hk => (t.low k (by omega) (by omega)).trans (h.bel.block k hk)⟩, Nat.le_trans h.big t.size⟩
  rcases h.row.2 with h0 | ⟨g, cap, cur, e1, e2, e3, e4⟩
  · exact .inl h0
  · exact .inr ⟨g, cap, cur, e1, e2, t.cells _ _ e3 rfl (by omega), e4⟩
theorem Shut.turn {s : ByteArray} {w : World} {k : Nat} {W W' : World} (h : Shut s w k W) (t : Turn (w.heap.size + 4) (w.heap.size + 1 + 1 + 1) W W') : Shut s w k W' :=
  ⟨t.cells _ _ h.l rfl (by omega), t.cells _ _ h.n rfl (by omega), t.cells _ _ h.e rfl (by omega), h.got,
    ⟨t.os.trans h.bel.os, t.tape.trans h.bel.tape, t.output.trans h.bel.output, Nat.le_trans h.bel.size t.size, fun k hk => (t.low k (by omega) (by omega)).trans (h.bel.block k hk)⟩⟩

theorem own_far {W W' : World} {base : Nat} {v : Value} {n : Nat} {xs : List Value} (h : W.ownsRow base 9 1 v n xs) (hs : ∀ (g : Nat) (x : Array Value), base ≤ g → W.heap[g]? = some (.cells x 9 (0, 0)) → W'.heap[g]? = some (.cells x 9 (0, 0))) : W'.ownsRow base 9 1 v n xs := by
  refine ⟨h.1, ?_⟩
  rcases h.2 with h0 | ⟨g, cap, cur, e1, e2, e3, e4⟩
  · exact .inl h0
  · exact .inr ⟨g, cap, cur, e1, e2, hs g _ e2 e3, e4⟩
theorem Mid.next {s : ByteArray} {w : World} {v : Value} {acc : List ByteArray} {rest : List UInt8} {W W' : World} (h : Mid s w v acc rest W) (b : Below W.heap.size W W') : Mid s w v acc rest W' :=
  ⟨(b.block _ (lt_of h.l)).trans h.l, (b.block _ (lt_of h.n)).trans h.n, (b.block _ (lt_of h.e)).trans h.e, own_far h.row fun g _ _ hg => (b.block g (lt_of hg)).trans hg, h.got, h.len, h.sz,
    h.bel.trans (b.mono h.bel.size), Nat.le_trans h.big b.size⟩
theorem keeps_below {W W' : World} (b : Below W.heap.size W W') : KeepsOthers W W' := ⟨b.size, fun k _ hk _ => (b.block k (lt_of hk)).trans hk⟩

/-- Three stores into the results' cells. -/
theorem stored {s : ByteArray} {w : World} {v : Value} {acc : List ByteArray} {rest : List UInt8} {W : World} (h : Mid s w v acc rest W) (u : Value) (x y : Int) :
    (((W.setCell ⟨w.heap.size, 0, none⟩ u).setCell ⟨w.heap.size + 1, 0, none⟩ (.int .i64 x)).setCell ⟨w.heap.size + 1 + 1, 0, none⟩ (.int .i64 y)).heap[w.heap.size]? = some (.cells #[u] 22 (0, 0)) ∧
    (((W.setCell ⟨w.heap.size, 0, none⟩ u).setCell ⟨w.heap.size + 1, 0, none⟩ (.int .i64 x)).setCell ⟨w.heap.size + 1 + 1, 0, none⟩ (.int .i64 y)).heap[w.heap.size + 1]? = some (.cells #[.int .i64 x] 3 (0, 0)) ∧
    (((W.setCell ⟨w.heap.size, 0, none⟩ u).setCell ⟨w.heap.size + 1, 0, none⟩ (.int .i64 x)).setCell ⟨w.heap.size + 1 + 1, 0, none⟩ (.int .i64 y)).heap[w.heap.size + 1 + 1]? = some (.cells #[.int .i64 y] 31 (0, 0)) ∧
    KeepsOthers W (((W.setCell ⟨w.heap.size, 0, none⟩ u).setCell ⟨w.heap.size + 1, 0, none⟩ (.int .i64 x)).setCell ⟨w.heap.size + 1 + 1, 0, none⟩ (.int .i64 y)) ∧
    Below w.heap.size w (((W.setCell ⟨w.heap.size, 0, none⟩ u).setCell ⟨w.heap.size + 1, 0, none⟩ (.int .i64 x)).setCell ⟨w.heap.size + 1 + 1, 0, none⟩ (.int .i64 y)) ∧
    (∀ g o, w.heap.size + 3 ≤ g → W.heap[g]? = some o → (((W.setCell ⟨w.heap.size, 0, none⟩ u).setCell ⟨w.heap.size + 1, 0, none⟩ (.int .i64 x)).setCell ⟨w.heap.size + 1 + 1, 0, none⟩ (.int .i64 y)).heap[g]? = some o) := by
  have a0 := heap_setCell_same W w.heap.size 0 _ 22 u h.l
  have a1 := (Below.heap_setCell (W.setCell ⟨w.heap.size, 0, none⟩ u) ⟨w.heap.size + 1, 0, none⟩ (.int .i64 x) w.heap.size (show w.heap.size ≠ w.heap.size + 1 by omega)).trans a0
  have b0 := (Below.heap_setCell W ⟨w.heap.size, 0, none⟩ u (w.heap.size + 1) (show w.heap.size + 1 ≠ w.heap.size by omega)).trans h.n
  have b1 := heap_setCell_same (W.setCell ⟨w.heap.size, 0, none⟩ u) (w.heap.size + 1) 0 _ 3 (.int .i64 x) b0
  have c0 := (Below.heap_setCell W ⟨w.heap.size, 0, none⟩ u (w.heap.size + 1 + 1) (show w.heap.size + 1 + 1 ≠ w.heap.size by omega)).trans h.e
  have c1 := (Below.heap_setCell (W.setCell ⟨w.heap.size, 0, none⟩ u) ⟨w.heap.size + 1, 0, none⟩ (.int .i64 x) (w.heap.size + 1 + 1) (show w.heap.size + 1 + 1 ≠ w.heap.size + 1 by omega)).trans c0
  refine ⟨(Below.heap_setCell _ ⟨w.heap.size + 1 + 1, 0, none⟩ _ _ (show w.heap.size ≠ w.heap.size + 1 + 1 by omega)).trans a1, (Below.heap_setCell _ ⟨w.heap.size + 1 + 1, 0, none⟩ _ _ (show w.heap.size + 1 ≠ w.heap.size + 1 + 1 by omega)).trans b1,
    heap_setCell_same _ (w.heap.size + 1 + 1) 0 _ 31 _ c1, ((KeepsOthers.setCell _ _ _).trans (KeepsOthers.setCell _ _ _)).trans (KeepsOthers.setCell _ _ _),
    ((h.bel.setCell (p := ⟨w.heap.size, 0, none⟩) (Nat.le_refl _) _).setCell (p := ⟨w.heap.size + 1, 0, none⟩) (by simp) _).setCell (p := ⟨w.heap.size + 1 + 1, 0, none⟩) (by simp; omega) _, fun g o hg ho => ?_⟩
  exact (Below.heap_setCell _ ⟨w.heap.size + 1 + 1, 0, none⟩ _ g (show g ≠ w.heap.size + 1 + 1 by omega)).trans ((Below.heap_setCell _ ⟨w.heap.size + 1, 0, none⟩ _ g (show g ≠ w.heap.size + 1 by omega)).trans ((Below.heap_setCell W ⟨w.heap.size, 0, none⟩ _ g (show g ≠ w.heap.size by omega)).trans ho))

/-- What an append onto the list leaves as it was. -/
theorem gro {s : ByteArray} {w : World} {v : Value} {acc : List ByteArray} {rest : List UInt8} {W W2 : World} {x : ByteArray} (h : Mid s w v acc rest W) (hg : (W.alloc (.cells #[.string x] 9)).grownBy W2 v.ownBlock) :
    W2.heap[w.heap.size]? = some (.cells #[v] 22 (0, 0)) ∧ W2.heap[w.heap.size + 1]? = some (.cells #[.int .i64 0] 3 (0, 0)) ∧ W2.heap[w.heap.size + 1 + 1]? = some (.cells #[.int .i64 0] 31 (0, 0)) ∧
      W2.heap[w.heap.size + 1 + 1 + 1]? = W.heap[w.heap.size + 1 + 1 + 1]? ∧ KeepsOthers W W2 ∧ Below w.heap.size w W2 ∧ W.heap.size ≤ W2.heap.size := by
  have hne : ∀ k, k < w.heap.size + 4 → some k ≠ v.ownBlock := fun k hk e => by have := (h.row.lt k e.symm).1; omega
  have hlow : ∀ k, k < w.heap.size + 4 → W2.heap[k]? = W.heap[k]? := fun k hk => by
    have hb := h.big
    exact (hg.block k (by simp; omega) (hne k hk)).trans (Below.heap_alloc W _ k (by omega))
  refine ⟨(hlow _ (by omega)).trans h.l, (hlow _ (by omega)).trans h.n, (hlow _ (by omega)).trans h.e, hlow _ (by omega), ?_, ?_, ?_⟩
  · refine (KeepsOthers.alloc W _).trans (KeepsOthers.of_grownBy hg fun j o e hj => ?_)
    rcases h.row.2 with ⟨rfl, _⟩ | ⟨g, cap, cur, rfl, _, e3, _⟩
    · simp [Value.ownBlock] at e
    · simp [Value.ownBlock] at e
      subst e
      have := (Below.heap_alloc W (.cells #[.string x] 9) g (lt_of e3)).trans e3
      rw [this] at hj
      cases hj
      rfl
  · exact (h.bel.alloc h.bel.size _).grown hg (by have := h.bel.size; simp; omega) (fun k hk => by have := (h.row.lt k hk).1; omega)
  · have := hg.size; simp at this; omega

theorem cut_yes (one : List UInt8) (w : World) (h : endF one = true) (hl : one.length ≤ 50000) :
    Calls Try.prog 28 #[.string (txt one), .string ⟨#[10]⟩] w fun e w' => e = .returned (.tuple #[.string (txt one.dropLast), .bool true]) ∧ w' = w := by
  refine (Try.strings_CutSuffix (txt one) ⟨#[10]⟩ w (by rw [txt_size]; omega)).mono ?_
  rintro e w' ⟨rfl, rfl⟩
  rw [txt_list]
  refine ⟨?_, rfl⟩
  change Ending.returned (.tuple #[.string (txt (Lib.trimSuffix one [10])), .bool (Lib.hasSuffix one [10])]) = _
  rw [trim_end, suffix_end, h, if_pos rfl]
theorem cut_no (one : List UInt8) (w : World) (h : endF one = false) (hl : one.length ≤ 50000) :
    Calls Try.prog 28 #[.string (txt one), .string ⟨#[10]⟩] w fun e w' => e = .returned (.tuple #[.string (txt one), .bool false]) ∧ w' = w := by
  refine (Try.strings_CutSuffix (txt one) ⟨#[10]⟩ w (by rw [txt_size]; omega)).mono ?_
  rintro e w' ⟨rfl, rfl⟩
  rw [txt_list]
  refine ⟨?_, rfl⟩
  change Ending.returned (.tuple #[.string (txt (Lib.trimSuffix one [10])), .bool (Lib.hasSuffix one [10])]) = _
  rw [trim_end, suffix_end, h, if_neg (by simp)]
theorem entry_yes (x : List UInt8) (w : World) (h : okF x = true) (hl : x.length ≤ 50000) :
    Calls Try.prog 29 #[.string (txt x)] w fun e w' => e = .returned (.tuple #[.string (txt (rentF x)), .bool true]) ∧ Below w.heap.size w w' := by
  refine (entry_any (txt x) w (by rw [txt_size]; omega)).mono ?_
  rintro e w' ⟨rfl, hb⟩
  rw [txt_list, ent_ok, ent_val h, h]
  exact ⟨rfl, hb⟩
theorem entry_no (x : List UInt8) (w : World) (h : okF x = false) (hl : x.length ≤ 50000) :
    Calls Try.prog 29 #[.string (txt x)] w fun e w' => e = .returned (.tuple #[.string (txt (entF x).1), .bool false]) ∧ Below w.heap.size w w' := by
  refine (entry_any (txt x) w (by rw [txt_size]; omega)).mono ?_
  rintro e w' ⟨rfl, hb⟩
  rw [txt_list, ent_ok, h]
  exact ⟨rfl, hb⟩
theorem entry_some (x : List UInt8) (w : World) (hl : x.length ≤ 50000) :
    Calls Try.prog 29 #[.string (txt x)] w fun e w' => e = .returned (.tuple #[.string (txt (entF x).1), .bool (okF x)]) ∧ Below w.heap.size w w' := by
  refine (entry_any (txt x) w (by rw [txt_size]; omega)).mono ?_
  rintro e w' ⟨rfl, hb⟩
  rw [txt_list, ent_ok]
  exact ⟨rfl, hb⟩

set_option maxHeartbeats 8000000 in
set_option maxRecDepth 100000 in
theorem get_any (s : ByteArray) (w : World) (hs : s.size ≤ 50000) : Calls Try.prog 17 #[.string s] w (GotV s w) := by
  obtain ⟨i0, hi0, hz0, hz1, hz2⟩ := info_parts str_info
  have hsl : s.data.toList.length = s.size := Array.length_toList
  have HSL := Lib.hid hsl
  clear hsl
  refine (callsIn_wide (n := 10)).1 ?_
  refine callsIn_of_wp_marks Try.func17 rfl trivial ?_ rfl
  simp only [Try.ntmps17, List.size_toArray, List.length_cons, List.length_nil, Nat.reduceAdd, Nat.reduceSub, Array.replicate_succ, Array.replicate_zero, List.push_toArray, List.append_toArray, List.nil_append, List.cons_append]
  gi_wp2_with (refine ⟨trivial, ?_⟩; gi_at_call 27; refine (callsIn_wide.2 (lines_any s _)).mono ?_; rintro e w' ⟨rfl, rfl⟩)
  obtain ⟨w0, hw0⟩ : ∃ w0, (((w.alloc (.cells #[.slice none 0 0] 22)).alloc (.cells #[.int .i64 0] 3)).alloc (.cells #[.int .i64 0] 31)).alloc (.cells #[.string s] 9) = w0 := ⟨_, rfl⟩
  rw [hw0]
  have hz : w0.heap.size = w.heap.size + 4 := by rw [← hw0]; simp
  have e0 : w0.heap[w.heap.size]? = some (.cells #[.slice none 0 0] 22 (0, 0)) := by
    rw [← hw0]; exact (Below.heap_alloc _ _ _ (by simp <;> omega)).trans ((Below.heap_alloc _ _ _ (by simp <;> omega)).trans ((Below.heap_alloc _ _ _ (by simp)).trans (heap_alloc_new w _)))
  have e1 : w0.heap[w.heap.size + 1]? = some (.cells #[.int .i64 0] 3 (0, 0)) := by
    rw [← hw0]
    refine (Below.heap_alloc _ _ _ (by simp <;> omega)).trans ((Below.heap_alloc _ _ _ (by simp)).trans ?_)
    have := heap_alloc_new (w.alloc (.cells #[.slice none 0 0] 22)) (.cells #[.int .i64 0] 3)
    rwa [World.size_alloc] at this
  have e2 : w0.heap[w.heap.size + 1 + 1]? = some (.cells #[.int .i64 0] 31 (0, 0)) := by
    rw [← hw0]
    refine (Below.heap_alloc _ _ _ (by simp)).trans ?_
    have := heap_alloc_new ((w.alloc (.cells #[.slice none 0 0] 22)).alloc (.cells #[.int .i64 0] 3)) (.cells #[.int .i64 0] 31)
    rwa [World.size_alloc, World.size_alloc] at this
  have e3 : w0.heap[w.heap.size + 1 + 1 + 1]? = some (.cells #[.string s] 9 (0, 0)) := by
    rw [← hw0]
    have := heap_alloc_new (((w.alloc (.cells #[.slice none 0 0] 22)).alloc (.cells #[.int .i64 0] 3)).alloc (.cells #[.int .i64 0] 31)) (.cells #[.string s] 9)
    rwa [World.size_alloc, World.size_alloc, World.size_alloc] at this
  have hbw : Below w.heap.size w w0 := by
    rw [← hw0]; exact ((((Below.refl _ w).alloc (Nat.le_refl _) _).alloc (by simp) _).alloc (by simp <;> omega) _).alloc (by simp <;> omega) _
  have hmid : Mid s w (.slice none 0 0) [] s.data.toList w0 := ⟨e0, e1, e2, World.ownsRow_nil _ _ _ _, rfl, by have := HSL.out; simp <;> omega, by simp, hbw, by omega⟩
  clear hw0 e0 e1 e2 hbw
  refine range_lines 8 _ (w.heap.size + 1 + 1 + 1) s.data.toList (by have := HSL.out; omega) rfl rfl (by rw [txt_of]; exact e3)
    (fun rest W => ∃ v acc, Mid s w v acc rest W) (fun W => ∃ k, Shut s w k W)
    (fun rest W W' ⟨v, acc, h⟩ t => ⟨v, acc, h.turn (hz ▸ t)⟩) (fun W W' ⟨k, h⟩ t => ⟨k, h.turn (hz ▸ t)⟩) ⟨_, _, hmid⟩
    (fun one => { tmps := #[.string s, undef, .pointer (some ⟨w.heap.size, 0, none⟩), .pointer (some ⟨w.heap.size + 1, 0, none⟩), .pointer (some ⟨w.heap.size + 1 + 1, 0, none⟩), .string (txt one), undef, undef, undef, undef, .string s,
      .func (.func 35) #[] #[.pointer (some ⟨w.heap.size + 1 + 1 + 1, 0, none⟩)], .string (txt one), undef, undef, undef, undef, undef, undef, undef, undef, undef, undef, undef, undef, undef, undef, undef, undef, undef, undef, undef, undef, undef, undef, undef, undef], defers := [] }) ?assign ?body ?done ?stop
  case assign =>
    intro l one W K hK
    gi_wp2
    exact hK
  case body =>
    rintro l one rest W hlin hne ⟨v, acc, hm⟩
    have hl := hm.len
    rw [List.length_append] at hl
    obtain ⟨A, cc, rfl, _, _⟩ := strsV_own hm.row
    have hgot := hm.got
    rw [hlin, getF] at hgot
    by_cases hend : endF one = true
    · by_cases hok : okF one.dropLast = true
      · rw [hend, hok, Bool.and_self, if_pos rfl] at hgot
        have HG := Lib.hid hgot
        have HE := Lib.hid hend
        have HO := Lib.hid hok
        have hdl : one.dropLast.length ≤ one.length := by rw [List.length_dropLast]; omega
        have hrl := rent_len one.dropLast
        clear hgot hend hok hlin
        gi_wp2_with (first
          | (refine ⟨trivial, ?_⟩; gi_at_call 28; refine (CallsIn.inRound l (callsIn_wide.2 (cut_yes one _ HE.out (by omega)))).mono ?_; rintro e w' ⟨rfl, rfl⟩)
          | (refine ⟨trivial, ?_⟩; gi_at_call 29; refine (CallsIn.inRound l (callsIn_wide.2 (entry_yes one.dropLast _ HO.out (by omega)))).mono ?_; rintro e w1 ⟨rfl, hb1⟩; have hm1 := hm.next hb1; have c0 := cell_of_row w1 _ 0 _ 22 (0, 0) hm1.l; have f0 := frozen_of_row w1 _ 0 _ 22 hm1.l)
          | (gi_at_builtin; refine wpListIn_append_own _ rfl _ _ 22 rfl (w.heap.size + 4) 9 i0 _ 1 16 Try.underlying22 hi0 hz0 hz1 hz2 rfl (by decide) _ _ _ rfl (hm1.row.alloc _) ⟨_, 0, none⟩ 1 1 [.string (txt (rentF one.dropLast))] rfl rfl (cell_one_new _ _ _) (by simp [Value.oneCell']) (by unfold maxLen; omega) (by omega) (by have := hm1.big; simp; omega) ?_; intro v' w2 hown' hgrow _; obtain ⟨g', cap', rfl⟩ := ownsRow_succ hown'; have G0 := gro hm1 hgrow; have c1 := cell_of_row w2 _ 0 _ 22 (0, 0) G0.1; have f1 := frozen_of_row w2 _ 0 _ 22 G0.1))
        obtain ⟨g1, g2, g3, g4, g5, g6, g7⟩ := G0
        have hone : 1 ≤ one.length := by
          cases one with
          | nil => exact absurd rfl hne
          | cons _ _ => simp
        refine ⟨(keeps_below hb1).trans (g5.trans (KeepsOthers.setCell _ _ _)), (Below.heap_setCell w2 ⟨w.heap.size, 0, none⟩ _ _ (show w.heap.size + 1 + 1 + 1 ≠ w.heap.size by omega)).trans (g4.trans (hb1.block _ (by have := hm.big; omega))), ⟨.slice (some ⟨g', 0, none⟩) (acc.length + 1) cap', acc ++ [txt (rentF one.dropLast)], ?_⟩⟩
        refine ⟨heap_setCell_same w2 _ 0 _ 22 _ g1, (Below.heap_setCell w2 ⟨w.heap.size, 0, none⟩ _ _ (show w.heap.size + 1 ≠ w.heap.size by omega)).trans g2, (Below.heap_setCell w2 ⟨w.heap.size, 0, none⟩ _ _ (show w.heap.size + 1 + 1 ≠ w.heap.size by omega)).trans g3, ?_, ?_, ?_, ?_, g6.setCell (p := ⟨w.heap.size, 0, none⟩) (Nat.le_refl _) _, ?_⟩
        · rw [List.length_append, List.map_append]
          exact own_far hown' fun g x hg hx => (Below.heap_setCell w2 ⟨w.heap.size, 0, none⟩ _ _ (show g ≠ w.heap.size by omega)).trans hx
        · rw [lists_snoc]
          exact HG.out
        · rw [List.length_append]; simp only [List.length_singleton]; omega
        · intro x hx
          rcases List.mem_append.1 hx with h | h
          · exact hm.sz x h
          · simp at h; rw [h, txt_size]; omega
        · have := hm.big
          have := hb1.size
          have := (KeepsOthers.setCell w2 ⟨w.heap.size, 0, none⟩ (.slice (some ⟨g', 0, none⟩) (acc.length + 1) cap')).size
          omega
      · have hok' : okF one.dropLast = false := by simpa using hok
        rw [hend, hok', Bool.and_false, if_neg (by simp), lists_len] at hgot
        have HG := Lib.hid hgot
        have HE := Lib.hid hend
        have HO := Lib.hid hok'
        have hdl : one.dropLast.length ≤ one.length := by rw [List.length_dropLast]; omega
        clear hgot hend hok hok' hlin
        gi_wp2_with (first
          | (refine ⟨trivial, ?_⟩; gi_at_call 28; refine (CallsIn.inRound l (callsIn_wide.2 (cut_yes one _ HE.out (by omega)))).mono ?_; rintro e w' ⟨rfl, rfl⟩)
          | (refine ⟨trivial, ?_⟩; gi_at_call 29; refine (CallsIn.inRound l (callsIn_wide.2 (entry_no one.dropLast _ HO.out (by omega)))).mono ?_; rintro e w1 ⟨rfl, hb1⟩; have hm1 := hm.next hb1; have c0 := cell_of_row w1 _ 0 _ 22 (0, 0) hm1.l; have f0 := frozen_of_row w1 _ 0 _ 22 hm1.l; have c1 := cell_of_row w1 _ 0 _ 3 (0, 0) hm1.n; have f1 := frozen_of_row w1 _ 0 _ 3 hm1.n; have c2 := cell_of_row w1 _ 0 _ 31 (0, 0) hm1.e; have f2 := frozen_of_row w1 _ 0 _ 31 hm1.e))
        obtain ⟨g1, g2, g3, g4, g5, _⟩ := stored hm1 (.slice none 0 0) ((acc.length : Int) + 1) 10
        exact ⟨(keeps_below hb1).trans g4, acc.length + 1, g1, g2, g3, HG.out.symm, g5⟩
    · have hend' : endF one = false := by simpa using hend
      rw [hend', Bool.false_and, if_neg (by simp), lists_len] at hgot
      have HG := Lib.hid hgot
      have HE := Lib.hid hend'
      clear hgot hend hend' hlin
      gi_wp2_with (first
        | (refine ⟨trivial, ?_⟩; gi_at_call 28; refine (CallsIn.inRound l (callsIn_wide.2 (cut_no one _ HE.out (by omega)))).mono ?_; rintro e w' ⟨rfl, rfl⟩)
        | (refine ⟨trivial, ?_⟩; gi_at_call 29; refine (CallsIn.inRound l (callsIn_wide.2 (entry_some one _ (by omega)))).mono ?_; rintro e w1 ⟨rfl, hb1⟩; have hm1 := hm.next hb1; have c0 := cell_of_row w1 _ 0 _ 22 (0, 0) hm1.l; have f0 := frozen_of_row w1 _ 0 _ 22 hm1.l; have c1 := cell_of_row w1 _ 0 _ 3 (0, 0) hm1.n; have f1 := frozen_of_row w1 _ 0 _ 3 hm1.n; have c2 := cell_of_row w1 _ 0 _ 31 (0, 0) hm1.e; have f2 := frozen_of_row w1 _ 0 _ 31 hm1.e))
      obtain ⟨g1, g2, g3, g4, g5, _⟩ := stored hm1 (.slice none 0 0) ((acc.length : Int) + 1) 10
      exact ⟨(keeps_below hb1).trans g4, acc.length + 1, g1, g2, g3, HG.out.symm, g5⟩
  case done =>
    rintro D W hD ⟨v, acc, hm⟩ hK
    obtain ⟨A, cc, rfl, _, hA⟩ := strsV_own hm.row
    have c0 := cell_of_row W _ 0 _ 22 (0, 0) hm.l
    have f0 := frozen_of_row W _ 0 _ 22 hm.l
    have c1 := cell_of_row W _ 0 _ 3 (0, 0) hm.n
    have f1 := frozen_of_row W _ 0 _ 3 hm.n
    have c2 := cell_of_row W _ 0 _ 31 (0, 0) hm.e
    have f2 := frozen_of_row W _ 0 _ 31 hm.e
    gi_wp2
    obtain ⟨g1, g2, g3, g4, g5, g6⟩ := stored hm (.slice A acc.length cc) 0 0
    have hK' := g6 D _ (by omega) hK
    obtain ⟨W3, hW3⟩ : ∃ W3, (((W.setCell ⟨w.heap.size, 0, none⟩ (.slice A acc.length cc)).setCell ⟨w.heap.size + 1, 0, none⟩ (.int .i64 0)).setCell ⟨w.heap.size + 1 + 1, 0, none⟩ (.int .i64 0)) = W3 := ⟨_, rfl⟩
    rw [hW3] at g1 g2 g3 g4 g5 g6 hK' ⊢
    refine ⟨by simp, .inl ⟨_, _, rfl, run_takeDeferred hK', ?_⟩⟩
    have q0 := cell_of_row (W3.putObj D (.deferred none)) _ 0 _ 22 (0, 0) ((World.putObj_heap_other (show w.heap.size ≠ D by omega)).trans g1)
    have q1 := cell_of_row (W3.putObj D (.deferred none)) _ 0 _ 3 (0, 0) ((World.putObj_heap_other (show w.heap.size + 1 ≠ D by omega)).trans g2)
    have q2 := cell_of_row (W3.putObj D (.deferred none)) _ 0 _ 31 (0, 0) ((World.putObj_heap_other (show w.heap.size + 1 + 1 ≠ D by omega)).trans g3)
    have hrow : (W3.putObj D (.deferred none)).ownsRow (w.heap.size + 4) 9 1 (.slice A acc.length cc) acc.length (acc.map .string) := own_far hm.row fun g x hg hx => by
      have hgd : g ≠ D := by
        intro e
        rw [e, hK] at hx
        cases hx
      exact (World.putObj_heap_other hgd).trans (g6 g _ (by omega) hx)
    obtain ⟨A', cc', e', _, hA'⟩ := strsV_own hrow
    injection e' with e1' _ e2'
    subst e1' e2'
    have hgot := hm.got
    have hbel : Below w.heap.size w (W3.putObj D (.deferred none)) := g5.trans (belowK_b (w := w) (Nat.le_refl _) W3 D _ _ (by omega) hK' rfl rfl)
    refine ⟨.tuple #[.slice A acc.length cc, .int .i64 0, .int .i64 0], by simp [results, Try.f17, go_sem, q0, q1, q2], A, cc, acc, ?_, hA', ?_, ?_, hm.sz, hbel⟩
    · rw [← hgot]; rfl
    · rw [← hgot]; rfl
    · have := hm.len; omega
  case stop =>
    rintro D W hD ⟨k, hm⟩ hK
    gi_wp2
    refine ⟨by simp, .inl ⟨_, _, rfl, run_takeDeferred hK, ?_⟩⟩
    have q0 := cell_of_row (W.putObj D (.deferred none)) _ 0 _ 22 (0, 0) ((World.putObj_heap_other (show w.heap.size ≠ D by omega)).trans hm.l)
    have q1 := cell_of_row (W.putObj D (.deferred none)) _ 0 _ 3 (0, 0) ((World.putObj_heap_other (show w.heap.size + 1 ≠ D by omega)).trans hm.n)
    have q2 := cell_of_row (W.putObj D (.deferred none)) _ 0 _ 31 (0, 0) ((World.putObj_heap_other (show w.heap.size + 1 + 1 ≠ D by omega)).trans hm.e)
    have hbel : Below w.heap.size w (W.putObj D (.deferred none)) := hm.bel.trans (belowK_b (w := w) (Nat.le_refl _) W D _ _ (by omega) hK rfl rfl)
    refine ⟨.tuple #[.slice none 0 0, .int .i64 k, .int .i64 10], by simp [results, Try.f17, go_sem, q0, q1, q2], none, 0, [], ?_, fun h => absurd h (by simp), ?_, by simp, by simp, hbel⟩
    · rw [hm.got]; rfl
    · rw [hm.got]; rfl
end Go.Proofs.Ytdbcmhcflndggaa
