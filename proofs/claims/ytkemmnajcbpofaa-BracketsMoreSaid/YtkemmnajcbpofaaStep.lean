/- The contracts of brackets.closing, brackets.bracket and walk.step. -/
import Derived.Test.YtkemmnajcbpofaaRows
import Derived.WalkKit
import Derived.WalkSpells
import Derived.WalkLawsBesides
import Derived.Deep.OwnRows
import Derived.Deep.LoopGhost
import Derived.Lib.Hide
import Derived.Deep.QuietTactic
import Derived.BigQuiet
import Derived.Deep.RegionHeld3
import Derived.Deep.RegionLaw
import Derived.Deep.AppendLies
namespace Go.Proofs.Ytkemmnajcbpofaa
open Go.RowKit

/-- The bracket that closes one; 0: none. -/
def closeOf (b : Int) : Int := if b = 40 then 41 else if b = 91 then 93 else if b = 123 then 125 else 0

set_option maxHeartbeats 400000 in
theorem closing_any (b : Int) (w : World) : Calls Try.prog 14 #[.int .u8 b] w fun e w' => e = .returned (.int .u8 (closeOf b)) ∧ w = w' := by
  by_cases h1 : b = 40
  · subst h1
    go_enter Try.func14, Try.ntmps14
    go_wp2
    go_ret
    exact ⟨rfl, rfl⟩
  · by_cases h2 : b = 91
    · subst h2
      go_enter Try.func14, Try.ntmps14
      go_wp2
      go_ret
      exact ⟨rfl, rfl⟩
    · by_cases h3 : b = 123
      · subst h3
        go_enter Try.func14, Try.ntmps14
        go_wp2
        go_ret
        exact ⟨rfl, rfl⟩
      · have e1 : (b == 40) = false := by simpa using h1
        have e2 : (b == 91) = false := by simpa using h2
        have e3 : (b == 123) = false := by simpa using h3
        have hc : closeOf b = 0 := by unfold closeOf; rw [if_neg h1, if_neg h2, if_neg h3]
        rw [hc]
        clear h1 h2 h3 hc
        go_enter Try.func14, Try.ntmps14
        go_wp2
        go_ret
        exact ⟨rfl, rfl⟩

/-- What a token's bracket is: 0 for a name. -/
def markOf (κ : Int) (b : Nat) : Int := if κ = 3 then 0 else b

set_option maxHeartbeats 400000 in
theorem bracket_any (s : ByteArray) (i : Nat) (hi : i < s.size) (hs : s.size ≤ 1000) (κ : Int) (hκ : κ = 3 ∨ κ = 7 ∨ κ = 8) (w : World) :
    Calls Try.prog 13 #[.string s, .agg #[.int .i64 κ, .int .i64 i, .int .i64 (i + 1)]] w fun e w' => e = .returned (.int .u8 (markOf κ (s[i]).toNat)) ∧ Below w.heap.size w w' := by
  rcases hκ with rfl | rfl | rfl
  all_goals
    go_enter Try.func13, Try.ntmps13
    go_wp2
    go_ret
    exact ⟨rfl, (Below.refl _ _).alloc (Nat.le_refl _) _⟩

/-- The walk's struct: the text, and the places of the open brackets (the last one first in 'st'). -/
def Wk (w : World) (P : Nat) (s : ByteArray) (v : Value) (st : List Nat) : Prop :=
  w.heap[P]? = some (.cells #[.string s, v] 42 (0, 0)) ∧ w.ownsRow (P + 1) 3 1 v st.length (st.reverse.map fun p : Nat => .int .i64 p)

theorem own_next {w w1 : World} {base : Nat} {e : TypeId} {size n : Nat} {v : Value} {xs : List Value} (h : w.ownsRow base e size v n xs) (hb : Below w.heap.size w w1) : w1.ownsRow base e size v n xs :=
  h.kept (row := none) ⟨hb.os, hb.tape, hb.output, hb.size, fun k hk _ => hb.block k hk⟩ (by cases hv : v.ownBlock <;> simp)

theorem Wk.lt {w : World} {P : Nat} {s : ByteArray} {v : Value} {st : List Nat} (h : Wk w P s v st) : P < w.heap.size := (Array.getElem?_eq_some_iff.1 h.1).1
theorem Wk.next {w w' : World} {P : Nat} {s : ByteArray} {v : Value} {st : List Nat} (h : Wk w P s v st) (hb : Below w.heap.size w w') : Wk w' P s v st :=
  ⟨(hb.block P h.lt).trans h.1, own_next h.2 hb⟩
theorem Wk.alloc {w : World} {P : Nat} {s : ByteArray} {v : Value} {st : List Nat} (h : Wk w P s v st) (o : Obj) : Wk (w.alloc o) P s v st :=
  h.next ((Below.refl _ _).alloc (Nat.le_refl _) o)
theorem Wk.drew {w : World} {P : Nat} {s : ByteArray} {v : Value} {st : List Nat} (h : Wk w P s v st) : Wk w.drew P s v st := h
theorem Wk.drewN {w : World} {P : Nat} {s : ByteArray} {v : Value} {st : List Nat} (h : Wk w P s v st) (k : Nat) : Wk (w.drewN k) P s v st := h
theorem Wk.text {w : World} {P : Nat} {s : ByteArray} {v : Value} {st : List Nat} (h : Wk w P s v st) : w.cell? ⟨P, 0, none⟩ = some (.string s) := cell_of_row w P 0 _ 42 (0, 0) h.1
theorem Wk.list {w : World} {P : Nat} {s : ByteArray} {v : Value} {st : List Nat} (h : Wk w P s v st) : w.cell? ⟨P, 1, none⟩ = some v := cell_of_row w P 1 _ 42 (0, 0) h.1
theorem Wk.free {w : World} {P : Nat} {s : ByteArray} {v : Value} {st : List Nat} (h : Wk w P s v st) (j : Nat) : w.frozen? ⟨P, j, none⟩ = false := frozen_of_row w P j _ 42 h.1

/-- The list is stored anew. -/
theorem Wk.stored {w : World} {P : Nat} {s : ByteArray} {v u : Value} {st : List Nat} (h : w.heap[P]? = some (.cells #[.string s, v] 42 (0, 0))) (ho : w.ownsRow (P + 1) 3 1 u st.length (st.reverse.map fun p : Nat => .int .i64 p)) :
    Wk (w.setCell ⟨P, 1, none⟩ u) P s u st := by
  refine ⟨heap_setCell_same w P 1 _ 42 u h, ho.kept (row := some P) ⟨rfl, rfl, rfl, by simp [World.setCell], fun k _ hk => Below.heap_setCell _ _ _ _ (fun e => hk (by rw [e]))⟩ ?_⟩
  refine .inr fun e => ?_
  have := (ho.lt P e).1
  omega

/-- Only block P, the list's own row and new blocks have turned. -/
def Only (P : Nat) (v : Value) (w w' : World) : Prop := Below P w w' ∧ ∀ k, k < w.heap.size → k ≠ P → some k ≠ v.ownBlock → w'.heap[k]? = w.heap[k]?
theorem Only.of_below {P : Nat} {v : Value} {w w' : World} (hP : P < w.heap.size) (h : Below w.heap.size w w') : Only P v w w' := ⟨h.mono (Nat.le_of_lt hP), fun k hk _ _ => h.block k hk⟩
theorem Only.stored {P : Nat} {v u : Value} {w w1 : World} (hP : P < w.heap.size) (h : Below w.heap.size w w1) : Only P v w (w1.setCell ⟨P, 1, none⟩ u) :=
  ⟨(h.mono (Nat.le_of_lt hP)).setCell (Nat.le_refl P) _, fun k hk hne _ => (Below.heap_setCell _ _ _ _ hne).trans (h.block k hk)⟩
theorem Only.grown {P : Nat} {v u : Value} {w w1 w2 : World} (hP : P < w.heap.size) (h : Below w.heap.size w w1) (hg : w1.grownBy w2 v.ownBlock) (hv : ∀ k, v.ownBlock = some k → P + 1 ≤ k) : Only P v w (w2.setCell ⟨P, 1, none⟩ u) :=
  ⟨((h.mono (Nat.le_of_lt hP)).grown hg (by have := h.size; omega) (fun k hk => by have := hv k hk; omega)).setCell (Nat.le_refl P) _,
    fun k hk hne ho => ((Below.heap_setCell _ _ _ _ hne).trans (hg.block k (Nat.lt_of_lt_of_le hk h.size) ho)).trans (h.block k hk)⟩

/-- In the midst of step: the struct, the token's box X; nothing below P has turned. -/
def Mid (w0 : World) (P X : Nat) (s : ByteArray) (v : Value) (st : List Nat) (κ : Int) (i : Nat) (w : World) : Prop :=
  Wk w P s v st ∧ w.heap[X]? = some (.cells #[.int .i64 κ, .int .i64 i, .int .i64 (i + 1)] 31 (0, 0)) ∧ Below w0.heap.size w0 w

section
variable {w0 w w' : World} {P X : Nat} {s : ByteArray} {v : Value} {st : List Nat} {κ : Int} {i : Nat}
theorem Mid.next (h : Mid w0 P X s v st κ i w) (hb : Below w.heap.size w w') : Mid w0 P X s v st κ i w' :=
  ⟨h.1.next hb, (hb.block X (Array.getElem?_eq_some_iff.1 h.2.1).1).trans h.2.1, h.2.2.trans (hb.mono h.2.2.size)⟩
theorem Mid.drew (h : Mid w0 P X s v st κ i w) : Mid w0 P X s v st κ i w.drew := ⟨h.1, h.2.1, h.2.2.drew⟩
theorem Mid.box (h : Mid w0 P X s v st κ i w) : w.cell? ⟨X, 0, none⟩ = some (.int .i64 κ) ∧ w.cell? ⟨X, 1, none⟩ = some (.int .i64 i) ∧ w.cell? ⟨X, 2, none⟩ = some (.int .i64 (i + 1)) :=
  ⟨cell_of_row w X 0 _ 31 (0, 0) h.2.1, cell_of_row w X 1 _ 31 (0, 0) h.2.1, cell_of_row w X 2 _ 31 (0, 0) h.2.1⟩
theorem bracket_mid (hi : i < s.size) (hs : s.size ≤ 1000) (hκ : κ = 3 ∨ κ = 7 ∨ κ = 8) (h : Mid w0 P X s v st κ i w) :
    Calls Try.prog 13 #[.string s, .agg #[.int .i64 κ, .int .i64 i, .int .i64 (i + 1)]] w fun e w' => e = .returned (.int .u8 (markOf κ (s[i]).toNat)) ∧
      w'.cell? ⟨P, 0, none⟩ = some (.string s) ∧ (w'.cell? ⟨X, 0, none⟩ = some (.int .i64 κ) ∧ w'.cell? ⟨X, 1, none⟩ = some (.int .i64 i) ∧ w'.cell? ⟨X, 2, none⟩ = some (.int .i64 (i + 1))) ∧ Mid w0 P X s v st κ i w' :=
  (bracket_any s i hi hs κ hκ w).mono fun _ _ ⟨he, hb⟩ => ⟨he, (h.next hb).1.text, (h.next hb).box, h.next hb⟩
end

set_option maxHeartbeats 400000 in
theorem step_name (s : ByteArray) (i : Nat) (hi : i < s.size) (hs : s.size ≤ 1000) (P : Nat) (v : Value) (st : List Nat) (w : World) (h : Wk w P s v st) :
    Calls Try.prog 12 #[.pointer (some ⟨P, 0, none⟩), .agg #[.int .i64 3, .int .i64 i, .int .i64 (i + 1)]] w fun e w' => e = .returned (.tuple #[.int .i64 (-1), .bool true]) ∧ Wk w' P s v st ∧ Only P v w w' := by
  have hlt := h.lt
  go_enter Try.func12, Try.ntmps12
  go_wp2_with fail
  have hm : Mid w P w.heap.size s v st 3 i (w.alloc (.cells #[.int .i64 3, .int .i64 i, .int .i64 (i + 1)] 31)) := ⟨h.alloc _, heap_alloc_new w _, (Below.refl _ _).alloc (Nat.le_refl _) _⟩
  have c0 := hm.1.text
  obtain ⟨b0, b1, b2⟩ := hm.box
  go_region_held3 (fun w' => w'.cell? ⟨P, 0, none⟩ = some (.string s) ∧ (w'.cell? ⟨w.heap.size, 0, none⟩ = some (.int .i64 3) ∧ w'.cell? ⟨w.heap.size, 1, none⟩ = some (.int .i64 i) ∧ w'.cell? ⟨w.heap.size, 2, none⟩ = some (.int .i64 (i + 1))) ∧ Mid w P w.heap.size s v st 3 i w')
    (first | exact ⟨c0, ⟨b0, b1, b2⟩, hm.drew⟩ | assumption | (refine ⟨?_, ⟨?_, ?_, ?_⟩, ?_⟩ <;> assumption))
    (first | (go_at_call 13; refine (bracket_mid (w0 := w) (P := P) (X := w.heap.size) (v := v) (st := st) (κ := 3) hi hs (.inl rfl) ?_).mono ?_; (first | assumption | exact hm.drew); rintro e w' ⟨rfl, e1, ⟨e2, e3, e4⟩, e5⟩))
  have hz : markOf 3 (s[i]).toNat = 0 := rfl
  rw [hz]
  go_wp2_with fail
  go_ret2
  exact ⟨rfl, e5.1, Only.of_below hlt e5.2.2⟩

theorem int_info : (Try.prog.info? 3).map (fun i => (i.zero, i.size, i.bytes)) = some (some (.int .i64 0), 1, 8) := by kernel_rfl

set_option maxHeartbeats 400000 in
theorem step_push (s : ByteArray) (i : Nat) (hi : i < s.size) (hs : s.size ≤ 1000) (P : Nat) (v : Value) (st : List Nat) (w : World) (h : Wk w P s v st) (hne : (markOf 7 (s[i]).toNat == 0) = false) (hst : st.length ≤ 1000) :
    Calls Try.prog 12 #[.pointer (some ⟨P, 0, none⟩), .agg #[.int .i64 7, .int .i64 i, .int .i64 (i + 1)]] w fun e w' => e = .returned (.tuple #[.int .i64 (-1), .bool true]) ∧ (∃ v', Wk w' P s v' (i :: st)) ∧ Only P v w w' := by
  have hlt := h.lt
  obtain ⟨i0, hi0, hz0, hz1, hz2⟩ := info_parts int_info
  go_enter Try.func12, Try.ntmps12
  go_wp2_with fail
  have hm : Mid w P w.heap.size s v st 7 i (w.alloc (.cells #[.int .i64 7, .int .i64 i, .int .i64 (i + 1)] 31)) := ⟨h.alloc _, heap_alloc_new w _, (Below.refl _ _).alloc (Nat.le_refl _) _⟩
  have c0 := hm.1.text
  obtain ⟨b0, b1, b2⟩ := hm.box
  go_region_held3 (fun w' => w'.cell? ⟨P, 0, none⟩ = some (.string s) ∧ (w'.cell? ⟨w.heap.size, 0, none⟩ = some (.int .i64 7) ∧ w'.cell? ⟨w.heap.size, 1, none⟩ = some (.int .i64 i) ∧ w'.cell? ⟨w.heap.size, 2, none⟩ = some (.int .i64 (i + 1))) ∧ Mid w P w.heap.size s v st 7 i w')
    (first | exact ⟨c0, ⟨b0, b1, b2⟩, hm.drew⟩ | assumption | (refine ⟨?_, ⟨?_, ?_, ?_⟩, ?_⟩ <;> assumption))
    (first | (go_at_call 13; refine (bracket_mid (w0 := w) (P := P) (X := w.heap.size) (v := v) (st := st) (κ := 7) hi hs (.inr (.inl rfl)) ?_).mono ?_; (first | assumption | exact hm.drew); rintro e w1 ⟨rfl, e1, ⟨e2, e3, e4⟩, e5⟩))
  have l1 := e5.1.list
  have f1 := e5.1.free 1
  have hX : w.heap.size < w1.heap.size := (Array.getElem?_eq_some_iff.1 e5.2.1).1
  have hown := e5.1.2
  have hfar : ∀ k, k < P + 1 → some k ≠ v.ownBlock := fun k hk e => by have := (hown.lt k e.symm).1; omega
  have hP1 : P < w1.heap.size := e5.1.lt
  have l3 : ((w1.alloc (.cells #[.int .i64 i] 3)).drew).cell? ⟨P, 1, none⟩ = some v := (World.cell?_alloc_lt w1 _ _ hP1).trans l1
  have f3 : ((w1.alloc (.cells #[.int .i64 i] 3)).drew).frozen? ⟨P, 1, none⟩ = false := by
    have := (h.free 1)
    exact (Below.frozen ((Below.refl _ _).alloc (Nat.le_refl _) _) (p := ⟨P, 1, none⟩) hP1).trans f1
  clear b0 b1 b2 c0 hm
  go_wp2_with fail
  go_region_law (refine step_append_lies _ (by rfl) _ _ _ (by rfl) (P + 1) 3 i0 _ 1 8 Try.underlying40 hi0 hz0 hz1 hz2 rfl (by omega) v st.length _ (by rfl) ((hown.alloc _).drew) ⟨w1.heap.size, 0, none⟩ 1 1 [.int .i64 i] (by rfl) (by rfl) (World.news_of_block (cs := #[.int .i64 i]) (t := 3) (fr := (0, 0)) (heap_alloc_new w1 _)) (by simp [Value.oneCell']) (by omega) (by simp only [maxLen]; omega) (by omega) (by simp; omega) (w1.heap.size + 1) (by simp) ?_; intro gg cap w2 hown2 hgrow hat hlt2; have l2 := (hgrow.cell_far ⟨P, 1, none⟩ (by simp; omega) (hfar P (by omega))).trans l3; have f2 := (hgrow.frozen_far ⟨P, 1, none⟩ (by simp; omega) (hfar P (by omega))).trans f3)
  all_goals
    go_wp2_with fail
    go_ret2
    refine ⟨rfl, ⟨_, Wk.stored (v := v) ?_ (by simpa using hown2)⟩, ?_⟩
    · rw [hgrow.block P (by simp; omega) (hfar P (by omega))]
      exact (Below.heap_alloc w1 _ P hP1).trans e5.1.1
    · exact Only.grown hlt ((e5.2.2.alloc e5.2.2.size _).drew) hgrow (fun k hk => (hown.lt k hk).1)


theorem closing_same (b : Int) (w : World) : Calls Try.prog 14 #[.int .u8 b] w fun e w' => e = .returned (.int .u8 (closeOf b)) ∧ w' = w :=
  (closing_any b w).mono fun _ _ ⟨h1, h2⟩ => ⟨h1, h2.symm⟩

set_option maxHeartbeats 400000 in
theorem step_none (s : ByteArray) (i : Nat) (hi : i < s.size) (hs : s.size ≤ 1000) (P : Nat) (v : Value) (w : World) (h : Wk w P s v []) (hne : (markOf 8 (s[i]).toNat == 0) = false) :
    Calls Try.prog 12 #[.pointer (some ⟨P, 0, none⟩), .agg #[.int .i64 8, .int .i64 i, .int .i64 (i + 1)]] w fun e w' => e = .returned (.tuple #[.int .i64 (-1), .bool false]) ∧ Wk w' P s v [] ∧ Only P v w w' := by
  have hlt := h.lt
  go_enter Try.func12, Try.ntmps12
  go_wp2_with fail
  have hm : Mid w P w.heap.size s v [] 8 i (w.alloc (.cells #[.int .i64 8, .int .i64 i, .int .i64 (i + 1)] 31)) := ⟨h.alloc _, heap_alloc_new w _, (Below.refl _ _).alloc (Nat.le_refl _) _⟩
  have c0 := hm.1.text
  obtain ⟨b0, b1, b2⟩ := hm.box
  go_region_held3 (fun w' => w'.cell? ⟨P, 0, none⟩ = some (.string s) ∧ (w'.cell? ⟨w.heap.size, 0, none⟩ = some (.int .i64 8) ∧ w'.cell? ⟨w.heap.size, 1, none⟩ = some (.int .i64 i) ∧ w'.cell? ⟨w.heap.size, 2, none⟩ = some (.int .i64 (i + 1))) ∧ Mid w P w.heap.size s v [] 8 i w')
    (first | exact ⟨c0, ⟨b0, b1, b2⟩, hm.drew⟩ | assumption | (refine ⟨?_, ⟨?_, ?_, ?_⟩, ?_⟩ <;> assumption))
    (first | (go_at_call 13; refine (bracket_mid (w0 := w) (P := P) (X := w.heap.size) (v := v) (st := []) (κ := 8) hi hs (.inr (.inr rfl)) ?_).mono ?_; (first | assumption | exact hm.drew); rintro e w1 ⟨rfl, e1, ⟨e2, e3, e4⟩, e5⟩))
  have l1 := e5.1.list
  obtain ⟨A, cap, rfl⟩ : ∃ A cap, v = .slice A 0 cap := by
    rcases h.2.2 with ⟨rfl, _⟩ | ⟨g, cap, cur, rfl, _⟩
    · exact ⟨_, _, rfl⟩
    · exact ⟨_, _, rfl⟩
  clear b0 b1 b2 c0 hm
  go_wp2_with fail
  go_quiet (fail)
  go_wp2_with fail
  go_ret2
  exact ⟨rfl, e5.1.drewN _, Only.of_below hlt (below_drewN e5.2.2 _)⟩

theorem Wk.top {w : World} {P : Nat} {s : ByteArray} {v : Value} {p : Nat} {r : List Nat} (h : Wk w P s v (p :: r)) :
    ∃ g cap, v = .slice (some ⟨g, 0, none⟩) (r.length + 1) cap ∧ r.length + 1 ≤ cap ∧ w.cell? ⟨g, r.length, none⟩ = some (.int .i64 p) ∧ w.ownsRow (P + 1) 3 1 (.slice (some ⟨g, 0, none⟩) r.length cap) r.length (r.reverse.map fun p : Nat => .int .i64 p) := by
  obtain ⟨h1, h2⟩ := h
  have hx : ((p :: r).reverse.map fun p : Nat => Value.int .i64 p) = (r.reverse.map fun p : Nat => Value.int .i64 p) ++ [.int .i64 p] := by simp
  rw [hx] at h2
  rcases h2.2 with ⟨_, h0⟩ | ⟨g, cap, cur, rfl, _, _, hn, _⟩
  · simp at h0
  · refine ⟨g, cap, rfl, hn, ?_, ?_⟩
    · rw [h2.cellAt r.length (by simp), List.getElem?_append_right (by simp)]
      simp
    · exact ownsRow_pop (by simp) h2

set_option maxHeartbeats 400000 in
theorem step_wrong (s : ByteArray) (i : Nat) (hi : i < s.size) (hs : s.size ≤ 1000) (P : Nat) (v : Value) (p : Nat) (r : List Nat) (w : World) (h : Wk w P s v (p :: r)) (hne : (markOf 8 (s[i]).toNat == 0) = false) (hp : p < s.size)
    (hr : r.length ≤ 1000) (hw : (closeOf (s[p]).toNat != markOf 8 (s[i]).toNat) = true) :
    Calls Try.prog 12 #[.pointer (some ⟨P, 0, none⟩), .agg #[.int .i64 8, .int .i64 i, .int .i64 (i + 1)]] w fun e w' => e = .returned (.tuple #[.int .i64 (-1), .bool false]) ∧ Wk w' P s v (p :: r) ∧ Only P v w w' := by
  have hlt := h.lt
  go_enter Try.func12, Try.ntmps12
  go_wp2_with fail
  have hm : Mid w P w.heap.size s v (p :: r) 8 i (w.alloc (.cells #[.int .i64 8, .int .i64 i, .int .i64 (i + 1)] 31)) := ⟨h.alloc _, heap_alloc_new w _, (Below.refl _ _).alloc (Nat.le_refl _) _⟩
  have c0 := hm.1.text
  obtain ⟨b0, b1, b2⟩ := hm.box
  go_region_held3 (fun w' => w'.cell? ⟨P, 0, none⟩ = some (.string s) ∧ (w'.cell? ⟨w.heap.size, 0, none⟩ = some (.int .i64 8) ∧ w'.cell? ⟨w.heap.size, 1, none⟩ = some (.int .i64 i) ∧ w'.cell? ⟨w.heap.size, 2, none⟩ = some (.int .i64 (i + 1))) ∧ Mid w P w.heap.size s v (p :: r) 8 i w')
    (first | exact ⟨c0, ⟨b0, b1, b2⟩, hm.drew⟩ | assumption | (refine ⟨?_, ⟨?_, ?_, ?_⟩, ?_⟩ <;> assumption))
    (first | (go_at_call 13; refine (bracket_mid (w0 := w) (P := P) (X := w.heap.size) (v := v) (st := p :: r) (κ := 8) hi hs (.inr (.inr rfl)) ?_).mono ?_; (first | assumption | exact hm.drew); rintro e w1 ⟨rfl, e1, ⟨e2, e3, e4⟩, e5⟩))
  obtain ⟨g, cap, hv, hcap, htop, _⟩ := e5.1.top
  have l1 := e5.1.list
  subst hv
  clear b0 b1 b2 c0 hm
  have z1 : (((r.length : Int) + 1) == 0) = false := by rw [beq_eq_false_iff_ne]; omega
  have z2 : ((r.length : Int) + 1 - 1) = (r.length : Int) := by omega
  have z3 : (0 : Int) ≤ (r.length : Int) := by omega
  have z4 : (r.length : Int) < (r.length : Int) + 1 := by omega
  have z5 : IntKind.i64.wrap ((r.length : Int) + 1 - 1) = (r.length : Int) := by rw [IntKind.wrap_i64]; omega
  have z6 : (0 : Int) ≤ (p : Int) := by omega
  have z7 : (p : Int) < (s.size : Int) := by omega
  go_wp2_with fail
  go_quiet ((go_at_call 14; exact Calls.quiet_of_same (closing_same _ _)))
  go_wp2_with fail
  go_ret2
  exact ⟨rfl, e5.1.drewN _, Only.of_below hlt (below_drewN e5.2.2 _)⟩

set_option maxHeartbeats 400000 in
theorem step_pop (s : ByteArray) (i : Nat) (hi : i < s.size) (hs : s.size ≤ 1000) (P : Nat) (v : Value) (p : Nat) (r : List Nat) (w : World) (h : Wk w P s v (p :: r)) (hne : (markOf 8 (s[i]).toNat == 0) = false) (hp : p < s.size)
    (hr : r.length ≤ 1000) (hw : (closeOf (s[p]).toNat != markOf 8 (s[i]).toNat) = false) :
    Calls Try.prog 12 #[.pointer (some ⟨P, 0, none⟩), .agg #[.int .i64 8, .int .i64 i, .int .i64 (i + 1)]] w fun e w' => e = .returned (.tuple #[.int .i64 p, .bool true]) ∧ (∃ v', Wk w' P s v' r) ∧ Only P v w w' := by
  have hlt := h.lt
  go_enter Try.func12, Try.ntmps12
  go_wp2_with fail
  have hm : Mid w P w.heap.size s v (p :: r) 8 i (w.alloc (.cells #[.int .i64 8, .int .i64 i, .int .i64 (i + 1)] 31)) := ⟨h.alloc _, heap_alloc_new w _, (Below.refl _ _).alloc (Nat.le_refl _) _⟩
  have c0 := hm.1.text
  obtain ⟨b0, b1, b2⟩ := hm.box
  go_region_held3 (fun w' => w'.cell? ⟨P, 0, none⟩ = some (.string s) ∧ (w'.cell? ⟨w.heap.size, 0, none⟩ = some (.int .i64 8) ∧ w'.cell? ⟨w.heap.size, 1, none⟩ = some (.int .i64 i) ∧ w'.cell? ⟨w.heap.size, 2, none⟩ = some (.int .i64 (i + 1))) ∧ Mid w P w.heap.size s v (p :: r) 8 i w')
    (first | exact ⟨c0, ⟨b0, b1, b2⟩, hm.drew⟩ | assumption | (refine ⟨?_, ⟨?_, ?_, ?_⟩, ?_⟩ <;> assumption))
    (first | (go_at_call 13; refine (bracket_mid (w0 := w) (P := P) (X := w.heap.size) (v := v) (st := p :: r) (κ := 8) hi hs (.inr (.inr rfl)) ?_).mono ?_; (first | assumption | exact hm.drew); rintro e w1 ⟨rfl, e1, ⟨e2, e3, e4⟩, e5⟩))
  obtain ⟨g, cap, hv, hcap, htop, hpop⟩ := e5.1.top
  have l1 := e5.1.list
  have l0 := e5.1.free 1
  subst hv
  clear b0 b1 b2 c0 hm
  have z1 : (((r.length : Int) + 1) == 0) = false := by rw [beq_eq_false_iff_ne]; omega
  have z2 : ((r.length : Int) + 1 - 1) = (r.length : Int) := by omega
  have z3 : (0 : Int) ≤ (r.length : Int) := by omega
  have z4 : (r.length : Int) < (r.length : Int) + 1 := by omega
  have z5 : IntKind.i64.wrap ((r.length : Int) + 1 - 1) = (r.length : Int) := by rw [IntKind.wrap_i64]; omega
  have z6 : (0 : Int) ≤ (p : Int) := by omega
  have z7 : (p : Int) < (s.size : Int) := by omega
  go_wp2_with fail
  go_quiet ((go_at_call 14; exact Calls.quiet_of_same (closing_same _ _)))
  go_wp2_with fail
  go_ret2
  have hb := below_drewN e5.2.2 nq
  exact ⟨rfl, ⟨_, Wk.stored (w := w1.drewN nq) e5.1.1 hpop⟩, Only.stored hlt hb⟩

end Go.Proofs.Ytkemmnajcbpofaa
