/- The contracts of vi.second and vi.Map. -/
import Derived.Test.YtpjlpbammgoieaaFew
import Derived.Deep.Cut
import Derived.Deep.CutRange
import Derived.Deep.CutBlock
import Derived.Deep.DeepCutAuto
namespace Go.Proofs.Ytpjlpbammgoieaa
open Go.RowKit

/-- What a key does behind a letter that waited. -/
def secF (op k r n : Int) : Option CmdD :=
  if op = 114 then (if k = 1 then some ⟨24, 0, 1, putF r, false⟩ else some (cmd 1 0 1))
  else if op = 103 then (if k = 1 ∧ r = 103 then some (cmd 3 12 1) else some (cmd 1 0 1))
  else if k = 1 ∧ r = op then none
  else if (wayF k r).2.2 then overF op (wayF k r).1 (wayF k r).2.1 n
  else some (cmd 1 0 1)

theorem Out.below {o : Option CmdD} {w w0 w' : World} {e : Ending} (h : Out o w e w') (h0 : Below w0.heap.size w0 w) : Out o w0 e w' := by
  cases o with
  | none =>
    obtain ⟨A, m, c, rfl, hm, hb⟩ := h
    exact ⟨_, _, _, rfl, hm, h0.trans (hb.mono h0.size)⟩
  | some c =>
    obtain ⟨v, rfl, hl, hb⟩ := h
    exact ⟨v, rfl, hl, h0.trans (hb.mono h0.size)⟩
theorem Out.value {o : Option CmdD} {w w' : World} {e : Ending} (h : Out o w e w') : ∃ v, e = .returned v := by
  cases o with
  | none => obtain ⟨A, m, c, rfl, _⟩ := h; exact ⟨_, rfl⟩
  | some c => obtain ⟨v, rfl, _⟩ := h; exact ⟨_, rfl⟩

/-- A state's box and a key's. -/
structure Two (w0 : World) (n op k r : Int) (x : ByteArray) (w : World) : Prop where
  s : w.heap[w0.heap.size]? = some (.cells #[.int .i64 n, .int .i32 op] 23 (0, 0))
  k : w.heap[w0.heap.size + 1]? = some (.cells #[.int .i64 k, .int .i32 r, .string x] 25 (0, 0))
  old : Below w0.heap.size w0 w
theorem Two.next {w0 w w' : World} {n op k r : Int} {x : ByteArray} (H : Two w0 n op k r x w) (hb : Below w.heap.size w w') : Two w0 n op k r x w' :=
  ⟨(hb.block _ (Array.getElem?_eq_some_iff.1 H.s).1).trans H.s, (hb.block _ (Array.getElem?_eq_some_iff.1 H.k).1).trans H.k, H.old.trans (hb.mono H.old.size)⟩
theorem Two.cells {w0 w : World} {n op k r : Int} {x : ByteArray} (H : Two w0 n op k r x w) :
    (w.cell? ⟨w0.heap.size, 0, none⟩ = some (.int .i64 n) ∧ w.cell? ⟨w0.heap.size, 1, none⟩ = some (.int .i32 op)) ∧
    (w.cell? ⟨w0.heap.size + 1, 0, none⟩ = some (.int .i64 k) ∧ w.cell? ⟨w0.heap.size + 1, 1, none⟩ = some (.int .i32 r) ∧ w.cell? ⟨w0.heap.size + 1, 2, none⟩ = some (.string x)) ∧ w0.heap.size < w.heap.size ∧ w0.heap.size + 1 < w.heap.size :=
  ⟨⟨cell_of_row w _ 0 _ 23 (0, 0) H.s, cell_of_row w _ 1 _ 23 (0, 0) H.s⟩, ⟨cell_of_row w _ 0 _ 25 (0, 0) H.k, cell_of_row w _ 1 _ 25 (0, 0) H.k, cell_of_row w _ 2 _ 25 (0, 0) H.k⟩, (Array.getElem?_eq_some_iff.1 H.s).1, (Array.getElem?_eq_some_iff.1 H.k).1⟩
theorem two_start (w : World) (n op k r : Int) (x : ByteArray) : Two w n op k r x ((w.alloc (.cells #[.int .i64 n, .int .i32 op] 23)).alloc (.cells #[.int .i64 k, .int .i32 r, .string x] 25)) :=
  ⟨(Below.heap_alloc _ _ _ (by simp)).trans (heap_alloc_new w _), two_new _ _ _, ((Below.refl _ _).alloc (Nat.le_refl _) _).alloc (by simp) _⟩

section
variable (sn k r n : Int) (x : ByteArray) (w : World)

set_option maxHeartbeats 2000000 in
theorem second_r : Calls Try.prog 9 #[.agg #[.int .i64 sn, .int .i32 114], .agg #[.int .i64 k, .int .i32 r, .string x], .int .i64 n] w (Out (secF 114 k r n) w) := by
  have H0 := two_start w sn 114 k r x
  by_cases h1 : k = 1
  · subst h1
    go_enter Try.func9, Try.ntmps9
    go_wp2_with fail
    refine (way_any 1 r x _).mono ?_
    rintro e w1 ⟨rfl, hb⟩
    have H1 := H0.next hb
    clear hb H0
    obtain ⟨⟨s0, s1⟩, ⟨k0, k1, k2⟩, ls, lk⟩ := H1.cells
    go_wp2_with fail
    refine (put_any r _).mono ?_
    rintro e w2 ⟨rfl, rfl⟩
    go_wp2_with fail
    go_ret
    exact ⟨_, rfl, ⟨w1.heap.size, rfl, heap_alloc_new w1 _⟩, H1.old.alloc H1.old.size _⟩
  · have hs : secF 114 k r n = some (cmd 1 0 1) := by unfold secF; rw [if_pos rfl, if_neg h1]
    rw [hs]
    have e1 : (k == 1) = false := by rw [beq_eq_false_iff_ne]; omega
    clear hs h1
    go_enter Try.func9, Try.ntmps9
    go_wp2_with fail
    refine (way_any k r x _).mono ?_
    rintro e w1 ⟨rfl, hb⟩
    have H1 := H0.next hb
    clear hb H0
    obtain ⟨⟨s0, s1⟩, ⟨k0, k1, k2⟩, ls, lk⟩ := H1.cells
    go_wp2_with fail
    refine (vone_any _ _ _ _).mono ?_
    rintro e w2 ⟨v, rfl, hl, hb⟩
    go_wp2_with fail
    go_ret
    exact ⟨v, rfl, hl, H1.old.trans (hb.mono H1.old.size)⟩

set_option maxHeartbeats 2000000 in
theorem second_g : Calls Try.prog 9 #[.agg #[.int .i64 sn, .int .i32 103], .agg #[.int .i64 k, .int .i32 r, .string x], .int .i64 n] w (Out (secF 103 k r n) w) := by
  have H0 := two_start w sn 103 k r x
  by_cases h : k = 1 ∧ r = 103
  · obtain ⟨rfl, rfl⟩ := h
    go_enter Try.func9, Try.ntmps9
    go_wp2_with fail
    refine (way_any 1 103 x _).mono ?_
    rintro e w1 ⟨rfl, hb⟩
    have H1 := H0.next hb
    clear hb H0
    obtain ⟨⟨s0, s1⟩, ⟨k0, k1, k2⟩, ls, lk⟩ := H1.cells
    go_wp2_with fail
    refine (vone_any _ _ _ _).mono ?_
    rintro e w2 ⟨v, rfl, hl, hb⟩
    go_wp2_with fail
    go_ret
    exact ⟨v, rfl, hl, H1.old.trans (hb.mono H1.old.size)⟩
  · have hs : secF 103 k r n = some (cmd 1 0 1) := by unfold secF; rw [if_neg (by omega), if_pos rfl, if_neg h]
    rw [hs]
    by_cases h1 : k = 1
    · subst h1
      have e1 : (r == 103) = false := by rw [beq_eq_false_iff_ne]; omega
      clear hs h
      go_enter Try.func9, Try.ntmps9
      go_wp2_with fail
      refine (way_any 1 r x _).mono ?_
      rintro e w1 ⟨rfl, hb⟩
      have H1 := H0.next hb
      clear hb H0
      obtain ⟨⟨s0, s1⟩, ⟨k0, k1, k2⟩, ls, lk⟩ := H1.cells
      go_wp2_with fail
      refine (vone_any _ _ _ _).mono ?_
      rintro e w2 ⟨v, rfl, hl, hb⟩
      go_wp2_with fail
      go_ret
      exact ⟨v, rfl, hl, H1.old.trans (hb.mono H1.old.size)⟩
    · have e1 : (k == 1) = false := by rw [beq_eq_false_iff_ne]; omega
      clear hs h h1
      go_enter Try.func9, Try.ntmps9
      go_wp2_with fail
      refine (way_any k r x _).mono ?_
      rintro e w1 ⟨rfl, hb⟩
      have H1 := H0.next hb
      clear hb H0
      obtain ⟨⟨s0, s1⟩, ⟨k0, k1, k2⟩, ls, lk⟩ := H1.cells
      go_wp2_with fail
      refine (vone_any _ _ _ _).mono ?_
      rintro e w2 ⟨v, rfl, hl, hb⟩
      go_wp2_with fail
      go_ret
      exact ⟨v, rfl, hl, H1.old.trans (hb.mono H1.old.size)⟩

set_option maxHeartbeats 2000000 in
theorem second_same (op : Int) (ho1 : (op == 114) = false) (ho2 : (op == 103) = false) : Calls Try.prog 9 #[.agg #[.int .i64 sn, .int .i32 op], .agg #[.int .i64 1, .int .i32 op, .string x], .int .i64 n] w (Few w) := by
  have H0 := two_start w sn op 1 op x
  go_enter Try.func9, Try.ntmps9
  go_wp2_with fail
  refine (way_any 1 op x _).mono ?_
  rintro e w1 ⟨rfl, hb⟩
  have H1 := H0.next hb
  clear hb H0
  obtain ⟨⟨s0, s1⟩, ⟨k0, k1, k2⟩, ls, lk⟩ := H1.cells
  go_wp2_with fail
  refine (lines_any _ _ _).mono ?_
  rintro e w2 ⟨A, m, c, rfl, hm, hb⟩
  go_wp2_with fail
  go_ret
  exact ⟨_, _, _, rfl, hm, H1.old.trans (hb.mono H1.old.size)⟩

set_option maxHeartbeats 2000000 in
theorem second_way (op : Int) (ho1 : (op == 114) = false) (ho2 : (op == 103) = false) (hn : ¬(k = 1 ∧ r = op)) (wx : Int) (wi wo : Bool) (hw : wayF k r = (wx, wi, wo)) :
    Calls Try.prog 9 #[.agg #[.int .i64 sn, .int .i32 op], .agg #[.int .i64 k, .int .i32 r, .string x], .int .i64 n] w (Out (if wo then overF op wx wi n else some (cmd 1 0 1)) w) := by
  have H0 := two_start w sn op k r x
  have HW := Lib.hid hw
  have hc : (k == 1) = false ∨ (k = 1 ∧ (r == op) = false) := by
    by_cases h1 : k = 1
    · exact .inr ⟨h1, by rw [beq_eq_false_iff_ne]; exact fun h => hn ⟨h1, h⟩⟩
    · exact .inl (by rw [beq_eq_false_iff_ne]; omega)
  clear hw hn
  cases wo
  · rcases hc with hc | ⟨rfl, hc⟩
    all_goals
      go_enter Try.func9, Try.ntmps9
      go_wp2_with fail
      refine (way_any _ r x _).mono ?_
      rw [HW.out]
      rintro e w1 ⟨rfl, hb⟩
      have H1 := H0.next hb
      clear hb H0
      obtain ⟨⟨s0, s1⟩, ⟨k0, k1, k2⟩, ls, lk⟩ := H1.cells
      go_wp2_with fail
      refine (vone_any _ _ _ _).mono ?_
      rintro e w2 ⟨v, rfl, hl, hb⟩
      go_wp2_with fail
      go_ret
      exact ⟨v, rfl, hl, H1.old.trans (hb.mono H1.old.size)⟩
  · rcases hc with hc | ⟨rfl, hc⟩
    all_goals
      go_enter Try.func9, Try.ntmps9
      go_wp2_with fail
      refine (way_any _ r x _).mono ?_
      rw [HW.out]
      rintro e w1 ⟨rfl, hb⟩
      have H1 := H0.next hb
      clear hb H0
      obtain ⟨⟨s0, s1⟩, ⟨k0, k1, k2⟩, ls, lk⟩ := H1.cells
      go_wp2_with fail
      refine (over_any _ _ _ _ _).mono ?_
      intro e w2 ho
      obtain ⟨v, rfl⟩ := ho.value
      go_wp2_with fail
      go_ret
      exact ho.below H1.old

theorem second_any (op : Int) (ho : op = 100 ∨ op = 99 ∨ op = 121 ∨ op = 114 ∨ op = 103) :
    Calls Try.prog 9 #[.agg #[.int .i64 sn, .int .i32 op], .agg #[.int .i64 k, .int .i32 r, .string x], .int .i64 n] w (Out (secF op k r n) w) := by
  by_cases hr : op = 114
  · subst hr; exact second_r sn k r n x w
  by_cases hg : op = 103
  · subst hg; exact second_g sn k r n x w
  have e1 : (op == 114) = false := by rw [beq_eq_false_iff_ne]; omega
  have e2 : (op == 103) = false := by rw [beq_eq_false_iff_ne]; omega
  unfold secF
  rw [if_neg hr, if_neg hg]
  by_cases hs : k = 1 ∧ r = op
  · rw [if_pos hs]
    obtain ⟨rfl, rfl⟩ := hs
    exact second_same sn n x w r e1 e2
  · rw [if_neg hs]
    exact second_way sn k r n x w op e1 e2 hs _ _ _ rfl
end

end Go.Proofs.Ytpjlpbammgoieaa
