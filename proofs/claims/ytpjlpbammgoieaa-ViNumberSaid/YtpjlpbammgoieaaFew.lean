/- The contracts of the small functions of package vi (printed by wip/tools/gen_vi.py). -/
import Derived.Test.YtpjlpbammgoieaaEMap
import Derived.ArgAppend
import Derived.OwnWalk
namespace Go.Proofs.Ytpjlpbammgoieaa
open Go.RowKit

/-- A motion's rune: which motion, whether the end counts, whether it is one. -/
def wayR (r : Int) : Int × Bool × Bool :=
  if r = 104 then (0, false, true) else if r = 108 then (1, false, true) else if r = 32 then (1, false, true) else if r = 119 then (8, false, true)
  else if r = 98 then (9, false, true) else if r = 101 then (10, true, true) else if r = 48 then (2, false, true) else if r = 94 then (11, false, true)
  else if r = 36 then (3, false, true) else if r = 71 then (13, false, true) else (0, false, false)
def wayF (k r : Int) : Int × Bool × Bool :=
  if k = 10 ∨ k = 4 then wayR 104 else if k = 11 then wayR 108 else if k = 12 then wayR 48 else if k = 13 then wayR 36 else if k = 1 then wayR r else (0, false, false)
def letterF (k m r : Int) : Int := if k = 1 ∧ m = 2 ∧ (r = 100 ∨ r = 99 ∨ r = 121 ∨ r = 114) then r else if k = 1 ∧ r = 103 then 103 else 0
/-- What is done with a motion; of 'c' no more is said than how many. -/
def overF (op which : Int) (incl : Bool) (n : Int) : Option CmdD :=
  if op = 100 then some ⟨5, which, n, ⟨#[]⟩, incl⟩ else if op = 99 then none else if op = 121 then some ⟨6, which, n, ⟨#[]⟩, incl⟩ else some (cmd 3 which n)

/-- Three commands at most. -/
def Few (w : World) (e : Ending) (w' : World) : Prop := ∃ A m c, e = .returned (.slice A m c) ∧ m ≤ 3 ∧ Below w.heap.size w w'
/-- One command that is known, or three at most. -/
def Out : Option CmdD → World → Ending → World → Prop
  | none => Few
  | some c => Gives 34 c
theorem Gives.few {c : CmdD} {w w' : World} {e : Ending} (h : Gives 34 c w e w') : Few w e w' := by
  obtain ⟨v, rfl, ⟨g, rfl, _⟩, hb⟩ := h
  exact ⟨_, _, _, rfl, by omega, hb⟩

set_option maxHeartbeats 400000 in
theorem vone_any (k y n : Int) (w : World) : Calls Try.prog 16 #[.int .i64 k, .int .i64 y, .int .i64 n] w (Gives 34 (cmd k y n) w) := by
  go_enter Try.func16, Try.ntmps16
  go_wp2
  go_ret
  exact gives_new 34 k y n w

def GivesW (x : Int × Bool × Bool) (w : World) (e : Ending) (w' : World) : Prop := e = .returned (.tuple #[.int .i64 x.1, .bool x.2.1, .bool x.2.2]) ∧ Below w.heap.size w w'
set_option maxHeartbeats 4000000 in
theorem way_any (k r : Int) (x : ByteArray) (w : World) : Calls Try.prog 11 #[.agg #[.int .i64 k, .int .i32 r, .string x]] w (GivesW (wayF k r) w) := by
  by_cases hk : k = 10 ∨ k = 4 ∨ k = 11 ∨ k = 12 ∨ k = 13
  · rcases hk with rfl | rfl | rfl | rfl | rfl
    all_goals
      go_enter Try.func11, Try.ntmps11
      go_wp2_with fail
      go_ret3
      exact ⟨rfl, (Below.refl _ _).alloc (Nat.le_refl _) _⟩
  · have e10 : (k == 10) = false := by rw [beq_eq_false_iff_ne]; omega
    have e4 : (k == 4) = false := by rw [beq_eq_false_iff_ne]; omega
    have e11 : (k == 11) = false := by rw [beq_eq_false_iff_ne]; omega
    have e12 : (k == 12) = false := by rw [beq_eq_false_iff_ne]; omega
    have e13 : (k == 13) = false := by rw [beq_eq_false_iff_ne]; omega
    by_cases h1 : k = 1
    · subst h1
      clear e10 e4 e11 e12 e13 hk
      by_cases hr : r = 104 ∨ r = 108 ∨ r = 32 ∨ r = 119 ∨ r = 98 ∨ r = 101 ∨ r = 48 ∨ r = 94 ∨ r = 36 ∨ r = 71
      · rcases hr with rfl | rfl | rfl | rfl | rfl | rfl | rfl | rfl | rfl | rfl
        all_goals
          go_enter Try.func11, Try.ntmps11
          go_wp2_with fail
          go_ret3
          exact ⟨rfl, (Below.refl _ _).alloc (Nat.le_refl _) _⟩
      · have hw : wayF 1 r = (0, false, false) := by
          unfold wayF wayR
          rw [if_neg (by omega), if_neg (by omega), if_neg (by omega), if_neg (by omega), if_pos rfl]
          repeat rw [if_neg (by omega)]
        rw [hw]
        have e104 : (r == 104) = false := by rw [beq_eq_false_iff_ne]; omega
        have e108 : (r == 108) = false := by rw [beq_eq_false_iff_ne]; omega
        have e32 : (r == 32) = false := by rw [beq_eq_false_iff_ne]; omega
        have e119 : (r == 119) = false := by rw [beq_eq_false_iff_ne]; omega
        have e98 : (r == 98) = false := by rw [beq_eq_false_iff_ne]; omega
        have e101 : (r == 101) = false := by rw [beq_eq_false_iff_ne]; omega
        have e48 : (r == 48) = false := by rw [beq_eq_false_iff_ne]; omega
        have e94 : (r == 94) = false := by rw [beq_eq_false_iff_ne]; omega
        have e36 : (r == 36) = false := by rw [beq_eq_false_iff_ne]; omega
        have e71 : (r == 71) = false := by rw [beq_eq_false_iff_ne]; omega
        clear hw hr
        go_enter Try.func11, Try.ntmps11
        go_wp2_with fail
        go_ret3
        exact ⟨rfl, (Below.refl _ _).alloc (Nat.le_refl _) _⟩
    · have hw : wayF k r = (0, false, false) := by
        unfold wayF
        repeat rw [if_neg (by omega)]
      rw [hw]
      have e1 : (k == 1) = false := by rw [beq_eq_false_iff_ne]; omega
      clear hw h1 hk
      go_enter Try.func11, Try.ntmps11
      go_wp2_with fail
      go_ret3
      exact ⟨rfl, (Below.refl _ _).alloc (Nat.le_refl _) _⟩

set_option maxHeartbeats 4000000 in
theorem letter_any (k r m : Int) (x : ByteArray) (w : World) : Calls Try.prog 10 #[.agg #[.int .i64 k, .int .i32 r, .string x], .int .i64 m] w fun e w' => e = .returned (.int .i32 (letterF k m r)) ∧ Below w.heap.size w w' := by
  by_cases hk : k = 1
  · subst hk
    by_cases hr : r = 100 ∨ r = 99 ∨ r = 121 ∨ r = 114 ∨ r = 103
    · by_cases hm : m = 2
      · subst hm
        rcases hr with rfl | rfl | rfl | rfl | rfl
        all_goals
          go_enter Try.func10, Try.ntmps10
          go_wp2_with fail
          go_ret
          exact ⟨rfl, (Below.refl _ _).alloc (Nat.le_refl _) _⟩
      · have em : (m == 2) = false := by rw [beq_eq_false_iff_ne]; omega
        by_cases h103 : r = 103
        · subst h103
          have hw : letterF 1 m 103 = 103 := by unfold letterF; rw [if_neg (by omega), if_pos (by omega)]
          rw [hw]
          clear hw hm hr
          go_enter Try.func10, Try.ntmps10
          go_wp2_with fail
          go_ret
          exact ⟨rfl, (Below.refl _ _).alloc (Nat.le_refl _) _⟩
        · have hw : letterF 1 m r = 0 := by unfold letterF; rw [if_neg (by omega), if_neg (by omega)]
          rw [hw]
          have e103 : (r == 103) = false := by rw [beq_eq_false_iff_ne]; omega
          clear hw hm hr h103
          go_enter Try.func10, Try.ntmps10
          go_wp2_with fail
          go_ret
          exact ⟨rfl, (Below.refl _ _).alloc (Nat.le_refl _) _⟩
    · have hw : letterF 1 m r = 0 := by unfold letterF; rw [if_neg (by omega), if_neg (by omega)]
      rw [hw]
      have e100 : (r == 100) = false := by rw [beq_eq_false_iff_ne]; omega
      have e99 : (r == 99) = false := by rw [beq_eq_false_iff_ne]; omega
      have e121 : (r == 121) = false := by rw [beq_eq_false_iff_ne]; omega
      have e114 : (r == 114) = false := by rw [beq_eq_false_iff_ne]; omega
      have e103 : (r == 103) = false := by rw [beq_eq_false_iff_ne]; omega
      by_cases hm : m = 2
      · subst hm
        clear hw hr
        go_enter Try.func10, Try.ntmps10
        go_wp2_with fail
        go_ret
        exact ⟨rfl, (Below.refl _ _).alloc (Nat.le_refl _) _⟩
      · have em : (m == 2) = false := by rw [beq_eq_false_iff_ne]; omega
        clear hw hr hm
        go_enter Try.func10, Try.ntmps10
        go_wp2_with fail
        go_ret
        exact ⟨rfl, (Below.refl _ _).alloc (Nat.le_refl _) _⟩
  · have hw : letterF k m r = 0 := by unfold letterF; rw [if_neg (by omega), if_neg (by omega)]
    rw [hw]
    have ek : (k == 1) = false := by rw [beq_eq_false_iff_ne]; omega
    clear hw hk
    go_enter Try.func10, Try.ntmps10
    go_wp2_with fail
    go_ret
    exact ⟨rfl, (Below.refl _ _).alloc (Nat.le_refl _) _⟩

set_option maxHeartbeats 4000000 in
theorem over_any (op which n : Int) (incl : Bool) (w : World) : Calls Try.prog 12 #[.int .i32 op, .int .i64 which, .bool incl, .int .i64 n] w (Out (overF op which incl n) w) := by
  by_cases ho : op = 100 ∨ op = 121
  · rcases ho with rfl | rfl
    all_goals
      go_enter Try.func12, Try.ntmps12
      go_wp2_with fail
      go_ret
      exact ⟨_, rfl, ⟨w.heap.size + 1, rfl, two_new _ _ _⟩, ((Below.refl _ _).alloc (Nat.le_refl _) _).alloc (by simp) _⟩
  · by_cases hc : op = 99
    · subst hc
      go_enter Try.func12, Try.ntmps12
      go_wp2_with fail
      go_ret
      exact ⟨_, _, _, rfl, by omega, ((Below.refl _ _).alloc (Nat.le_refl _) _).alloc (by simp) _⟩
    · have hw : overF op which incl n = some (cmd 3 which n) := by unfold overF; rw [if_neg (by omega), if_neg (by omega), if_neg (by omega)]
      rw [hw]
      have e100 : (op == 100) = false := by rw [beq_eq_false_iff_ne]; omega
      have e121 : (op == 121) = false := by rw [beq_eq_false_iff_ne]; omega
      have e99 : (op == 99) = false := by rw [beq_eq_false_iff_ne]; omega
      clear hw ho hc
      go_enter Try.func12, Try.ntmps12
      go_wp2_with fail
      go_ret
      exact ⟨_, rfl, ⟨w.heap.size + 1, rfl, two_new _ _ _⟩, ((Below.refl _ _).alloc (Nat.le_refl _) _).alloc (by simp) _⟩

set_option maxHeartbeats 4000000 in
theorem marked_any (r : Int) (w : World) : Calls Try.prog 13 #[.int .i32 r] w (Few w) := by
  by_cases hr : r = 100 ∨ r = 120 ∨ r = 99 ∨ r = 121 ∨ r = 118 ∨ r = 106 ∨ r = 107
  · rcases hr with rfl | rfl | rfl | rfl | rfl | rfl | rfl
    all_goals
      go_enter Try.func13, Try.ntmps13
      go_wp2_with fail
      refine (vone_any _ _ _ _).mono ?_
      rintro e w1 ⟨v, rfl, ⟨g, rfl, _⟩, hb⟩
      go_wp2_with fail
      go_ret
      exact ⟨_, _, _, rfl, by omega, hb⟩
  · skip
    have e100 : (r == 100) = false := by rw [beq_eq_false_iff_ne]; omega
    have e120 : (r == 120) = false := by rw [beq_eq_false_iff_ne]; omega
    have e99 : (r == 99) = false := by rw [beq_eq_false_iff_ne]; omega
    have e121 : (r == 121) = false := by rw [beq_eq_false_iff_ne]; omega
    have e118 : (r == 118) = false := by rw [beq_eq_false_iff_ne]; omega
    have e106 : (r == 106) = false := by rw [beq_eq_false_iff_ne]; omega
    have e107 : (r == 107) = false := by rw [beq_eq_false_iff_ne]; omega
    clear hr
    go_enter Try.func13, Try.ntmps13
    go_wp2_with fail
    refine (vone_any _ _ _ _).mono ?_
    rintro e w1 ⟨v, rfl, ⟨g, rfl, _⟩, hb⟩
    go_wp2_with fail
    go_ret
    exact ⟨_, _, _, rfl, by omega, hb⟩

set_option maxHeartbeats 4000000 in
theorem lines_any (r n : Int) (w : World) : Calls Try.prog 19 #[.int .i32 r, .int .i64 n] w (Few w) := by
  by_cases hr : r = 99
  · subst hr
    go_enter Try.func19, Try.ntmps19
    go_wp2_with fail
    go_ret
    exact ⟨_, _, _, rfl, by omega, (Below.refl _ _).alloc (Nat.le_refl _) _⟩
  · have e99 : (r == 99) = false := by rw [beq_eq_false_iff_ne]; omega
    by_cases hd : r = 100
    · subst hd
      go_enter Try.func19, Try.ntmps19
      go_wp2_with fail
      refine (vone_any _ _ _ _).mono ?_
      rintro e w1 ⟨v, rfl, ⟨g, rfl, _⟩, hb⟩
      go_wp2_with fail
      go_ret
      exact ⟨_, _, _, rfl, by omega, hb⟩
    · have e100 : (r == 100) = false := by rw [beq_eq_false_iff_ne]; omega
      clear hr hd
      go_enter Try.func19, Try.ntmps19
      go_wp2_with fail
      refine (vone_any _ _ _ _).mono ?_
      rintro e w1 ⟨v, rfl, ⟨g, rfl, _⟩, hb⟩
      go_wp2_with fail
      go_ret
      exact ⟨_, _, _, rfl, by omega, hb⟩

set_option maxHeartbeats 4000000 in
theorem insert_any (k r : Int) (x : ByteArray) (w : World) : Calls Try.prog 8 #[.agg #[.int .i64 k, .int .i32 r, .string x]] w (Few w) := by
  by_cases h5 : k = 5
  · subst h5
    go_enter Try.func8, Try.ntmps8
    go_wp2_with fail
    refine (vone_any _ _ _ _).mono ?_
    rintro e w1 ⟨v, rfl, ⟨g, rfl, _⟩, hb⟩
    go_wp2_with fail
    go_ret
    exact ⟨_, _, _, rfl, by omega, ((Below.refl _ _).alloc (Nat.le_refl _) _).trans (hb.mono (by simp))⟩
  by_cases h6 : k = 6
  · subst h6
    by_cases hr : r = 119 ∨ r = 117
    · rcases hr with rfl | rfl
      all_goals
        go_enter Try.func8, Try.ntmps8
        go_wp2_with fail
        refine (vone_any _ _ _ _).mono ?_
        rintro e w1 ⟨v, rfl, ⟨g, rfl, _⟩, hb⟩
        go_wp2_with fail
        go_ret
        exact ⟨_, _, _, rfl, by omega, ((Below.refl _ _).alloc (Nat.le_refl _) _).trans (hb.mono (by simp))⟩
    · have e119 : (r == 119) = false := by rw [beq_eq_false_iff_ne]; omega
      have e117 : (r == 117) = false := by rw [beq_eq_false_iff_ne]; omega
      clear hr h5
      go_enter Try.func8, Try.ntmps8
      go_wp2_with fail
      refine (vone_any _ _ _ _).mono ?_
      rintro e w1 ⟨v, rfl, ⟨g, rfl, _⟩, hb⟩
      go_wp2_with fail
      go_ret
      exact ⟨_, _, _, rfl, by omega, ((Below.refl _ _).alloc (Nat.le_refl _) _).trans (hb.mono (by simp))⟩
  by_cases h7 : k = 7
  · subst h7
    by_cases hr : r = 101
    · subst hr
      go_enter Try.func8, Try.ntmps8
      go_wp2_with fail
      refine (vone_any _ _ _ _).mono ?_
      rintro e w1 ⟨v, rfl, ⟨g, rfl, _⟩, hb⟩
      go_wp2_with fail
      go_ret
      exact ⟨_, _, _, rfl, by omega, ((Below.refl _ _).alloc (Nat.le_refl _) _).trans (hb.mono (by simp))⟩
    · have e101 : (r == 101) = false := by rw [beq_eq_false_iff_ne]; omega
      clear hr h5 h6
      go_enter Try.func8, Try.ntmps8
      go_wp2_with fail
      refine (vone_any _ _ _ _).mono ?_
      rintro e w1 ⟨v, rfl, ⟨g, rfl, _⟩, hb⟩
      go_wp2_with fail
      go_ret
      exact ⟨_, _, _, rfl, by omega, ((Below.refl _ _).alloc (Nat.le_refl _) _).trans (hb.mono (by simp))⟩
  have e5 : (k == 5) = false := by rw [beq_eq_false_iff_ne]; omega
  have e6 : (k == 6) = false := by rw [beq_eq_false_iff_ne]; omega
  have e7 : (k == 7) = false := by rw [beq_eq_false_iff_ne]; omega
  clear h5 h6 h7
  obtain ⟨a', h', o, hm⟩ : ∃ a' h' o, mapF 0 false k r (putF r) x = ((a', h'), o) := ⟨_, _, _, rfl⟩
  have HM := Lib.hid hm
  clear hm
  go_enter Try.func8, Try.ntmps8
  go_wp2_with fail
  refine (map_any _ _ _ _ _ _).mono ?_
  rw [HM.out]
  rintro e w1 ⟨v, rfl, hl, hb⟩
  obtain ⟨A, m, c, rfl, hm⟩ : ∃ A m c, v = .slice A m c ∧ m ≤ 3 := by
    cases o with
    | none => exact ⟨_, _, _, hl, by omega⟩
    | some c' => obtain ⟨g, hv, _⟩ := hl; exact ⟨_, _, _, hv, by omega⟩
  go_wp2_with fail
  go_ret
  have hbb : Below w.heap.size w w1 := ((Below.refl _ _).alloc (Nat.le_refl _) _).trans (hb.mono (by simp))
  exact ⟨_, _, _, rfl, hm, hbb.alloc hbb.size _⟩

theorem cmd_info : (Try.prog.info? 34).map (fun i => (i.zero, i.size, i.bytes)) = some (some (.agg #[.int .i64 0, .int .i64 0, .int .i64 0, .string ⟨#[]⟩, .bool false]), 5, 48) := by kernel_rfl
theorem new_cells (W : World) (cs : Array Value) (e : TypeId) : ∀ (j : Nat) (u : Value), cs.toList[j]? = some u → (W.alloc (.cells cs e)).cell? ((⟨W.heap.size, 0, none⟩ : Addr).add j) = some u := by
  intro j u hu
  have hadd : (⟨W.heap.size, 0, none⟩ : Addr).add j = ⟨W.heap.size, j, none⟩ := by unfold Addr.add; split <;> simp_all
  rw [hadd, cell_of_row _ _ j cs e (0, 0) (heap_alloc_new W _)]
  simpa using hu
theorem row_mono {w : World} {b b' : Nat} {e : TypeId} {s : Nat} {v : Value} {n : Nat} {xs : List Value} (h : w.ownsRow b e s v n xs) (hb : b' ≤ b) : w.ownsRow b' e s v n xs := by
  refine ⟨h.1, ?_⟩
  rcases h.2 with hn | ⟨g, cap, cur, hv, hg, rest⟩
  · exact .inl hn
  · exact .inr ⟨g, cap, cur, hv, by omega, rest⟩
theorem row_slice {w : World} {b : Nat} {e : TypeId} {s : Nat} {v : Value} {n : Nat} {xs : List Value} (h : w.ownsRow b e s v n xs) : ∃ A c, v = .slice A n c := by
  rcases h.2 with ⟨rfl, rfl⟩ | ⟨g, cap, cur, hv, _⟩
  · exact ⟨_, _, rfl⟩
  · exact ⟨_, _, hv⟩
def insCells : List Value := [.int .i64 25, .int .i64 0, .int .i64 1, .string ⟨#[]⟩, .bool false]

set_option maxHeartbeats 800000 in
theorem into_nil (w : World) : Calls Try.prog 20 #[.slice none 0 0] w fun e w' => ∃ v, e = .returned v ∧ w'.ownsRow w.heap.size 34 5 v 1 insCells ∧ Below w.heap.size w w' := by
  obtain ⟨i0, hi, hz0, hz1, hz2⟩ := info_parts cmd_info
  go_enter Try.func20, Try.ntmps20
  go_wp2_with (at_builtin; (refine wpList_append_grows _ rfl _ _ 27 rfl 34 i0 _ 5 48 Try.underlying27 hi hz0 hz1 hz2 rfl (by decide) none 0 0 [] rfl ?a1 ?a2 ?a3 ⟨w.heap.size, 0, none⟩ 1 1 insCells rfl rfl ?c1 ?c2 ?c3 ?c4 ?c5 ?_))
  case a2 => rfl
  case a3 => intro b h; cases h
  case c1 => exact new_cells _ _ _
  case c2 => intro u hu; simp [insCells] at hu; rcases hu with rfl | rfl | rfl | rfl | rfl <;> rfl
  case c3 => omega
  case c4 => unfold maxLen; omega
  case c5 => omega
  intro v' w1 hown' hgrow
  go_wp2_with fail
  go_ret
  exact ⟨_, rfl, row_mono hown' (by simp), ((Below.refl _ _).alloc (Nat.le_refl _) _).grown hgrow (by simp) (fun k hk => by cases hk)⟩

set_option maxHeartbeats 800000 in
theorem into_one (c : CmdD) (g : Nat) (w : World) (hg : w.heap[g]? = some (.cells (cmdCells c) 34 (0, 0))) : Calls Try.prog 20 #[.slice (some ⟨g, 0, none⟩) 1 1] w fun e w' => ∃ v, e = .returned v ∧ w'.ownsRow w.heap.size 34 5 v 2 ((cmdCells c).toList ++ insCells) ∧ Below w.heap.size w w' := by
  obtain ⟨i0, hi, hz0, hz1, hz2⟩ := info_parts cmd_info
  have lg := (Array.getElem?_eq_some_iff.1 hg).1
  go_enter Try.func20, Try.ntmps20
  go_wp2_with (at_builtin; (refine wpList_append_grows _ rfl _ _ 27 rfl 34 i0 _ 5 48 Try.underlying27 hi hz0 hz1 hz2 rfl (by decide) (some ⟨g, 0, none⟩) 1 1 (cmdCells c).toList rfl ?a1 ?a2 ?a3 ⟨w.heap.size, 0, none⟩ 1 1 insCells rfl rfl ?c1 ?c2 ?c3 ?c4 ?c5 ?_))
  case a1 => intro h; cases h
  case a2 => rfl
  case a3 =>
    intro b h j u hu
    cases h
    have hadd : (⟨g, 0, none⟩ : Addr).add j = ⟨g, j, none⟩ := by unfold Addr.add; split <;> simp_all
    rw [hadd, cell_of_row _ _ j (cmdCells c) 34 (0, 0) ((Below.heap_alloc _ _ _ lg).trans hg)]
    simpa using hu
  case c1 => exact new_cells _ _ _
  case c2 => intro u hu; simp [insCells] at hu; rcases hu with rfl | rfl | rfl | rfl | rfl <;> rfl
  case c3 => omega
  case c4 => unfold maxLen; omega
  case c5 => omega
  intro v' w1 hown' hgrow
  go_wp2_with fail
  go_ret
  exact ⟨_, rfl, row_mono hown' (by simp), ((Below.refl _ _).alloc (Nat.le_refl _) _).grown hgrow (by simp) (fun k hk => by cases hk)⟩

set_option maxHeartbeats 800000 in
theorem normal_a (n : Int) (w : World) : Calls Try.prog 14 #[.int .i32 97, .int .i64 n] w (Few w) := by
  obtain ⟨i0, hi, hz0, hz1, hz2⟩ := info_parts cmd_info
  go_enter Try.func14, Try.ntmps14
  go_wp2_with fail
  refine (into_nil _).mono ?_
  rintro e w1 ⟨v, rfl, hown, hb⟩
  go_wp2_with (at_builtin; (refine wpList_append_own _ rfl _ _ 27 rfl w.heap.size 34 i0 _ 5 48 Try.underlying27 hi hz0 hz1 hz2 rfl (by decide) _ _ _ rfl (hown.alloc _) ⟨w1.heap.size, 0, none⟩ 1 1 [.int .i64 3, .int .i64 1, .int .i64 1, .string ⟨#[]⟩, .bool false] rfl rfl ?c1 ?c2 ?c3 ?c4 ?c5 ?_))
  case c1 => exact new_cells _ _ _
  case c2 => intro u hu; simp at hu; rcases hu with rfl | rfl | rfl | rfl | rfl <;> rfl
  case c3 => unfold maxLen; omega
  case c4 => omega
  case c5 => have := hb.size; simp; omega
  intro v' w2 hown' hgrow _
  have hbb := (hb.alloc hb.size _).grown hgrow (by have := hb.size; simp; omega) (fun k hk => (hown.lt k hk).1)
  obtain ⟨A, c, rfl⟩ := row_slice hown'
  go_wp2_with fail
  go_ret
  exact ⟨_, _, _, rfl, by omega, hbb⟩

set_option maxHeartbeats 800000 in
theorem normal_A (n : Int) (w : World) : Calls Try.prog 14 #[.int .i32 65, .int .i64 n] w (Few w) := by
  obtain ⟨i0, hi, hz0, hz1, hz2⟩ := info_parts cmd_info
  go_enter Try.func14, Try.ntmps14
  go_wp2_with fail
  refine (into_nil _).mono ?_
  rintro e w1 ⟨v, rfl, hown, hb⟩
  go_wp2_with (at_builtin; (refine wpList_append_own _ rfl _ _ 27 rfl w.heap.size 34 i0 _ 5 48 Try.underlying27 hi hz0 hz1 hz2 rfl (by decide) _ _ _ rfl (hown.alloc _) ⟨w1.heap.size, 0, none⟩ 1 1 [.int .i64 3, .int .i64 3, .int .i64 1, .string ⟨#[]⟩, .bool false] rfl rfl ?c1 ?c2 ?c3 ?c4 ?c5 ?_))
  case c1 => exact new_cells _ _ _
  case c2 => intro u hu; simp at hu; rcases hu with rfl | rfl | rfl | rfl | rfl <;> rfl
  case c3 => unfold maxLen; omega
  case c4 => omega
  case c5 => have := hb.size; simp; omega
  intro v' w2 hown' hgrow _
  have hbb := (hb.alloc hb.size _).grown hgrow (by have := hb.size; simp; omega) (fun k hk => (hown.lt k hk).1)
  obtain ⟨A, c, rfl⟩ := row_slice hown'
  go_wp2_with fail
  go_ret
  exact ⟨_, _, _, rfl, by omega, hbb⟩

set_option maxHeartbeats 8000000 in
theorem normal_any (r n : Int) (w : World) : Calls Try.prog 14 #[.int .i32 r, .int .i64 n] w (Few w) := by
  by_cases hr : r = 120 ∨ r = 88 ∨ r = 68 ∨ r = 112 ∨ r = 80 ∨ r = 117 ∨ r = 111 ∨ r = 79 ∨ r = 118 ∨ r = 126 ∨ r = 47 ∨ r = 106 ∨ r = 107
  · rcases hr with rfl | rfl | rfl | rfl | rfl | rfl | rfl | rfl | rfl | rfl | rfl | rfl | rfl
    all_goals
      go_enter Try.func14, Try.ntmps14
      go_wp2_with fail
      refine (vone_any _ _ _ _).mono ?_
      rintro e w1 ⟨v, rfl, ⟨g, rfl, _⟩, hb⟩
      go_wp2_with fail
      go_ret
      exact ⟨_, _, _, rfl, by omega, hb⟩
  by_cases hi : r = 67 ∨ r = 73
  · rcases hi with rfl | rfl
    all_goals
      go_enter Try.func14, Try.ntmps14
      go_wp2_with fail
      first
        | refine (into_one (cmd 5 3 1) _ _ (heap_alloc_new _ _)).mono ?_
        | refine (into_one (cmd 3 11 1) _ _ (heap_alloc_new _ _)).mono ?_
      rintro e w1 ⟨v, rfl, hown, hb⟩
      obtain ⟨A, c, rfl⟩ := row_slice hown
      go_wp2_with fail
      go_ret
      exact ⟨_, _, _, rfl, by omega, ((Below.refl _ _).alloc (Nat.le_refl _) _).trans (hb.mono (by simp))⟩
  by_cases h105 : r = 105
  · subst h105
    go_enter Try.func14, Try.ntmps14
    go_wp2_with fail
    refine (into_nil _).mono ?_
    rintro e w1 ⟨v, rfl, hown, hb⟩
    obtain ⟨A, c, rfl⟩ := row_slice hown
    go_wp2_with fail
    go_ret
    exact ⟨_, _, _, rfl, by omega, hb⟩
  by_cases ha : r = 97 ∨ r = 65
  · rcases ha with rfl | rfl
    · exact normal_a n w
    · exact normal_A n w
  have e120 : (r == 120) = false := by rw [beq_eq_false_iff_ne]; omega
  have e88 : (r == 88) = false := by rw [beq_eq_false_iff_ne]; omega
  have e68 : (r == 68) = false := by rw [beq_eq_false_iff_ne]; omega
  have e112 : (r == 112) = false := by rw [beq_eq_false_iff_ne]; omega
  have e80 : (r == 80) = false := by rw [beq_eq_false_iff_ne]; omega
  have e117 : (r == 117) = false := by rw [beq_eq_false_iff_ne]; omega
  have e111 : (r == 111) = false := by rw [beq_eq_false_iff_ne]; omega
  have e79 : (r == 79) = false := by rw [beq_eq_false_iff_ne]; omega
  have e118 : (r == 118) = false := by rw [beq_eq_false_iff_ne]; omega
  have e126 : (r == 126) = false := by rw [beq_eq_false_iff_ne]; omega
  have e47 : (r == 47) = false := by rw [beq_eq_false_iff_ne]; omega
  have e106 : (r == 106) = false := by rw [beq_eq_false_iff_ne]; omega
  have e107 : (r == 107) = false := by rw [beq_eq_false_iff_ne]; omega
  have e67 : (r == 67) = false := by rw [beq_eq_false_iff_ne]; omega
  have e105 : (r == 105) = false := by rw [beq_eq_false_iff_ne]; omega
  have e73 : (r == 73) = false := by rw [beq_eq_false_iff_ne]; omega
  have e97 : (r == 97) = false := by rw [beq_eq_false_iff_ne]; omega
  have e65 : (r == 65) = false := by rw [beq_eq_false_iff_ne]; omega
  clear hr hi h105 ha
  go_enter Try.func14, Try.ntmps14
  go_wp2_with fail
  refine (vone_any _ _ _ _).mono ?_
  rintro e w1 ⟨v, rfl, ⟨g, rfl, _⟩, hb⟩
  go_wp2_with fail
  go_ret
  exact ⟨_, _, _, rfl, by omega, hb⟩

set_option maxHeartbeats 4000000 in
theorem named_any (k r m n : Int) (x : ByteArray) (w : World) : Calls Try.prog 15 #[.agg #[.int .i64 k, .int .i32 r, .string x], .int .i64 m, .int .i64 n] w (Few w) := by
  by_cases hm : m = 2
  · subst hm
    by_cases hk : k = 5 ∨ k = 2 ∨ k = 14 ∨ k = 8 ∨ k = 9
    · rcases hk with rfl | rfl | rfl | rfl | rfl
      all_goals
        go_enter Try.func15, Try.ntmps15
        go_wp2_with fail
        refine (vone_any _ _ _ _).mono ?_
        rintro e w1 ⟨v, rfl, ⟨g, rfl, _⟩, hb⟩
        go_wp2_with fail
        go_ret
        exact ⟨_, _, _, rfl, by omega, ((Below.refl _ _).alloc (Nat.le_refl _) _).trans (hb.mono (by simp))⟩
    by_cases h6 : k = 6
    · subst h6
      by_cases hr : r = 114
      · subst hr
        go_enter Try.func15, Try.ntmps15
        go_wp2_with fail
        refine (vone_any _ _ _ _).mono ?_
        rintro e w1 ⟨v, rfl, ⟨g, rfl, _⟩, hb⟩
        go_wp2_with fail
        go_ret
        exact ⟨_, _, _, rfl, by omega, ((Below.refl _ _).alloc (Nat.le_refl _) _).trans (hb.mono (by simp))⟩
      · have er : (r == 114) = false := by rw [beq_eq_false_iff_ne]; omega
        clear hr hk
        go_enter Try.func15, Try.ntmps15
        go_wp2_with fail
        refine (vone_any _ _ _ _).mono ?_
        rintro e w1 ⟨v, rfl, ⟨g, rfl, _⟩, hb⟩
        go_wp2_with fail
        go_ret
        exact ⟨_, _, _, rfl, by omega, ((Below.refl _ _).alloc (Nat.le_refl _) _).trans (hb.mono (by simp))⟩
    have e5 : (k == 5) = false := by rw [beq_eq_false_iff_ne]; omega
    have e2 : (k == 2) = false := by rw [beq_eq_false_iff_ne]; omega
    have e14 : (k == 14) = false := by rw [beq_eq_false_iff_ne]; omega
    have e8 : (k == 8) = false := by rw [beq_eq_false_iff_ne]; omega
    have e9 : (k == 9) = false := by rw [beq_eq_false_iff_ne]; omega
    have e6 : (k == 6) = false := by rw [beq_eq_false_iff_ne]; omega
    clear hk h6
    go_enter Try.func15, Try.ntmps15
    go_wp2_with fail
    refine (vone_any _ _ _ _).mono ?_
    rintro e w1 ⟨v, rfl, ⟨g, rfl, _⟩, hb⟩
    go_wp2_with fail
    go_ret
    exact ⟨_, _, _, rfl, by omega, ((Below.refl _ _).alloc (Nat.le_refl _) _).trans (hb.mono (by simp))⟩
  · have em : (m == 2) = false := by rw [beq_eq_false_iff_ne]; omega
    clear hm
    by_cases hk : k = 5 ∨ k = 2 ∨ k = 14 ∨ k = 8 ∨ k = 9
    · rcases hk with rfl | rfl | rfl | rfl | rfl
      all_goals
        go_enter Try.func15, Try.ntmps15
        go_wp2_with fail
        refine (vone_any _ _ _ _).mono ?_
        rintro e w1 ⟨v, rfl, ⟨g, rfl, _⟩, hb⟩
        go_wp2_with fail
        go_ret
        exact ⟨_, _, _, rfl, by omega, ((Below.refl _ _).alloc (Nat.le_refl _) _).trans (hb.mono (by simp))⟩
    by_cases h6 : k = 6
    · subst h6
      by_cases hr : r = 114
      · subst hr
        go_enter Try.func15, Try.ntmps15
        go_wp2_with fail
        refine (vone_any _ _ _ _).mono ?_
        rintro e w1 ⟨v, rfl, ⟨g, rfl, _⟩, hb⟩
        go_wp2_with fail
        go_ret
        exact ⟨_, _, _, rfl, by omega, ((Below.refl _ _).alloc (Nat.le_refl _) _).trans (hb.mono (by simp))⟩
      · have er : (r == 114) = false := by rw [beq_eq_false_iff_ne]; omega
        clear hr hk
        go_enter Try.func15, Try.ntmps15
        go_wp2_with fail
        refine (vone_any _ _ _ _).mono ?_
        rintro e w1 ⟨v, rfl, ⟨g, rfl, _⟩, hb⟩
        go_wp2_with fail
        go_ret
        exact ⟨_, _, _, rfl, by omega, ((Below.refl _ _).alloc (Nat.le_refl _) _).trans (hb.mono (by simp))⟩
    have e5 : (k == 5) = false := by rw [beq_eq_false_iff_ne]; omega
    have e2 : (k == 2) = false := by rw [beq_eq_false_iff_ne]; omega
    have e14 : (k == 14) = false := by rw [beq_eq_false_iff_ne]; omega
    have e8 : (k == 8) = false := by rw [beq_eq_false_iff_ne]; omega
    have e9 : (k == 9) = false := by rw [beq_eq_false_iff_ne]; omega
    have e6 : (k == 6) = false := by rw [beq_eq_false_iff_ne]; omega
    clear hk h6
    go_enter Try.func15, Try.ntmps15
    go_wp2_with fail
    refine (vone_any _ _ _ _).mono ?_
    rintro e w1 ⟨v, rfl, ⟨g, rfl, _⟩, hb⟩
    go_wp2_with fail
    go_ret
    exact ⟨_, _, _, rfl, by omega, ((Below.refl _ _).alloc (Nat.le_refl _) _).trans (hb.mono (by simp))⟩

end Go.Proofs.Ytpjlpbammgoieaa
