/- The contract of vi.Map. -/
import Derived.Test.YtpjlpbammgoieaaVMap
namespace Go.Proofs.Ytpjlpbammgoieaa
open Go.RowKit

/-- A letter that waits; anything else is none. -/
def normF (op : Int) : Int := if op = 100 ∨ op = 99 ∨ op = 121 ∨ op = 114 ∨ op = 103 then op else 0
def isDigit (n op k r : Int) : Prop := (k = 1 ∧ (49 ≤ r ∧ r ≤ 57 ∨ r = 48 ∧ 0 < n)) ∧ op ≠ 114
instance (n op k r : Int) : Decidable (isDigit n op k r) := by unfold isDigit; infer_instance

/-- What a key does, behind the first tests. -/
def pastF (n q m k r : Int) : (Int × Int) × Option (Option CmdD) :=
  if isDigit n q k r then ((digitF n r, q), none)
  else if q ≠ 0 then ((0, 0), some (secF q k r (max n 1)))
  else if letterF k m r ≠ 0 then ((n, letterF k m r), none)
  else if (wayF k r).2.2 then ((0, 0), some (overF 0 (wayF k r).1 (wayF k r).2.1 (max n 1)))
  else ((0, 0), some none)
/-- What a key does, in one of the modes of vi. -/
def mapV (n op m k r : Int) : (Int × Int) × Option (Option CmdD) :=
  if k = 0 then ((n, op), none)
  else if m ≠ 2 ∧ m ≠ 3 then ((0, 0), some none)
  else pastF n (normF op) m k r

/-- A list: nil, or as Out says. -/
def LstV (w : World) (v : Value) : Option (Option CmdD) → Prop
  | none => v = .slice none 0 0
  | some none => ∃ A m c, v = .slice A m c ∧ m ≤ 3
  | some (some c) => Lst w 34 v (some c)
def GivesV (m : (Int × Int) × Option (Option CmdD)) (w : World) (e : Ending) (w' : World) : Prop :=
  ∃ v, e = .returned (.tuple #[.agg #[.int .i64 m.1.1, .int .i32 m.1.2], v]) ∧ LstV w' v m.2 ∧ Below w.heap.size w w'

structure Three (w0 : World) (n op k r : Int) (x : ByteArray) (w : World) : Prop where
  two : Two w0 n op k r x w
  t : w.heap[w0.heap.size + 1 + 1]? = some (.cells #[.int .i64 0, .int .i32 0] 23 (0, 0))
theorem Three.next {w0 w w' : World} {n op k r : Int} {x : ByteArray} (H : Three w0 n op k r x w) (hb : Below w.heap.size w w') : Three w0 n op k r x w' :=
  ⟨H.two.next hb, (hb.block _ (Array.getElem?_eq_some_iff.1 H.t).1).trans H.t⟩
theorem Three.cells {w0 w : World} {n op k r : Int} {x : ByteArray} (H : Three w0 n op k r x w) :
    (w.cell? ⟨w0.heap.size + 1 + 1, 0, none⟩ = some (.int .i64 0) ∧ w.cell? ⟨w0.heap.size + 1 + 1, 1, none⟩ = some (.int .i32 0) ∧ w.frozen? ⟨w0.heap.size + 1 + 1, 0, none⟩ = false ∧ w.frozen? ⟨w0.heap.size + 1 + 1, 1, none⟩ = false) ∧ w0.heap.size + 1 + 1 < w.heap.size :=
  ⟨⟨cell_of_row w _ 0 _ 23 (0, 0) H.t, cell_of_row w _ 1 _ 23 (0, 0) H.t, frozen_of_row w _ 0 _ 23 H.t, frozen_of_row w _ 1 _ 23 H.t⟩, (Array.getElem?_eq_some_iff.1 H.t).1⟩
theorem three_start (w : World) (n op k r : Int) (x : ByteArray) : Three w n op k r x (((w.alloc (.cells #[.int .i64 n, .int .i32 op] 23)).alloc (.cells #[.int .i64 k, .int .i32 r, .string x] 25)).alloc (.cells #[.int .i64 0, .int .i32 0] 23)) :=
  ⟨(two_start w n op k r x).next ((Below.refl _ _).alloc (Nat.le_refl _) _), by
    have := heap_alloc_new ((w.alloc (.cells #[.int .i64 n, .int .i32 op] 23)).alloc (.cells #[.int .i64 k, .int .i32 r, .string x] 25)) (.cells #[.int .i64 0, .int .i32 0] 23)
    simpa using this⟩
theorem Three.setS {w0 w : World} {n op k r : Int} {x : ByteArray} (H : Three w0 n op k r x w) (u : Int) : Three w0 n u k r x (w.setCell ⟨w0.heap.size, 1, none⟩ (.int .i32 u)) :=
  ⟨⟨heap_setCell_same w _ 1 _ 23 _ H.two.s, (Below.heap_setCell w ⟨w0.heap.size, 1, none⟩ _ _ (by simp)).trans H.two.k, H.two.old.setCell (Nat.le_refl _) _⟩,
    (Below.heap_setCell w ⟨w0.heap.size, 1, none⟩ _ _ (by simp; omega)).trans H.t⟩

theorem close_v {w0 w1 : World} {n op k r : Int} {x : ByteArray} {v : Value} {o : Option (Option CmdD)} (H : Three w0 n op k r x w1) (hl : LstV w1 v o) (u0 u1 : Value) :
    LstV ((w1.setCell ⟨w0.heap.size + 1 + 1, 0, none⟩ u0).setCell ⟨w0.heap.size + 1 + 1, 1, none⟩ u1) v o ∧ Below w0.heap.size w0 ((w1.setCell ⟨w0.heap.size + 1 + 1, 0, none⟩ u0).setCell ⟨w0.heap.size + 1 + 1, 1, none⟩ u1) := by
  refine ⟨?_, (H.two.old.setCell (by simp; omega) u0).setCell (by simp; omega) u1⟩
  rcases o with _ | _ | c
  · exact hl
  · exact hl
  · have hl' : Lst w1 34 v (some c) := hl
    exact (hl'.set H.t (by decide) u0).set (heap_setCell_same w1 _ 0 _ 23 u0 H.t) (by decide) u1

theorem lstv_of {o : Option CmdD} {w w' : World} {e : Ending} (h : Out o w e w') : ∃ v, e = .returned v ∧ LstV w' v (some o) ∧ Below w.heap.size w w' := by
  cases o with
  | none => obtain ⟨A, m, c, rfl, hm, hb⟩ := h; exact ⟨_, rfl, ⟨_, _, _, rfl, hm⟩, hb⟩
  | some c => obtain ⟨v, rfl, hl, hb⟩ := h; exact ⟨v, rfl, hl, hb⟩
theorem Few.lstv {w w' : World} {e : Ending} (h : Few w e w') : ∃ v, e = .returned v ∧ LstV w' v (some none) ∧ Below w.heap.size w w' := lstv_of (o := none) h

set_option maxHeartbeats 800000 in
theorem map_zero (n op m r : Int) (x : ByteArray) (w : World) :
    Calls Try.prog 6 #[.agg #[.int .i64 n, .int .i32 op], .int .i64 m, .agg #[.int .i64 0, .int .i32 r, .string x]] w (GivesV ((n, op), none) w) := by
  go_enter Try.func6, Try.ntmps6
  go_wp2_with fail
  exact bodyPost_ret (v := .tuple #[.agg #[.int .i64 n, .int .i32 op], .slice none 0 0]) (by simp [results, Try.results6, go_sem]) rfl ⟨_, rfl, rfl, (((Below.refl _ _).alloc (Nat.le_refl _) _).alloc (by simp) _).alloc (by simp; omega) _⟩

set_option maxRecDepth 100000 in
set_option maxHeartbeats 8000000 in
theorem map_past (n op m k r : Int) (x : ByteArray) (w : World) (hk : (k == 0) = false) :
    Calls Try.prog 6 #[.agg #[.int .i64 n, .int .i32 op], .int .i64 m, .agg #[.int .i64 k, .int .i32 r, .string x]] w (GivesV (if m ≠ 2 ∧ m ≠ 3 then ((0, 0), some none) else pastF n (normF op) m k r) w) := by
  have H0 := three_start w n op k r x
  obtain ⟨R, hR⟩ : ∃ R, R = (if m ≠ 2 ∧ m ≠ 3 then ((0, 0), some none) else pastF n (normF op) m k r) := ⟨_, rfl⟩
  rw [← hR]
  have HR := Lib.hid hR
  clear hR
  go_enter Try.func6, Try.ntmps6
  go_upto_block 0 with fail
  go_cut [20] (fun s20 wx => ∃ b : Bool, s20 = .bool b ∧ Three w n (normF op) k r x wx)
  case first =>
    by_cases ho : op = 100 ∨ op = 99 ∨ op = 121 ∨ op = 114 ∨ op = 103
    · have hn : normF op = op := by unfold normF; rw [if_pos ho]
      rw [← hn] at H0
      have HH := Lib.hid H0
      clear H0 hn
      rcases ho with rfl | rfl | rfl | rfl | rfl
      all_goals
        go_wp2_with fail
        go_meet
        exact ⟨_, rfl, HH.out⟩
    · have hn : normF op = 0 := by unfold normF; rw [if_neg ho]
      have HN := Lib.hid hn
      have e100 : (op == 100) = false := by rw [beq_eq_false_iff_ne]; omega
      have e99 : (op == 99) = false := by rw [beq_eq_false_iff_ne]; omega
      have e121 : (op == 121) = false := by rw [beq_eq_false_iff_ne]; omega
      have e114 : (op == 114) = false := by rw [beq_eq_false_iff_ne]; omega
      have e103 : (op == 103) = false := by rw [beq_eq_false_iff_ne]; omega
      have H1 := H0.setS 0
      clear hn ho
      go_wp2_with fail
      go_meet
      first
        | exact ⟨_, rfl, by rw [HN.out]; exact H1⟩
        | exact ⟨_, rfl, by rw [HN.out]; exact three_start w n 0 k r x⟩
  case rest =>
    obtain ⟨b, rfl, H1⟩ := hcut
    clear H0
    have hq : normF op = 100 ∨ normF op = 99 ∨ normF op = 121 ∨ normF op = 114 ∨ normF op = 103 ∨ normF op = 0 := by unfold normF; split <;> omega
    have hR := HR.out
    obtain ⟨q, hqq⟩ : ∃ q, q = normF op := ⟨_, rfl⟩
    rw [← hqq] at H1 hq hR
    clear HR hqq
    have HR := Lib.hid hR
    clear hR
    obtain ⟨⟨s0, s1⟩, ⟨k0, k1, k2⟩, ls, lk⟩ := H1.two.cells
    obtain ⟨⟨t0, t1, f0, f1⟩, lt⟩ := H1.cells
    by_cases hm : m ≠ 2 ∧ m ≠ 3
    · have e2 : (m != 2) = true := by rw [bne_iff_ne]; exact hm.1
      have e3 : (m != 3) = true := by rw [bne_iff_ne]; exact hm.2
      have hR : R = ((0, 0), some none) := by rw [HR.out, if_pos hm]
      have Hm := Lib.hid hm
      clear hm
      have Hq := Lib.hid hR; clear hR
      go_wp2_with fail
      refine (insert_any k r x _).mono ?_
      intro e w1 ho
      obtain ⟨v, rfl, hl, hb⟩ := ho.lstv
      have H2 := H1.next hb
      clear s0 s1 k0 k1 k2 ls lk t0 t1 f0 f1 lt
      obtain ⟨⟨t0, t1, f0, f1⟩, lt⟩ := H2.cells
      go_wp2_with fail
      exact bodyPost_ret (v := .tuple #[.agg #[.int .i64 0, .int .i32 0], v]) (by simp [results, Try.results6, go_sem, t0, t1]) rfl (by rw [Hq.out]; exact ⟨v, rfl, (close_v H2 hl _ _).1, (close_v H2 hl _ _).2⟩)
    · have hm23 : m = 2 ∨ m = 3 := by omega
      have hR : R = pastF n q m k r := by rw [HR.out, if_neg hm]
      clear HR
      have HR := Lib.hid hR
      clear hR hm
      have HM := Lib.hid hm23
      rcases hm23 with rfl | rfl
      · go_upto_region 12 with fail
        go_cut [36] (fun s36 wx => ∃ b : Bool, s36 = .bool b ∧ (b = true ↔ isDigit n q k r) ∧ Three w n q k r x wx)
        case first =>
          by_cases hk1 : k = 1
          · subst hk1
            have hc : (r < 48) ∨ (r = 48 ∧ 0 < n) ∨ (r = 48 ∧ n ≤ 0) ∨ (49 ≤ r ∧ r ≤ 57) ∨ 57 < r := by omega
            by_cases h114 : q = 114
            · subst h114
              rcases hc with h | ⟨rfl, h⟩ | ⟨rfl, h⟩ | ⟨h, h'⟩ | h
              · have e48 : (r == 48) = false := by rw [beq_eq_false_iff_ne]; omega
                go_wp2_with fail
                go_meet
                exact ⟨_, rfl, by unfold isDigit; simp, H1⟩
              · go_wp2_with fail
                go_meet
                exact ⟨_, rfl, by unfold isDigit; simp, H1⟩
              · go_wp2_with fail
                go_meet
                exact ⟨_, rfl, by unfold isDigit; simp, H1⟩
              · go_wp2_with fail
                go_meet
                exact ⟨_, rfl, by unfold isDigit; simp, H1⟩
              · have e48 : (r == 48) = false := by rw [beq_eq_false_iff_ne]; omega
                go_wp2_with fail
                go_meet
                exact ⟨_, rfl, by unfold isDigit; simp, H1⟩
            · have e114 : (q != 114) = true := by rw [bne_iff_ne]; exact h114
              have H114 := Lib.hid h114
              clear h114
              rcases hc with h | ⟨rfl, h⟩ | ⟨rfl, h⟩ | ⟨h, h'⟩ | h
              · have e48 : (r == 48) = false := by rw [beq_eq_false_iff_ne]; omega
                go_wp2_with fail
                go_meet
                exact ⟨_, rfl, by have := H114.out; unfold isDigit; simp; omega, H1⟩
              · go_wp2_with fail
                go_meet
                exact ⟨_, rfl, by have := H114.out; unfold isDigit; simp; omega, H1⟩
              · go_wp2_with fail
                go_meet
                exact ⟨_, rfl, by have := H114.out; unfold isDigit; simp; omega, H1⟩
              · go_wp2_with fail
                go_meet
                exact ⟨_, rfl, by have := H114.out; unfold isDigit; simp; omega, H1⟩
              · have e48 : (r == 48) = false := by rw [beq_eq_false_iff_ne]; omega
                go_wp2_with fail
                go_meet
                exact ⟨_, rfl, by have := H114.out; unfold isDigit; simp; omega, H1⟩
          · have e1 : (k == 1) = false := by rw [beq_eq_false_iff_ne]; exact hk1
            have Hk := Lib.hid hk1
            clear hk1
            go_wp2_with fail
            go_meet
            exact ⟨_, rfl, by have := Hk.out; unfold isDigit; simp; omega, H1⟩
        case rest =>
          obtain ⟨b', rfl, hd, H1'⟩ := hcut
          clear H1 s0 s1 k0 k1 k2 ls lk t0 t1 f0 f1 lt
          have H1 := H1'
          clear H1'
          obtain ⟨⟨s0, s1⟩, ⟨k0, k1, k2⟩, ls, lk⟩ := H1.two.cells
          obtain ⟨⟨t0, t1, f0, f1⟩, lt⟩ := H1.cells
          cases b'
          · have hnd : ¬ isDigit n q k r := fun h => by have := hd.2 h; cases this
            have hR : R = (if q ≠ 0 then ((0, 0), some (secF q k r (max n 1))) else if letterF k 2 r ≠ 0 then ((n, letterF k 2 r), none)
              else if (wayF k r).2.2 then ((0, 0), some (overF 0 (wayF k r).1 (wayF k r).2.1 (max n 1))) else ((0, 0), some none)) := by rw [HR.out]; unfold pastF; rw [if_neg hnd]
            clear HR hd hnd
            have HR := Lib.hid hR
            clear hR
            go_upto_region 14 with fail
            go_cut [8] (fun s8 wx => ∃ N : Int, s8 = .int .i64 N ∧ N = max n 1 ∧ Three w n q k r x wx)
            case first =>
              rcases (by omega : n < 1 ∨ n = 1 ∨ 1 < n) with hn | rfl | hn
              · go_wp2_with fail
                go_meet
                exact ⟨_, rfl, by omega, H1⟩
              · go_wp2_with fail
                go_meet
                exact ⟨_, rfl, by omega, H1⟩
              · go_wp2_with fail
                go_meet
                exact ⟨_, rfl, by omega, H1⟩
            case rest =>
              obtain ⟨N, rfl, hN, H1'⟩ := hcut
              clear H1 s0 s1 k0 k1 k2 ls lk t0 t1 f0 f1 lt
              have H1 := H1'
              clear H1'
              obtain ⟨⟨s0, s1⟩, ⟨k0, k1, k2⟩, ls, lk⟩ := H1.two.cells
              obtain ⟨⟨t0, t1, f0, f1⟩, lt⟩ := H1.cells
              have hR := HR.out
              rw [← hN] at hR
              clear HR hN
              by_cases hq0 : q = 0
              · subst hq0
                rw [if_neg (by simp)] at hR
                have HR := Lib.hid hR
                clear hR hq
                go_wp2_with fail
                refine (letter_any k r 2 x _).mono ?_
                rintro e w1 ⟨rfl, hb⟩
                have hR := HR.out
                clear HR
                obtain ⟨L, hL⟩ : ∃ L, L = letterF k 2 r := ⟨_, rfl⟩
                rw [← hL] at hR ⊢
                clear hL
                have H2 := H1.next hb
                clear hb H1 s0 s1 k0 k1 k2 ls lk t0 t1 f0 f1 lt
                obtain ⟨⟨s0, s1⟩, ⟨k0, k1, k2⟩, ls, lk⟩ := H2.two.cells
                obtain ⟨⟨t0, t1, f0, f1⟩, lt⟩ := H2.cells
                by_cases hL0 : L = 0
                · subst hL0
                  rw [if_neg (by simp)] at hR
                  have HR := Lib.hid hR
                  clear hR
                  go_wp2_with fail
                  refine (way_any k r x _).mono ?_
                  rintro e w2 ⟨rfl, hb⟩
                  have hR := HR.out
                  clear HR
                  obtain ⟨y1, y2, y3, hW⟩ : ∃ y1 y2 y3, wayF k r = (y1, y2, y3) := ⟨_, _, _, rfl⟩
                  rw [hW] at hR ⊢
                  have H3 := H2.next hb
                  clear hW hb H2 s0 s1 k0 k1 k2 ls lk t0 t1 f0 f1 lt
                  obtain ⟨⟨s0, s1⟩, ⟨k0, k1, k2⟩, ls, lk⟩ := H3.two.cells
                  obtain ⟨⟨t0, t1, f0, f1⟩, lt⟩ := H3.cells
                  cases y3
                  · have hR' : R = ((0, 0), some none) := by rw [hR]; rfl
                    clear hR
                    have HR := Lib.hid hR'
                    clear hR'
                    by_cases hk1 : k = 1
                    · subst hk1
                      go_wp2_with fail
                      refine (normal_any r N _).mono ?_
                      intro e w3 ho
                      obtain ⟨v, rfl, hl, hb⟩ := ho.lstv
                      have H4 := H3.next hb
                      clear s0 s1 k0 k1 k2 ls lk t0 t1 f0 f1 lt
                      obtain ⟨⟨t0, t1, f0, f1⟩, lt⟩ := H4.cells
                      go_wp2_with fail
                      exact bodyPost_ret (v := .tuple #[.agg #[.int .i64 0, .int .i32 0], v]) (by simp [results, Try.results6, go_sem, t0, t1]) rfl (by rw [HR.out]; exact ⟨v, rfl, (close_v H4 hl _ _).1, (close_v H4 hl _ _).2⟩)
                    · have e1 : (k == 1) = false := by rw [beq_eq_false_iff_ne]; exact hk1
                      clear hk1
                      go_wp2_with fail
                      refine (named_any k r 2 N x _).mono ?_
                      intro e w3 ho
                      obtain ⟨v, rfl, hl, hb⟩ := ho.lstv
                      have H4 := H3.next hb
                      clear s0 s1 k0 k1 k2 ls lk t0 t1 f0 f1 lt
                      obtain ⟨⟨t0, t1, f0, f1⟩, lt⟩ := H4.cells
                      go_wp2_with fail
                      exact bodyPost_ret (v := .tuple #[.agg #[.int .i64 0, .int .i32 0], v]) (by simp [results, Try.results6, go_sem, t0, t1]) rfl (by rw [HR.out]; exact ⟨v, rfl, (close_v H4 hl _ _).1, (close_v H4 hl _ _).2⟩)
                  · have hR' : R = ((0, 0), some (overF 0 y1 y2 N)) := by rw [hR]; rfl
                    clear hR
                    have HR := Lib.hid hR'
                    clear hR'
                    go_wp2_with fail
                    refine (over_any 0 y1 N y2 _).mono ?_
                    intro e w3 ho
                    obtain ⟨v, rfl, hl, hb⟩ := lstv_of ho
                    have H4 := H3.next hb
                    clear s0 s1 k0 k1 k2 ls lk t0 t1 f0 f1 lt
                    obtain ⟨⟨t0, t1, f0, f1⟩, lt⟩ := H4.cells
                    go_wp2_with fail
                    exact bodyPost_ret (v := .tuple #[.agg #[.int .i64 0, .int .i32 0], v]) (by simp [results, Try.results6, go_sem, t0, t1]) rfl (by rw [HR.out]; exact ⟨v, rfl, (close_v H4 hl _ _).1, (close_v H4 hl _ _).2⟩)
                · have eL : (L != 0) = true := by rw [bne_iff_ne]; exact hL0
                  have hR' : R = ((n, L), none) := by rw [hR, if_pos hL0]
                  clear hR hL0
                  have HR := Lib.hid hR'
                  clear hR'
                  go_wp2_with fail
                  exact bodyPost_ret (v := .tuple #[.agg #[.int .i64 n, .int .i32 L], .slice none 0 0]) (by simp [results, Try.results6, go_sem, t0, t1]) rfl (by rw [HR.out]; exact ⟨_, rfl, (close_v (v := .slice none 0 0) (o := none) H2 rfl _ _).1, (close_v (v := .slice none 0 0) (o := none) H2 rfl _ _).2⟩)
              · have eq0 : (q != 0) = true := by rw [bne_iff_ne]; exact hq0
                have hq5 : q = 100 ∨ q = 99 ∨ q = 121 ∨ q = 114 ∨ q = 103 := by omega
                have HQ := Lib.hid hq5
                have hR' : R = ((0, 0), some (secF q k r N)) := by rw [hR, if_pos hq0]
                clear hR hq5 hq hq0
                have HR := Lib.hid hR'
                clear hR'
                go_wp2_with fail
                refine (second_any n k r N x _ q HQ.out).mono ?_
                intro e w3 ho
                obtain ⟨v, rfl, hl, hb⟩ := lstv_of ho
                have H4 := H1.next hb
                clear s0 s1 k0 k1 k2 ls lk t0 t1 f0 f1 lt
                obtain ⟨⟨t0, t1, f0, f1⟩, lt⟩ := H4.cells
                go_wp2_with fail
                exact bodyPost_ret (v := .tuple #[.agg #[.int .i64 0, .int .i32 0], v]) (by simp [results, Try.results6, go_sem, t0, t1]) rfl (by rw [HR.out]; exact ⟨v, rfl, (close_v H4 hl _ _).1, (close_v H4 hl _ _).2⟩)
          · have hdd := hd.1 rfl
            have hR : R = ((digitF n r, q), none) := by rw [HR.out]; unfold pastF; rw [if_pos hdd]
            clear HR hd
            obtain ⟨⟨rfl, hr⟩, _⟩ := hdd
            have hr0 : 48 ≤ r ∧ r ≤ 57 := by omega
            obtain ⟨hr0, hr1⟩ := hr0
            clear hr
            have HR := Lib.hid hR
            clear hR hq
            have hc : n < 0 ∨ (0 ≤ n ∧ n ≤ 99) ∨ (99 < n ∧ n ≤ 999) ∨ 999 < n := by omega
            rcases hc with hc | ⟨hc, hc2⟩ | ⟨hc, hc2⟩ | hc
            · have hv : digitF n r = r - 48 := by unfold digitF; omega
              have HV := Lib.hid hv
              clear hv
              go_wp2_with fail
              exact bodyPost_ret (v := .tuple #[.agg #[.int .i64 (r - 48), .int .i32 q], .slice none 0 0]) (by simp [results, Try.results6, go_sem, t0, t1]) rfl (by rw [HR.out, HV.out]; exact ⟨_, rfl, (close_v (v := .slice none 0 0) (o := none) H1 rfl _ _).1, (close_v (v := .slice none 0 0) (o := none) H1 rfl _ _).2⟩)
            · have hv : digitF n r = n * 10 + (r - 48) := by unfold digitF; omega
              have HV := Lib.hid hv
              clear hv
              go_wp2_with fail
              exact bodyPost_ret (v := .tuple #[.agg #[.int .i64 (n * 10 + (r - 48)), .int .i32 q], .slice none 0 0]) (by simp [results, Try.results6, go_sem, t0, t1]) rfl (by rw [HR.out, HV.out]; exact ⟨_, rfl, (close_v (v := .slice none 0 0) (o := none) H1 rfl _ _).1, (close_v (v := .slice none 0 0) (o := none) H1 rfl _ _).2⟩)
            · have hv : digitF n r = 999 := by unfold digitF; omega
              have HV := Lib.hid hv
              clear hv
              go_wp2_with fail
              exact bodyPost_ret (v := .tuple #[.agg #[.int .i64 999, .int .i32 q], .slice none 0 0]) (by simp [results, Try.results6, go_sem, t0, t1]) rfl (by rw [HR.out, HV.out]; exact ⟨_, rfl, (close_v (v := .slice none 0 0) (o := none) H1 rfl _ _).1, (close_v (v := .slice none 0 0) (o := none) H1 rfl _ _).2⟩)
            · have hv : digitF n r = 999 := by unfold digitF; omega
              have HV := Lib.hid hv
              clear hv
              go_wp2_with fail
              exact bodyPost_ret (v := .tuple #[.agg #[.int .i64 999, .int .i32 q], .slice none 0 0]) (by simp [results, Try.results6, go_sem, t0, t1]) rfl (by rw [HR.out, HV.out]; exact ⟨_, rfl, (close_v (v := .slice none 0 0) (o := none) H1 rfl _ _).1, (close_v (v := .slice none 0 0) (o := none) H1 rfl _ _).2⟩)
      · go_upto_region 12 with fail
        go_cut [36] (fun s36 wx => ∃ b : Bool, s36 = .bool b ∧ (b = true ↔ isDigit n q k r) ∧ Three w n q k r x wx)
        case first =>
          by_cases hk1 : k = 1
          · subst hk1
            have hc : (r < 48) ∨ (r = 48 ∧ 0 < n) ∨ (r = 48 ∧ n ≤ 0) ∨ (49 ≤ r ∧ r ≤ 57) ∨ 57 < r := by omega
            by_cases h114 : q = 114
            · subst h114
              rcases hc with h | ⟨rfl, h⟩ | ⟨rfl, h⟩ | ⟨h, h'⟩ | h
              · have e48 : (r == 48) = false := by rw [beq_eq_false_iff_ne]; omega
                go_wp2_with fail
                go_meet
                exact ⟨_, rfl, by unfold isDigit; simp, H1⟩
              · go_wp2_with fail
                go_meet
                exact ⟨_, rfl, by unfold isDigit; simp, H1⟩
              · go_wp2_with fail
                go_meet
                exact ⟨_, rfl, by unfold isDigit; simp, H1⟩
              · go_wp2_with fail
                go_meet
                exact ⟨_, rfl, by unfold isDigit; simp, H1⟩
              · have e48 : (r == 48) = false := by rw [beq_eq_false_iff_ne]; omega
                go_wp2_with fail
                go_meet
                exact ⟨_, rfl, by unfold isDigit; simp, H1⟩
            · have e114 : (q != 114) = true := by rw [bne_iff_ne]; exact h114
              have H114 := Lib.hid h114
              clear h114
              rcases hc with h | ⟨rfl, h⟩ | ⟨rfl, h⟩ | ⟨h, h'⟩ | h
              · have e48 : (r == 48) = false := by rw [beq_eq_false_iff_ne]; omega
                go_wp2_with fail
                go_meet
                exact ⟨_, rfl, by have := H114.out; unfold isDigit; simp; omega, H1⟩
              · go_wp2_with fail
                go_meet
                exact ⟨_, rfl, by have := H114.out; unfold isDigit; simp; omega, H1⟩
              · go_wp2_with fail
                go_meet
                exact ⟨_, rfl, by have := H114.out; unfold isDigit; simp; omega, H1⟩
              · go_wp2_with fail
                go_meet
                exact ⟨_, rfl, by have := H114.out; unfold isDigit; simp; omega, H1⟩
              · have e48 : (r == 48) = false := by rw [beq_eq_false_iff_ne]; omega
                go_wp2_with fail
                go_meet
                exact ⟨_, rfl, by have := H114.out; unfold isDigit; simp; omega, H1⟩
          · have e1 : (k == 1) = false := by rw [beq_eq_false_iff_ne]; exact hk1
            have Hk := Lib.hid hk1
            clear hk1
            go_wp2_with fail
            go_meet
            exact ⟨_, rfl, by have := Hk.out; unfold isDigit; simp; omega, H1⟩
        case rest =>
          obtain ⟨b', rfl, hd, H1'⟩ := hcut
          clear H1 s0 s1 k0 k1 k2 ls lk t0 t1 f0 f1 lt
          have H1 := H1'
          clear H1'
          obtain ⟨⟨s0, s1⟩, ⟨k0, k1, k2⟩, ls, lk⟩ := H1.two.cells
          obtain ⟨⟨t0, t1, f0, f1⟩, lt⟩ := H1.cells
          cases b'
          · have hnd : ¬ isDigit n q k r := fun h => by have := hd.2 h; cases this
            have hR : R = (if q ≠ 0 then ((0, 0), some (secF q k r (max n 1))) else if letterF k 3 r ≠ 0 then ((n, letterF k 3 r), none)
              else if (wayF k r).2.2 then ((0, 0), some (overF 0 (wayF k r).1 (wayF k r).2.1 (max n 1))) else ((0, 0), some none)) := by rw [HR.out]; unfold pastF; rw [if_neg hnd]
            clear HR hd hnd
            have HR := Lib.hid hR
            clear hR
            go_upto_region 14 with fail
            go_cut [8] (fun s8 wx => ∃ N : Int, s8 = .int .i64 N ∧ N = max n 1 ∧ Three w n q k r x wx)
            case first =>
              rcases (by omega : n < 1 ∨ n = 1 ∨ 1 < n) with hn | rfl | hn
              · go_wp2_with fail
                go_meet
                exact ⟨_, rfl, by omega, H1⟩
              · go_wp2_with fail
                go_meet
                exact ⟨_, rfl, by omega, H1⟩
              · go_wp2_with fail
                go_meet
                exact ⟨_, rfl, by omega, H1⟩
            case rest =>
              obtain ⟨N, rfl, hN, H1'⟩ := hcut
              clear H1 s0 s1 k0 k1 k2 ls lk t0 t1 f0 f1 lt
              have H1 := H1'
              clear H1'
              obtain ⟨⟨s0, s1⟩, ⟨k0, k1, k2⟩, ls, lk⟩ := H1.two.cells
              obtain ⟨⟨t0, t1, f0, f1⟩, lt⟩ := H1.cells
              have hR := HR.out
              rw [← hN] at hR
              clear HR hN
              by_cases hq0 : q = 0
              · subst hq0
                rw [if_neg (by simp)] at hR
                have HR := Lib.hid hR
                clear hR hq
                go_wp2_with fail
                refine (letter_any k r 3 x _).mono ?_
                rintro e w1 ⟨rfl, hb⟩
                have hR := HR.out
                clear HR
                obtain ⟨L, hL⟩ : ∃ L, L = letterF k 3 r := ⟨_, rfl⟩
                rw [← hL] at hR ⊢
                clear hL
                have H2 := H1.next hb
                clear hb H1 s0 s1 k0 k1 k2 ls lk t0 t1 f0 f1 lt
                obtain ⟨⟨s0, s1⟩, ⟨k0, k1, k2⟩, ls, lk⟩ := H2.two.cells
                obtain ⟨⟨t0, t1, f0, f1⟩, lt⟩ := H2.cells
                by_cases hL0 : L = 0
                · subst hL0
                  rw [if_neg (by simp)] at hR
                  have HR := Lib.hid hR
                  clear hR
                  go_wp2_with fail
                  refine (way_any k r x _).mono ?_
                  rintro e w2 ⟨rfl, hb⟩
                  have hR := HR.out
                  clear HR
                  obtain ⟨y1, y2, y3, hW⟩ : ∃ y1 y2 y3, wayF k r = (y1, y2, y3) := ⟨_, _, _, rfl⟩
                  rw [hW] at hR ⊢
                  have H3 := H2.next hb
                  clear hW hb H2 s0 s1 k0 k1 k2 ls lk t0 t1 f0 f1 lt
                  obtain ⟨⟨s0, s1⟩, ⟨k0, k1, k2⟩, ls, lk⟩ := H3.two.cells
                  obtain ⟨⟨t0, t1, f0, f1⟩, lt⟩ := H3.cells
                  cases y3
                  · have hR' : R = ((0, 0), some none) := by rw [hR]; rfl
                    clear hR
                    have HR := Lib.hid hR'
                    clear hR'
                    by_cases hk1 : k = 1
                    · subst hk1
                      go_wp2_with fail
                      refine (marked_any r _).mono ?_
                      intro e w3 ho
                      obtain ⟨v, rfl, hl, hb⟩ := ho.lstv
                      have H4 := H3.next hb
                      clear s0 s1 k0 k1 k2 ls lk t0 t1 f0 f1 lt
                      obtain ⟨⟨t0, t1, f0, f1⟩, lt⟩ := H4.cells
                      go_wp2_with fail
                      exact bodyPost_ret (v := .tuple #[.agg #[.int .i64 0, .int .i32 0], v]) (by simp [results, Try.results6, go_sem, t0, t1]) rfl (by rw [HR.out]; exact ⟨v, rfl, (close_v H4 hl _ _).1, (close_v H4 hl _ _).2⟩)
                    · have e1 : (k == 1) = false := by rw [beq_eq_false_iff_ne]; exact hk1
                      clear hk1
                      go_wp2_with fail
                      refine (named_any k r 3 N x _).mono ?_
                      intro e w3 ho
                      obtain ⟨v, rfl, hl, hb⟩ := ho.lstv
                      have H4 := H3.next hb
                      clear s0 s1 k0 k1 k2 ls lk t0 t1 f0 f1 lt
                      obtain ⟨⟨t0, t1, f0, f1⟩, lt⟩ := H4.cells
                      go_wp2_with fail
                      exact bodyPost_ret (v := .tuple #[.agg #[.int .i64 0, .int .i32 0], v]) (by simp [results, Try.results6, go_sem, t0, t1]) rfl (by rw [HR.out]; exact ⟨v, rfl, (close_v H4 hl _ _).1, (close_v H4 hl _ _).2⟩)
                  · have hR' : R = ((0, 0), some (overF 0 y1 y2 N)) := by rw [hR]; rfl
                    clear hR
                    have HR := Lib.hid hR'
                    clear hR'
                    go_wp2_with fail
                    refine (over_any 0 y1 N y2 _).mono ?_
                    intro e w3 ho
                    obtain ⟨v, rfl, hl, hb⟩ := lstv_of ho
                    have H4 := H3.next hb
                    clear s0 s1 k0 k1 k2 ls lk t0 t1 f0 f1 lt
                    obtain ⟨⟨t0, t1, f0, f1⟩, lt⟩ := H4.cells
                    go_wp2_with fail
                    exact bodyPost_ret (v := .tuple #[.agg #[.int .i64 0, .int .i32 0], v]) (by simp [results, Try.results6, go_sem, t0, t1]) rfl (by rw [HR.out]; exact ⟨v, rfl, (close_v H4 hl _ _).1, (close_v H4 hl _ _).2⟩)
                · have eL : (L != 0) = true := by rw [bne_iff_ne]; exact hL0
                  have hR' : R = ((n, L), none) := by rw [hR, if_pos hL0]
                  clear hR hL0
                  have HR := Lib.hid hR'
                  clear hR'
                  go_wp2_with fail
                  exact bodyPost_ret (v := .tuple #[.agg #[.int .i64 n, .int .i32 L], .slice none 0 0]) (by simp [results, Try.results6, go_sem, t0, t1]) rfl (by rw [HR.out]; exact ⟨_, rfl, (close_v (v := .slice none 0 0) (o := none) H2 rfl _ _).1, (close_v (v := .slice none 0 0) (o := none) H2 rfl _ _).2⟩)
              · have eq0 : (q != 0) = true := by rw [bne_iff_ne]; exact hq0
                have hq5 : q = 100 ∨ q = 99 ∨ q = 121 ∨ q = 114 ∨ q = 103 := by omega
                have HQ := Lib.hid hq5
                have hR' : R = ((0, 0), some (secF q k r N)) := by rw [hR, if_pos hq0]
                clear hR hq5 hq hq0
                have HR := Lib.hid hR'
                clear hR'
                go_wp2_with fail
                refine (second_any n k r N x _ q HQ.out).mono ?_
                intro e w3 ho
                obtain ⟨v, rfl, hl, hb⟩ := lstv_of ho
                have H4 := H1.next hb
                clear s0 s1 k0 k1 k2 ls lk t0 t1 f0 f1 lt
                obtain ⟨⟨t0, t1, f0, f1⟩, lt⟩ := H4.cells
                go_wp2_with fail
                exact bodyPost_ret (v := .tuple #[.agg #[.int .i64 0, .int .i32 0], v]) (by simp [results, Try.results6, go_sem, t0, t1]) rfl (by rw [HR.out]; exact ⟨v, rfl, (close_v H4 hl _ _).1, (close_v H4 hl _ _).2⟩)
          · have hdd := hd.1 rfl
            have hR : R = ((digitF n r, q), none) := by rw [HR.out]; unfold pastF; rw [if_pos hdd]
            clear HR hd
            obtain ⟨⟨rfl, hr⟩, _⟩ := hdd
            have hr0 : 48 ≤ r ∧ r ≤ 57 := by omega
            obtain ⟨hr0, hr1⟩ := hr0
            clear hr
            have HR := Lib.hid hR
            clear hR hq
            have hc : n < 0 ∨ (0 ≤ n ∧ n ≤ 99) ∨ (99 < n ∧ n ≤ 999) ∨ 999 < n := by omega
            rcases hc with hc | ⟨hc, hc2⟩ | ⟨hc, hc2⟩ | hc
            · have hv : digitF n r = r - 48 := by unfold digitF; omega
              have HV := Lib.hid hv
              clear hv
              go_wp2_with fail
              exact bodyPost_ret (v := .tuple #[.agg #[.int .i64 (r - 48), .int .i32 q], .slice none 0 0]) (by simp [results, Try.results6, go_sem, t0, t1]) rfl (by rw [HR.out, HV.out]; exact ⟨_, rfl, (close_v (v := .slice none 0 0) (o := none) H1 rfl _ _).1, (close_v (v := .slice none 0 0) (o := none) H1 rfl _ _).2⟩)
            · have hv : digitF n r = n * 10 + (r - 48) := by unfold digitF; omega
              have HV := Lib.hid hv
              clear hv
              go_wp2_with fail
              exact bodyPost_ret (v := .tuple #[.agg #[.int .i64 (n * 10 + (r - 48)), .int .i32 q], .slice none 0 0]) (by simp [results, Try.results6, go_sem, t0, t1]) rfl (by rw [HR.out, HV.out]; exact ⟨_, rfl, (close_v (v := .slice none 0 0) (o := none) H1 rfl _ _).1, (close_v (v := .slice none 0 0) (o := none) H1 rfl _ _).2⟩)
            · have hv : digitF n r = 999 := by unfold digitF; omega
              have HV := Lib.hid hv
              clear hv
              go_wp2_with fail
              exact bodyPost_ret (v := .tuple #[.agg #[.int .i64 999, .int .i32 q], .slice none 0 0]) (by simp [results, Try.results6, go_sem, t0, t1]) rfl (by rw [HR.out, HV.out]; exact ⟨_, rfl, (close_v (v := .slice none 0 0) (o := none) H1 rfl _ _).1, (close_v (v := .slice none 0 0) (o := none) H1 rfl _ _).2⟩)
            · have hv : digitF n r = 999 := by unfold digitF; omega
              have HV := Lib.hid hv
              clear hv
              go_wp2_with fail
              exact bodyPost_ret (v := .tuple #[.agg #[.int .i64 999, .int .i32 q], .slice none 0 0]) (by simp [results, Try.results6, go_sem, t0, t1]) rfl (by rw [HR.out, HV.out]; exact ⟨_, rfl, (close_v (v := .slice none 0 0) (o := none) H1 rfl _ _).1, (close_v (v := .slice none 0 0) (o := none) H1 rfl _ _).2⟩)

theorem map_any_v (n op m k r : Int) (x : ByteArray) (w : World) :
    Calls Try.prog 6 #[.agg #[.int .i64 n, .int .i32 op], .int .i64 m, .agg #[.int .i64 k, .int .i32 r, .string x]] w (GivesV (mapV n op m k r) w) := by
  unfold mapV
  by_cases h0 : k = 0
  · subst h0; rw [if_pos rfl]; exact map_zero n op m r x w
  · rw [if_neg h0]; exact map_past n op m k r x w (by rw [beq_eq_false_iff_ne]; exact h0)

end Go.Proofs.Ytpjlpbammgoieaa
