/- The contracts of limnerlaw22.keys and typed. -/
import Derived.Test.YtpjlpbammgoieaaKeysPlain
import Derived.Deep.RegionHeld3
namespace Go.Proofs.Ytpjlpbammgoieaa
open Go.RowKit

theorem size_set (w : World) (p : Addr) (u : Value) : (w.setCell p u).heap.size = w.heap.size := by simp [World.setCell]
theorem cmd_cells {w : World} {g : Nat} {T : TypeId} {c : CmdD} (h : w.heap[g]? = some (.cells (cmdCells c) T (0, 0))) :
    w.cell? ⟨g, 0, none⟩ = some (.int .i64 c.kind) ∧ w.cell? ⟨g, 1, none⟩ = some (.int .i64 c.way) ∧ w.cell? ⟨g, 2, none⟩ = some (.int .i64 c.n) ∧ w.cell? ⟨g, 3, none⟩ = some (.string c.text) ∧ w.cell? ⟨g, 4, none⟩ = some (.bool c.incl) :=
  ⟨cell_of_row w _ 0 _ T (0, 0) h, cell_of_row w _ 1 _ T (0, 0) h, cell_of_row w _ 2 _ T (0, 0) h, cell_of_row w _ 3 _ T (0, 0) h, cell_of_row w _ 4 _ T (0, 0) h⟩

/-- The result's box and the state's. -/
structure Boxes (w0 : World) (n op : Int) (w : World) : Prop where
  t : w.heap[w0.heap.size]? = some (.cells #[.int .i64 0, .int .i64 0, .int .i64 0, .string ⟨#[]⟩, .bool false] 34 (0, 0))
  s : w.heap[w0.heap.size + 1]? = some (.cells #[.int .i64 n, .int .i32 op] 23 (0, 0))
  old : Below w0.heap.size w0 w
theorem Boxes.next {w0 w w' : World} {n op : Int} (H : Boxes w0 n op w) (hb : Below w.heap.size w w') : Boxes w0 n op w' :=
  ⟨(hb.block _ (Array.getElem?_eq_some_iff.1 H.t).1).trans H.t, (hb.block _ (Array.getElem?_eq_some_iff.1 H.s).1).trans H.s, H.old.trans (hb.mono H.old.size)⟩
theorem Boxes.drew {w0 w : World} {n op : Int} (H : Boxes w0 n op w) : Boxes w0 n op w.drew := ⟨H.t, H.s, H.old.drew⟩
theorem Boxes.cells {w0 w : World} {n op : Int} (H : Boxes w0 n op w) :
    (w.cell? ⟨w0.heap.size + 1, 0, none⟩ = some (.int .i64 n) ∧ w.cell? ⟨w0.heap.size + 1, 1, none⟩ = some (.int .i32 op) ∧ w.frozen? ⟨w0.heap.size + 1, 0, none⟩ = false ∧ w.frozen? ⟨w0.heap.size + 1, 1, none⟩ = false) ∧
    (w.frozen? ⟨w0.heap.size, 0, none⟩ = false ∧ w.frozen? ⟨w0.heap.size, 1, none⟩ = false ∧ w.frozen? ⟨w0.heap.size, 2, none⟩ = false ∧ w.frozen? ⟨w0.heap.size, 3, none⟩ = false ∧ w.frozen? ⟨w0.heap.size, 4, none⟩ = false) ∧
    (w.cell? ⟨w0.heap.size, 0, none⟩ = some (.int .i64 0) ∧ w.cell? ⟨w0.heap.size, 1, none⟩ = some (.int .i64 0) ∧ w.cell? ⟨w0.heap.size, 2, none⟩ = some (.int .i64 0) ∧ w.cell? ⟨w0.heap.size, 3, none⟩ = some (.string ⟨#[]⟩) ∧ w.cell? ⟨w0.heap.size, 4, none⟩ = some (.bool false)) ∧
    w0.heap.size < w.heap.size ∧ w0.heap.size + 1 < w.heap.size :=
  ⟨⟨cell_of_row w _ 0 _ 23 (0, 0) H.s, cell_of_row w _ 1 _ 23 (0, 0) H.s, frozen_of_row w _ 0 _ 23 H.s, frozen_of_row w _ 1 _ 23 H.s⟩,
    ⟨frozen_of_row w _ 0 _ 34 H.t, frozen_of_row w _ 1 _ 34 H.t, frozen_of_row w _ 2 _ 34 H.t, frozen_of_row w _ 3 _ 34 H.t, frozen_of_row w _ 4 _ 34 H.t⟩,
    ⟨cell_of_row w _ 0 _ 34 (0, 0) H.t, cell_of_row w _ 1 _ 34 (0, 0) H.t, cell_of_row w _ 2 _ 34 (0, 0) H.t, cell_of_row w _ 3 _ 34 (0, 0) H.t, cell_of_row w _ 4 _ 34 (0, 0) H.t⟩,
    (Array.getElem?_eq_some_iff.1 H.t).1, (Array.getElem?_eq_some_iff.1 H.s).1⟩
theorem boxes_start (w : World) : Boxes w 0 0 ((w.alloc (.cells #[.int .i64 0, .int .i64 0, .int .i64 0, .string ⟨#[]⟩, .bool false] 34)).alloc (.cells #[.int .i64 0, .int .i32 0] 23)) :=
  ⟨(Below.heap_alloc _ _ _ (by simp)).trans (heap_alloc_new w _), two_new _ _ _, ((Below.refl _ _).alloc (Nat.le_refl _) _).alloc (by simp) _⟩

theorem Boxes.alloc {w0 w : World} {n op : Int} (H : Boxes w0 n op w) (o : Obj) : Boxes w0 n op (w.alloc o) := H.next ((Below.refl _ _).alloc (Nat.le_refl _) _)
theorem Boxes.set {w0 w : World} {n op : Int} (H : Boxes w0 n op w) (n' op' : Int) : Boxes w0 n' op' ((w.setCell ⟨w0.heap.size + 1, 0, none⟩ (.int .i64 n')).setCell ⟨w0.heap.size + 1, 1, none⟩ (.int .i32 op')) :=
  ⟨(Below.heap_setCell _ ⟨w0.heap.size + 1, 1, none⟩ _ _ (by simp)).trans ((Below.heap_setCell w ⟨w0.heap.size + 1, 0, none⟩ _ _ (by simp)).trans H.t),
    heap_setCell_same _ _ 1 _ 23 _ (heap_setCell_same w _ 0 _ 23 _ H.s), (H.old.setCell (by simp) _).setCell (by simp) _⟩

def Held (w0 : World) (n op : Int) (w' : World) : Prop := (w'.cell? ⟨w0.heap.size + 1, 0, none⟩ = some (.int .i64 n) ∧ w'.cell? ⟨w0.heap.size + 1, 1, none⟩ = some (.int .i32 op)) ∧ Boxes w0 n op w'
theorem Boxes.held {w0 w : World} {n op : Int} (H : Boxes w0 n op w) : (w.cell? ⟨w0.heap.size + 1, 0, none⟩ = some (.int .i64 n) ∧ w.cell? ⟨w0.heap.size + 1, 1, none⟩ = some (.int .i32 op)) ∧ Boxes w0 n op w := ⟨⟨H.cells.1.1, H.cells.1.2.1⟩, H⟩
theorem Boxes.other {w0 w : World} {n op : Int} (H : Boxes w0 n op w) (p j : Nat) (hp : w0.heap.size + 1 < p) (u : Value) : Boxes w0 n op (w.setCell ⟨p, j, none⟩ u) :=
  ⟨(Below.heap_setCell w ⟨p, j, none⟩ _ _ (by simp; omega)).trans H.t, (Below.heap_setCell w ⟨p, j, none⟩ _ _ (by simp; omega)).trans H.s, H.old.setCell (by simp; omega) _⟩

theorem keysF_last {n op : Int} {b : UInt8} {c : CmdD} (h : keysF n op [b] = some c) : ∃ t, mapV n op 2 1 b.toNat = (t, some (some c)) := by
  rw [keysF] at h
  split at h
  · rename_i t c' hm
    cases h
    exact ⟨_, hm⟩
  · cases h
theorem keysF_more {n op : Int} {b : UInt8} {l : List UInt8} {c : CmdD} (hl : l ≠ []) (h : keysF n op (b :: l) = some c) : ∃ n' op', mapV n op 2 1 b.toNat = ((n', op'), none) ∧ keysF n' op' l = some c := by
  cases l with
  | nil => exact absurd rfl hl
  | cons b' l =>
    rw [keysF] at h
    split at h
    · rename_i n' op' hm
      exact ⟨n', op', hm, h⟩
    · cases h

theorem wrap_u8 (b : UInt8) : IntKind.i32.wrap ((b.toNat : Nat) : Int) = (b.toNat : Int) := by
  have := b.toNat_lt
  rw [IntKind.wrap_i32]; omega

set_option maxHeartbeats 4000000 in
theorem keys_any (s : ByteArray) (c : CmdD) (w : World) (hs : s.size ≤ 1000) (hc : keysF 0 0 s.data.toList = some c) :
    Calls Try.prog 7 #[.string s] w fun e w' => e = .returned (.tuple #[.agg #[.int .i64 c.kind, .int .i64 c.way, .int .i64 c.n, .string c.text, .bool c.incl], .bool true]) ∧ Below w.heap.size w w' := by
  have H0 := boxes_start w
  have HC := Lib.hid hc
  clear hc
  go_enter Try.func7, Try.ntmps7
  go_wp2_with fail
  go_loopg [5] s.size (fun g i wr => ∃ (m : Nat) (n op : Int), m ≤ s.size ∧ g = s.size - m ∧ i = .int .i64 m ∧ keysF n op (s.data.toList.drop m) = some c ∧ Boxes w n op wr)
  case atStart => exact ⟨0, 0, 0, by omega, by omega, rfl, HC.out, H0⟩
  case round =>
    obtain ⟨m, n, op, hm, hg, rfl, hk, H⟩ := hrel
    have Hg := Lib.hid hg
    have hlen : s.data.toList.length = s.size := by simp
    have hlt : m < s.size := by
      rcases Nat.lt_or_ge m s.size with h | h
      · exact h
      · rw [List.drop_eq_nil_of_le (by rw [hlen]; exact h)] at hk; cases hk
    have hd : s.data.toList.drop m = s[m] :: s.data.toList.drop (m + 1) := by
      rw [List.drop_eq_getElem_cons (by rw [hlen]; exact hlt)]
      congr 1
    obtain ⟨⟨s0, s1, f0, f1⟩, ⟨g0, g1, g2, g3, g4⟩, _, lt, ls⟩ := H.cells
    have b1 : (0 : Int) ≤ (m : Int) := by omega
    have b2 : (m : Int) < (s.size : Int) := by omega
    have hw := wrap_u8 s[m]
    rw [hd] at hk
    clear hg hd hlen
    by_cases hlast : m + 1 = s.size
    · have hnil : s.data.toList.drop (m + 1) = [] := List.drop_eq_nil_of_le (by simp; omega)
      rw [hnil] at hk
      obtain ⟨t, hmv⟩ := keysF_last hk
      have HM := Lib.hid hmv
      have e1 : ((m : Int) == (s.size : Int) - 1) = true := by rw [beq_iff_eq]; omega
      have HL := Lib.hid hlast
      clear hk hmv hnil hlast
      go_wp2_with fail
      go_region_held3 (fun w' => (w'.cell? ⟨w.heap.size + 1, 0, none⟩ = some (.int .i64 n) ∧ w'.cell? ⟨w.heap.size + 1, 1, none⟩ = some (.int .i32 op)) ∧ Boxes w n op w')
        (first | exact H.held | exact H.drew.held | exact (H.alloc _).drew.held | exact (H.drew.next hb).held | exact ((H.drew.next hb).alloc _).held | exact ((H.alloc _).drew.next hb).held | exact ((((H.alloc _).drew.next hb).other wr.heap.size 0 (by omega) (.int .i64 t.1)).other wr.heap.size 1 (by omega) (.int .i32 t.2)).held)
        (first
          | (go_at_call 6; (with_reducible refine (map_any_v n op 2 1 _ _ (wr.alloc (.cells #[.int .i64 0, .int .i32 0] 23)).drew).mono ?_); rw [HM.out]; rintro e w1 ⟨v, rfl, ⟨g, rfl, hg⟩, hb⟩; have hbx := (hb.block wr.heap.size (by simp)).trans (heap_alloc_new wr _); have x0 := cell_of_row w1 _ 0 _ 23 (0, 0) hbx; have x1 := cell_of_row w1 _ 1 _ 23 (0, 0) hbx; have y0 := frozen_of_row w1 _ 0 _ 23 hbx; have y1 := frozen_of_row w1 _ 1 _ 23 hbx)
          | (go_at_call 6; (with_reducible refine (map_any_v n op 2 1 _ _ _).mono ?_); rw [HM.out]; rintro e w1 ⟨v, rfl, ⟨g, rfl, hg⟩, hb⟩))
      · have H1 := (H.drew.next hb).alloc (.cells #[.int .i64 t.1, .int .i32 t.2] 23)
        have hg1 := (Below.heap_alloc w1 (.cells #[.int .i64 t.1, .int .i32 t.2] 23) g (Array.getElem?_eq_some_iff.1 hg).1).trans hg
        have lg := (Array.getElem?_eq_some_iff.1 hg1).1
        obtain ⟨c0, c1, c2, c3, c4⟩ := cmd_cells hg1
        clear hg hg1 H hb HM s0 s1 f0 f1 g0 g1 g2 g3 g4 lt ls
        obtain ⟨⟨s0, s1, f0, f1⟩, ⟨g0, g1, g2, g3, g4⟩, ⟨q0, q1, q2, q3, q4⟩, lt, ls⟩ := H1.cells
        have hold := H1.old
        clear H1
        go_wp2_with fail
        exact bodyPost_ret (v := .tuple #[.agg #[.int .i64 c.kind, .int .i64 c.way, .int .i64 c.n, .string c.text, .bool c.incl], .bool true]) (by simp [results, Try.results7, go_sem, q0, q1, q2, q3, q4]) rfl ⟨rfl, ((((hold.setCell (by simp) _).setCell (by simp) _).setCell (by simp) _).setCell (by simp) _).setCell (by simp) _⟩
      · have H1 := (((H.alloc _).drew.next hb).other wr.heap.size 0 (by omega) (.int .i64 t.1)).other wr.heap.size 1 (by omega) (.int .i32 t.2)
        have hgne : g ≠ wr.heap.size := by
          rintro rfl
          rw [hbx] at hg
          injection hg with hg
          injection hg with _ ht
          exact absurd ht (by decide)
        have hg1 := (Below.heap_setCell (w1.setCell ⟨wr.heap.size, 0, none⟩ (.int .i64 t.1)) ⟨wr.heap.size, 1, none⟩ (.int .i32 t.2) g hgne).trans ((Below.heap_setCell w1 ⟨wr.heap.size, 0, none⟩ (.int .i64 t.1) g hgne).trans hg)
        clear hbx
        have lg := (Array.getElem?_eq_some_iff.1 hg1).1
        obtain ⟨c0, c1, c2, c3, c4⟩ := cmd_cells hg1
        clear hg hg1 H hb HM s0 s1 f0 f1 g0 g1 g2 g3 g4 lt ls
        obtain ⟨⟨s0, s1, f0, f1⟩, ⟨g0, g1, g2, g3, g4⟩, ⟨q0, q1, q2, q3, q4⟩, lt, ls⟩ := H1.cells
        have hold := H1.old
        clear H1
        go_wp2_with fail
        exact bodyPost_ret (v := .tuple #[.agg #[.int .i64 c.kind, .int .i64 c.way, .int .i64 c.n, .string c.text, .bool c.incl], .bool true]) (by simp [results, Try.results7, go_sem, q0, q1, q2, q3, q4]) rfl ⟨rfl, ((((hold.setCell (by simp) _).setCell (by simp) _).setCell (by simp) _).setCell (by simp) _).setCell (by simp) _⟩
      · have H1 := (((H.alloc _).drew.next hb).other wr.heap.size 0 (by omega) (.int .i64 t.1)).other wr.heap.size 1 (by omega) (.int .i32 t.2)
        have hgne : g ≠ wr.heap.size := by
          rintro rfl
          rw [hbx] at hg
          injection hg with hg
          injection hg with _ ht
          exact absurd ht (by decide)
        have hg1 := (Below.heap_setCell (w1.setCell ⟨wr.heap.size, 0, none⟩ (.int .i64 t.1)) ⟨wr.heap.size, 1, none⟩ (.int .i32 t.2) g hgne).trans ((Below.heap_setCell w1 ⟨wr.heap.size, 0, none⟩ (.int .i64 t.1) g hgne).trans hg)
        clear hbx
        have lg := (Array.getElem?_eq_some_iff.1 hg1).1
        obtain ⟨c0, c1, c2, c3, c4⟩ := cmd_cells hg1
        clear hg hg1 H hb HM s0 s1 f0 f1 g0 g1 g2 g3 g4 lt ls
        obtain ⟨⟨s0, s1, f0, f1⟩, ⟨g0, g1, g2, g3, g4⟩, ⟨q0, q1, q2, q3, q4⟩, lt, ls⟩ := H1.cells
        have hold := H1.old
        clear H1
        go_wp2_with fail
        exact bodyPost_ret (v := .tuple #[.agg #[.int .i64 c.kind, .int .i64 c.way, .int .i64 c.n, .string c.text, .bool c.incl], .bool true]) (by simp [results, Try.results7, go_sem, q0, q1, q2, q3, q4]) rfl ⟨rfl, ((((hold.setCell (by simp) _).setCell (by simp) _).setCell (by simp) _).setCell (by simp) _).setCell (by simp) _⟩
    · have hne : s.data.toList.drop (m + 1) ≠ [] := fun h => by
        have := congrArg List.length h
        rw [List.length_drop, List.length_nil] at this
        simp at this
        omega
      obtain ⟨n', op', hmv, hk'⟩ := keysF_more hne hk
      have HM := Lib.hid hmv
      have HK := Lib.hid hk'
      have e1 : ((m : Int) == (s.size : Int) - 1) = false := by rw [beq_eq_false_iff_ne]; omega
      clear hk hmv hk' hne
      go_wp2_with fail
      go_region_held3 (fun w' => (w'.cell? ⟨w.heap.size + 1, 0, none⟩ = some (.int .i64 n) ∧ w'.cell? ⟨w.heap.size + 1, 1, none⟩ = some (.int .i32 op)) ∧ Boxes w n op w')
        (first | exact H.held | exact H.drew.held | exact (H.alloc _).drew.held | exact (H.drew.next hb).held | exact ((H.drew.next hb).alloc _).held | exact ((H.alloc _).drew.next hb).held | exact ((((H.alloc _).drew.next hb).other wr.heap.size 0 (by omega) (.int .i64 n')).other wr.heap.size 1 (by omega) (.int .i32 op')).held)
        (first
          | (go_at_call 6; (with_reducible refine (map_any_v n op 2 1 _ _ (wr.alloc (.cells #[.int .i64 0, .int .i32 0] 23)).drew).mono ?_); rw [HM.out]; rintro e w1 ⟨v, rfl, hl, hb⟩; have hbx := (hb.block wr.heap.size (by simp)).trans (heap_alloc_new wr _); have x0 := cell_of_row w1 _ 0 _ 23 (0, 0) hbx; have x1 := cell_of_row w1 _ 1 _ 23 (0, 0) hbx; have y0 := frozen_of_row w1 _ 0 _ 23 hbx; have y1 := frozen_of_row w1 _ 1 _ 23 hbx)
          | (go_at_call 6; (with_reducible refine (map_any_v n op 2 1 _ _ _).mono ?_); rw [HM.out]; rintro e w1 ⟨v, rfl, hl, hb⟩))
      · obtain rfl : v = .slice none 0 0 := hl
        have H1 := (H.drew.next hb).alloc (.cells #[.int .i64 n', .int .i32 op'] 23)
        clear H hb HM s0 s1 f0 f1 g0 g1 g2 g3 g4 lt ls
        obtain ⟨⟨s0, s1, f0, f1⟩, ⟨g0, g1, g2, g3, g4⟩, ⟨q0, q1, q2, q3, q4⟩, lt, ls⟩ := H1.cells
        go_wp2_with fail
        go_roundg (s.size - (m + 1))
        case measure => have := Hg.out; omega
        case rel => exact ⟨m + 1, n', op', by omega, rfl, by go_num, HK.out, H1.set n' op'⟩
      · obtain rfl : v = .slice none 0 0 := hl
        have H1 := (((H.alloc _).drew.next hb).other wr.heap.size 0 (by omega) (.int .i64 n')).other wr.heap.size 1 (by omega) (.int .i32 op')
        clear hbx
        clear H hb HM s0 s1 f0 f1 g0 g1 g2 g3 g4 lt ls
        obtain ⟨⟨s0, s1, f0, f1⟩, ⟨g0, g1, g2, g3, g4⟩, ⟨q0, q1, q2, q3, q4⟩, lt, ls⟩ := H1.cells
        go_wp2_with fail
        go_roundg (s.size - (m + 1))
        case measure => have := Hg.out; omega
        case rel => exact ⟨m + 1, n', op', by omega, rfl, by go_num, HK.out, H1.set n' op'⟩
      · obtain rfl : v = .slice none 0 0 := hl
        have H1 := (((H.alloc _).drew.next hb).other wr.heap.size 0 (by omega) (.int .i64 n')).other wr.heap.size 1 (by omega) (.int .i32 op')
        clear hbx
        clear H hb HM s0 s1 f0 f1 g0 g1 g2 g3 g4 lt ls
        obtain ⟨⟨s0, s1, f0, f1⟩, ⟨g0, g1, g2, g3, g4⟩, ⟨q0, q1, q2, q3, q4⟩, lt, ls⟩ := H1.cells
        go_wp2_with fail
        go_roundg (s.size - (m + 1))
        case measure => have := Hg.out; omega
        case rel => exact ⟨m + 1, n', op', by omega, rfl, by go_num, HK.out, H1.set n' op'⟩

end Go.Proofs.Ytpjlpbammgoieaa
