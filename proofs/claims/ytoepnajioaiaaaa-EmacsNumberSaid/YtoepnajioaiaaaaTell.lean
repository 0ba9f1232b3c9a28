/- EmacsTell: what any key is to do is the document's. -/
import Derived.Test.YtoepnajioaiaaaaKeyed
namespace Go.Proofs.Ytoepnajioaiaaaa
open Go.RowKit

/-- In the midst of a round: the key's box, the two states' boxes, the two lists. -/
structure Mid (w0 : World) (Bs Bk B7 B9 : Nat) (a : Int) (h : Bool) (a' : Int) (h' : Bool) (k r : Int) (x : ByteArray) (l m : Value) (o : Option CmdD) (w : World) : Prop where
  s : w.heap[Bs]? = some (.cells #[.int .i64 a, .bool h] 25 (0, 0))
  k : w.heap[Bk]? = some (.cells #[.int .i64 k, .int .i32 r, .string x] 30 (0, 0))
  b7 : w.heap[B7]? = some (.cells #[.int .i64 a', .bool h'] 25 (0, 0))
  b9 : w.heap[B9]? = some (.cells #[.int .i64 a', .bool h'] 34 (0, 0))
  l : Lst w 32 l o
  m : Lst w 50 m o
  old : Below w0.heap.size w0 w

section
variable {w0 w w' : World} {Bs Bk B7 B9 : Nat} {a : Int} {h : Bool} {a' : Int} {h' : Bool} {k r : Int} {x : ByteArray} {l m : Value} {o : Option CmdD}
theorem Mid.next (H : Mid w0 Bs Bk B7 B9 a h a' h' k r x l m o w) (hb : Below w.heap.size w w') : Mid w0 Bs Bk B7 B9 a h a' h' k r x l m o w' :=
  ⟨(hb.block _ (Array.getElem?_eq_some_iff.1 H.s).1).trans H.s, (hb.block _ (Array.getElem?_eq_some_iff.1 H.k).1).trans H.k, (hb.block _ (Array.getElem?_eq_some_iff.1 H.b7).1).trans H.b7,
    (hb.block _ (Array.getElem?_eq_some_iff.1 H.b9).1).trans H.b9, H.l.next hb, H.m.next hb, H.old.trans (hb.mono H.old.size)⟩
theorem Mid.drew (H : Mid w0 Bs Bk B7 B9 a h a' h' k r x l m o w) : Mid w0 Bs Bk B7 B9 a h a' h' k r x l m o w.drew := H.next ⟨rfl, rfl, rfl, Nat.le_refl _, fun _ _ => rfl⟩

/-- The cells that the test reads. -/
def Cells7 (Bk B7 B9 : Nat) (a' : Int) (h' : Bool) (k r : Int) (x : ByteArray) (w : World) : Prop :=
  (w.cell? ⟨B7, 0, none⟩ = some (.int .i64 a') ∧ w.cell? ⟨B7, 1, none⟩ = some (.bool h')) ∧ (w.cell? ⟨B9, 0, none⟩ = some (.int .i64 a') ∧ w.cell? ⟨B9, 1, none⟩ = some (.bool h')) ∧
  (w.cell? ⟨Bk, 0, none⟩ = some (.int .i64 k) ∧ w.cell? ⟨Bk, 1, none⟩ = some (.int .i32 r) ∧ w.cell? ⟨Bk, 2, none⟩ = some (.string x))
theorem Mid.cells (H : Mid w0 Bs Bk B7 B9 a h a' h' k r x l m o w) : Cells7 Bk B7 B9 a' h' k r x w :=
  ⟨⟨cell_of_row w _ 0 _ 25 (0, 0) H.b7, cell_of_row w _ 1 _ 25 (0, 0) H.b7⟩, ⟨cell_of_row w _ 0 _ 34 (0, 0) H.b9, cell_of_row w _ 1 _ 34 (0, 0) H.b9⟩,
    ⟨cell_of_row w _ 0 _ 30 (0, 0) H.k, cell_of_row w _ 1 _ 30 (0, 0) H.k, cell_of_row w _ 2 _ 30 (0, 0) H.k⟩⟩

theorem same1_mid (H : Mid w0 Bs Bk B7 B9 a h a' h' k r x l m o w) : Calls Try.prog 9 #[l, m] w fun e w' => e = .returned (.bool true) ∧ Mid w0 Bs Bk B7 B9 a h a' h' k r x l m o w' :=
  (same_any H.l H.m).mono fun _ _ ⟨he, hb⟩ => ⟨he, H.next hb⟩
theorem seek_mid (H : Mid w0 Bs Bk B7 B9 a h a' h' k r x l m o w) : Calls Try.prog 10 #[.agg #[.int .i64 k, .int .i32 r, .string x]] w fun e w' => (∃ v, e = .returned v ∧ Lst w' 32 v (seekF k r (putF r))) ∧ Mid w0 Bs Bk B7 B9 a h a' h' k r x l m o w' :=
  (seek_any k r x w).mono fun _ _ ⟨v, he, hl, hb⟩ => ⟨⟨v, he, hl⟩, H.next hb⟩
theorem rseek_mid {v : Value} {s : Option CmdD} (H : Mid w0 Bs Bk B7 B9 a h a' h' k r x l m o w) (hv : Lst w 32 v s) :
    Calls Try.prog 11 #[.agg #[.int .i64 k, .int .i32 r, .string x]] w fun e w' => (∃ v2, e = .returned v2 ∧ Lst w' 50 v2 (seekF k r (putF r)) ∧ Lst w' 32 v s) ∧ Mid w0 Bs Bk B7 B9 a h a' h' k r x l m o w' :=
  (rseek_any k r x w).mono fun _ _ ⟨v2, he, hl, hb⟩ => ⟨⟨v2, he, hl, hv.next hb⟩, H.next hb⟩
theorem same2_mid {v v2 : Value} {s : Option CmdD} (H : Mid w0 Bs Bk B7 B9 a h a' h' k r x l m o w) (hv : Lst w 32 v s) (hv2 : Lst w 50 v2 s) :
    Calls Try.prog 9 #[v, v2] w fun e w' => e = .returned (.bool true) ∧ Mid w0 Bs Bk B7 B9 a h a' h' k r x l m o w' :=
  (same_any hv hv2).mono fun _ _ ⟨he, hb⟩ => ⟨he, H.next hb⟩
end

theorem size_set (w : World) (p : Addr) (u : Value) : (w.setCell p u).heap.size = w.heap.size := by simp [World.setCell]

set_option maxHeartbeats 400000 in
theorem tell_big (a : Int) (h : Bool) (k r : Int) (x : ByteArray) (w : World) (hx : 1000 < x.size) (hm : x.size ≤ maxLen) :
    Calls Try.prog 4 #[.agg #[.int .i64 a, .bool h], .agg #[.int .i64 k, .int .i32 r, .string x]] w fun e w' => e = .returned (.bool true) ∧ Below w.heap.size w w' := by
  unfold maxLen at hm
  go_enter Try.func4, Try.ntmps4
  go_wp2_with fail
  refine (keyed_true _).mono ?_
  rintro e w1 ⟨rfl, hb1⟩
  go_wp2_with fail
  go_ret
  exact ⟨rfl, (((Below.refl _ _).alloc (Nat.le_refl _) _).alloc (by simp) _).trans (hb1.mono (by simp; omega))⟩

set_option maxRecDepth 100000 in
set_option maxHeartbeats 1600000 in
theorem tell_small (a : Int) (h : Bool) (k r : Int) (x : ByteArray) (w : World) (hx : x.size ≤ 1000) (hr0 : -2147483648 ≤ r) (hr1 : r ≤ 2147483647) :
    Calls Try.prog 4 #[.agg #[.int .i64 a, .bool h], .agg #[.int .i64 k, .int .i32 r, .string x]] w fun e w' => e = .returned (.bool true) ∧ Below w.heap.size w w' := by
  go_enter Try.func4, Try.ntmps4
  go_wp2_with fail
  go_loopg [6] 18 (fun g i wr => ∃ (z k' : Int), -1 ≤ z ∧ z ≤ 17 ∧ g = (17 - z).toNat ∧ i = .int .i64 z ∧ wr.heap[w.heap.size]? = some (.cells #[.int .i64 a, .bool h] 25 (0, 0)) ∧
    wr.heap[w.heap.size + 1]? = some (.cells #[.int .i64 k', .int .i32 r, .string x] 30 (0, 0)) ∧ Below w.heap.size w wr)
  case atStart =>
    refine ⟨-1, k, by omega, by omega, rfl, rfl, ?_, two_new _ _ _, ((Below.refl _ _).alloc (Nat.le_refl _) _).alloc (by simp) _⟩
    exact (Below.heap_alloc _ _ _ (by simp)).trans (heap_alloc_new w _)
  case round =>
    obtain ⟨z, k', hz1, hz2, hg, rfl, hs, hk, hb⟩ := hrel
    have Hg := Lib.hid hg
    clear hg
    have s0 := cell_of_row wr _ 0 _ 25 (0, 0) hs
    have s1 := cell_of_row wr _ 1 _ 25 (0, 0) hs
    have k0 := cell_of_row wr _ 0 _ 30 (0, 0) hk
    have k1 := cell_of_row wr _ 1 _ 30 (0, 0) hk
    have k2 := cell_of_row wr _ 2 _ 30 (0, 0) hk
    have f0 := frozen_of_row wr _ 0 _ 30 hk
    by_cases hlt : z ≤ 16
    · by_cases hneg : z < 0
      · have hk' : ((wr.setCell ⟨w.heap.size + 1, 0, none⟩ (.int .i64 z)).setCell ⟨w.heap.size + 1, 0, none⟩ (.int .i64 k)).heap[w.heap.size + 1]? = some (.cells #[.int .i64 k, .int .i32 r, .string x] 30 (0, 0)) :=
          heap_setCell_same _ _ 0 _ 30 _ (heap_setCell_same wr _ 0 _ 30 _ hk)
        have hs' : ((wr.setCell ⟨w.heap.size + 1, 0, none⟩ (.int .i64 z)).setCell ⟨w.heap.size + 1, 0, none⟩ (.int .i64 k)).heap[w.heap.size]? = some (.cells #[.int .i64 a, .bool h] 25 (0, 0)) :=
          (Below.heap_setCell _ _ _ _ (by simp)).trans ((Below.heap_setCell _ _ _ _ (by simp)).trans hs)
        have hb' := (hb.setCell (p := ⟨w.heap.size + 1, 0, none⟩) (by simp) (.int .i64 z)).setCell (p := ⟨w.heap.size + 1, 0, none⟩) (by simp) (.int .i64 k)
        have s0' := cell_of_row _ _ 0 _ 25 (0, 0) hs'
        go_wp2_with fail
        refine (map_any a h k r x _).mono ?_
        obtain ⟨a', h', o, hm⟩ : ∃ a' h' o, mapF a h k r (putF r) x = ((a', h'), o) := ⟨_, _, _, rfl⟩
        rw [hm]
        have HM := Lib.hid hm
        clear hm s0'
        rintro e w1 ⟨v1, rfl, hl1, hb1⟩
        have s1' := (hb1.block _ (by simp only [size_set]; exact (Array.getElem?_eq_some_iff.1 hs).1)).trans hs'
        have k1' := (hb1.block _ (by simp only [size_set]; exact (Array.getElem?_eq_some_iff.1 hk).1)).trans hk'
        have hbb1 : Below w.heap.size w w1 := hb'.trans (hb1.mono hb'.size)
        clear hb1 hs' hk' hb' s0 s1 k0 k1 k2 f0 hs hk hb
        have s0 := cell_of_row w1 _ 0 _ 25 (0, 0) s1'
        have s1 := cell_of_row w1 _ 1 _ 25 (0, 0) s1'
        have k0 := cell_of_row w1 _ 0 _ 30 (0, 0) k1'
        have k1 := cell_of_row w1 _ 1 _ 30 (0, 0) k1'
        have k2 := cell_of_row w1 _ 2 _ 30 (0, 0) k1'
        have ls := (Array.getElem?_eq_some_iff.1 s1').1
        have lk := (Array.getElem?_eq_some_iff.1 k1').1
        go_wp2_with fail
        refine (rmap_any a h k r x _ hr0 hr1).mono ?_
        rw [HM.out]
        rintro e w2 ⟨v2, rfl, hl2, hb2⟩
        have H : Mid w w.heap.size (w.heap.size + 1) w1.heap.size w2.heap.size a h a' h' k r x v1 v2 o (w2.alloc (.cells #[.int .i64 a', .bool h'] 34)) := by
          have e2 := hb2.size
          simp at e2
          refine ⟨?_, ?_, ?_, heap_alloc_new w2 _, ?_, ?_, ?_⟩
          · exact ((Below.heap_alloc _ _ _ (by omega)).trans (hb2.block _ (by simp; omega))).trans ((Below.heap_alloc _ _ _ ls).trans s1')
          · exact ((Below.heap_alloc _ _ _ (by omega)).trans (hb2.block _ (by simp; omega))).trans ((Below.heap_alloc _ _ _ lk).trans k1')
          · exact ((Below.heap_alloc _ _ _ (by omega)).trans (hb2.block _ (by simp))).trans (heap_alloc_new w1 _)
          · exact ((hl1.next ((Below.refl _ _).alloc (Nat.le_refl _) _)).next hb2).next ((Below.refl _ _).alloc (Nat.le_refl _) _)
          · exact hl2.next ((Below.refl _ _).alloc (Nat.le_refl _) _)
          · exact ((hbb1.alloc hbb1.size _).trans (hb2.mono (by have := hbb1.size; simp; omega))).alloc (by have := hbb1.size; omega) _
        clear hl1 hl2 hb2 s0 s1 k0 k1 k2 s1' k1' hbb1 ls lk HM
        have C := H.cells
        go_wp2_with fail
        go_region_held3 (fun w' => ((w'.cell? ⟨w1.heap.size, 0, none⟩ = some (.int .i64 a') ∧ w'.cell? ⟨w1.heap.size, 1, none⟩ = some (.bool h')) ∧ (w'.cell? ⟨w2.heap.size, 0, none⟩ = some (.int .i64 a') ∧ w'.cell? ⟨w2.heap.size, 1, none⟩ = some (.bool h')) ∧
            (w'.cell? ⟨w.heap.size + 1, 0, none⟩ = some (.int .i64 k) ∧ w'.cell? ⟨w.heap.size + 1, 1, none⟩ = some (.int .i32 r) ∧ w'.cell? ⟨w.heap.size + 1, 2, none⟩ = some (.string x))) ∧ Mid w w.heap.size (w.heap.size + 1) w1.heap.size w2.heap.size a h a' h' k r x v1 v2 o w')
          (first | exact ⟨C, H.drew⟩ | exact ⟨H4.cells, H4⟩ | exact ⟨H3.cells, H3⟩ | exact ⟨H2.cells, H2⟩ | exact ⟨H1.cells, H1⟩)
          (first
            | (go_at_call 9; (with_reducible refine (same1_mid (w0 := w) (Bs := w.heap.size) (Bk := w.heap.size + 1) (B7 := w1.heap.size) (B9 := w2.heap.size) (a := a) (h := h) (a' := a') (h' := h') (k := k) (r := r) (x := x) (l := v1) (m := v2) (o := o) ?_).mono ?_); (exact H.drew); rintro e w3 ⟨rfl, H1⟩)
            | (go_at_call 10; (with_reducible refine (seek_mid (w0 := w) (Bs := w.heap.size) (Bk := w.heap.size + 1) (B7 := w1.heap.size) (B9 := w2.heap.size) (a := a) (h := h) (a' := a') (h' := h') (k := k) (r := r) (x := x) (l := v1) (m := v2) (o := o) ?_).mono ?_); (exact H1); rintro e w4 ⟨⟨v3, rfl, hl3⟩, H2⟩)
            | (go_at_call 11; (with_reducible refine (rseek_mid (w0 := w) (Bs := w.heap.size) (Bk := w.heap.size + 1) (B7 := w1.heap.size) (B9 := w2.heap.size) (a := a) (h := h) (a' := a') (h' := h') (k := k) (r := r) (x := x) (l := v1) (m := v2) (o := o) ?_ hl3).mono ?_); (exact H2); rintro e w5 ⟨⟨v4, rfl, hl4, hl5⟩, H3⟩)
            | (go_at_call 9; (with_reducible refine (same2_mid (w0 := w) (Bs := w.heap.size) (Bk := w.heap.size + 1) (B7 := w1.heap.size) (B9 := w2.heap.size) (a := a) (h := h) (a' := a') (h' := h') (k := k) (r := r) (x := x) (l := v1) (m := v2) (o := o) ?_ hl5 hl4).mono ?_); (exact H3); rintro e w6 ⟨rfl, H4⟩))
        go_wp2_with fail
        go_roundg ((17 - (z + 1)).toNat)
        case measure => have := Hg.out; omega
        case rel => exact ⟨z + 1, k, by omega, by omega, rfl, by go_num, H4.s, H4.k, H4.old⟩
      · have hneg' : 0 ≤ z := by omega
        clear hneg
        have hk' : (wr.setCell ⟨w.heap.size + 1, 0, none⟩ (.int .i64 z)).heap[w.heap.size + 1]? = some (.cells #[.int .i64 z, .int .i32 r, .string x] 30 (0, 0)) := heap_setCell_same wr _ 0 _ 30 _ hk
        have hs' : (wr.setCell ⟨w.heap.size + 1, 0, none⟩ (.int .i64 z)).heap[w.heap.size]? = some (.cells #[.int .i64 a, .bool h] 25 (0, 0)) := (Below.heap_setCell _ _ _ _ (by simp)).trans hs
        have hb' := hb.setCell (p := ⟨w.heap.size + 1, 0, none⟩) (by simp) (.int .i64 z)
        have s0' := cell_of_row _ _ 0 _ 25 (0, 0) hs'
        go_wp2_with fail
        refine (map_any a h z r x _).mono ?_
        obtain ⟨a', h', o, hm⟩ : ∃ a' h' o, mapF a h z r (putF r) x = ((a', h'), o) := ⟨_, _, _, rfl⟩
        rw [hm]
        have HM := Lib.hid hm
        clear hm s0'
        rintro e w1 ⟨v1, rfl, hl1, hb1⟩
        have s1' := (hb1.block _ (by simp only [size_set]; exact (Array.getElem?_eq_some_iff.1 hs).1)).trans hs'
        have k1' := (hb1.block _ (by simp only [size_set]; exact (Array.getElem?_eq_some_iff.1 hk).1)).trans hk'
        have hbb1 : Below w.heap.size w w1 := hb'.trans (hb1.mono hb'.size)
        clear hb1 hs' hk' hb' s0 s1 k0 k1 k2 f0 hs hk hb
        have s0 := cell_of_row w1 _ 0 _ 25 (0, 0) s1'
        have s1 := cell_of_row w1 _ 1 _ 25 (0, 0) s1'
        have k0 := cell_of_row w1 _ 0 _ 30 (0, 0) k1'
        have k1 := cell_of_row w1 _ 1 _ 30 (0, 0) k1'
        have k2 := cell_of_row w1 _ 2 _ 30 (0, 0) k1'
        have ls := (Array.getElem?_eq_some_iff.1 s1').1
        have lk := (Array.getElem?_eq_some_iff.1 k1').1
        go_wp2_with fail
        refine (rmap_any a h z r x _ hr0 hr1).mono ?_
        rw [HM.out]
        rintro e w2 ⟨v2, rfl, hl2, hb2⟩
        have H : Mid w w.heap.size (w.heap.size + 1) w1.heap.size w2.heap.size a h a' h' z r x v1 v2 o (w2.alloc (.cells #[.int .i64 a', .bool h'] 34)) := by
          have e2 := hb2.size
          simp at e2
          refine ⟨?_, ?_, ?_, heap_alloc_new w2 _, ?_, ?_, ?_⟩
          · exact ((Below.heap_alloc _ _ _ (by omega)).trans (hb2.block _ (by simp; omega))).trans ((Below.heap_alloc _ _ _ ls).trans s1')
          · exact ((Below.heap_alloc _ _ _ (by omega)).trans (hb2.block _ (by simp; omega))).trans ((Below.heap_alloc _ _ _ lk).trans k1')
          · exact ((Below.heap_alloc _ _ _ (by omega)).trans (hb2.block _ (by simp))).trans (heap_alloc_new w1 _)
          · exact ((hl1.next ((Below.refl _ _).alloc (Nat.le_refl _) _)).next hb2).next ((Below.refl _ _).alloc (Nat.le_refl _) _)
          · exact hl2.next ((Below.refl _ _).alloc (Nat.le_refl _) _)
          · exact ((hbb1.alloc hbb1.size _).trans (hb2.mono (by have := hbb1.size; simp; omega))).alloc (by have := hbb1.size; omega) _
        clear hl1 hl2 hb2 s0 s1 k0 k1 k2 s1' k1' hbb1 ls lk HM
        have C := H.cells
        go_wp2_with fail
        go_region_held3 (fun w' => ((w'.cell? ⟨w1.heap.size, 0, none⟩ = some (.int .i64 a') ∧ w'.cell? ⟨w1.heap.size, 1, none⟩ = some (.bool h')) ∧ (w'.cell? ⟨w2.heap.size, 0, none⟩ = some (.int .i64 a') ∧ w'.cell? ⟨w2.heap.size, 1, none⟩ = some (.bool h')) ∧
            (w'.cell? ⟨w.heap.size + 1, 0, none⟩ = some (.int .i64 z) ∧ w'.cell? ⟨w.heap.size + 1, 1, none⟩ = some (.int .i32 r) ∧ w'.cell? ⟨w.heap.size + 1, 2, none⟩ = some (.string x))) ∧ Mid w w.heap.size (w.heap.size + 1) w1.heap.size w2.heap.size a h a' h' z r x v1 v2 o w')
          (first | exact ⟨C, H.drew⟩ | exact ⟨H4.cells, H4⟩ | exact ⟨H3.cells, H3⟩ | exact ⟨H2.cells, H2⟩ | exact ⟨H1.cells, H1⟩)
          (first
            | (go_at_call 9; (with_reducible refine (same1_mid (w0 := w) (Bs := w.heap.size) (Bk := w.heap.size + 1) (B7 := w1.heap.size) (B9 := w2.heap.size) (a := a) (h := h) (a' := a') (h' := h') (k := z) (r := r) (x := x) (l := v1) (m := v2) (o := o) ?_).mono ?_); (exact H.drew); rintro e w3 ⟨rfl, H1⟩)
            | (go_at_call 10; (with_reducible refine (seek_mid (w0 := w) (Bs := w.heap.size) (Bk := w.heap.size + 1) (B7 := w1.heap.size) (B9 := w2.heap.size) (a := a) (h := h) (a' := a') (h' := h') (k := z) (r := r) (x := x) (l := v1) (m := v2) (o := o) ?_).mono ?_); (exact H1); rintro e w4 ⟨⟨v3, rfl, hl3⟩, H2⟩)
            | (go_at_call 11; (with_reducible refine (rseek_mid (w0 := w) (Bs := w.heap.size) (Bk := w.heap.size + 1) (B7 := w1.heap.size) (B9 := w2.heap.size) (a := a) (h := h) (a' := a') (h' := h') (k := z) (r := r) (x := x) (l := v1) (m := v2) (o := o) ?_ hl3).mono ?_); (exact H2); rintro e w5 ⟨⟨v4, rfl, hl4, hl5⟩, H3⟩)
            | (go_at_call 9; (with_reducible refine (same2_mid (w0 := w) (Bs := w.heap.size) (Bk := w.heap.size + 1) (B7 := w1.heap.size) (B9 := w2.heap.size) (a := a) (h := h) (a' := a') (h' := h') (k := z) (r := r) (x := x) (l := v1) (m := v2) (o := o) ?_ hl5 hl4).mono ?_); (exact H3); rintro e w6 ⟨rfl, H4⟩))
        go_wp2_with fail
        go_roundg ((17 - (z + 1)).toNat)
        case measure => have := Hg.out; omega
        case rel => exact ⟨z + 1, z, by omega, by omega, rfl, by go_num, H4.s, H4.k, H4.old⟩
    · have hge : 16 < z := by omega
      go_wp2_with fail
      refine (keyed_true _).mono ?_
      rintro e w1 ⟨rfl, hb1⟩
      go_wp2_with fail
      go_ret
      exact ⟨rfl, hb.trans (hb1.mono hb.size)⟩

theorem tell_any (a : Int) (h : Bool) (k r : Int) (x : ByteArray) (w : World) (hm : x.size ≤ maxLen) (hr0 : -2147483648 ≤ r) (hr1 : r ≤ 2147483647) :
    Calls Try.prog 4 #[.agg #[.int .i64 a, .bool h], .agg #[.int .i64 k, .int .i32 r, .string x]] w fun e w' => e = .returned (.bool true) ∧ Below w.heap.size w w' := by
  by_cases hx : 1000 < x.size
  · exact tell_big a h k r x w hx hm
  · exact tell_small a h k r x w (by omega) hr0 hr1

end Go.Proofs.Ytoepnajioaiaaaa
