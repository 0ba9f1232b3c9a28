/- EmacsNumber: digits with Alt make a number, up to 999, that the next key takes. -/
import Derived.Test.YtoepnajioaiaaaaOpens
namespace Go.Proofs.Ytoepnajioaiaaaa
open Go.ChangeShapes Go.WideShapes Go.RowKit

/-- A slice that reads as numbers of eight bits. -/
def U8s (w : World) (A : Option Addr) (l : List Int) : Prop :=
  0 < l.length → ∃ b off, A = some ⟨b, off, none⟩ ∧ b < w.heap.size ∧ ∀ (i : Nat) (x : Int), l[i]? = some x → w.cell? ⟨b, off + i, none⟩ = some (.int .u8 x) ∧ 0 ≤ x ∧ x ≤ 255

set_option maxHeartbeats 400000 in
theorem num_out (A : Option Addr) (n c : Nat) (w : World) (hn : n = 0 ∨ 20 < n) (hm : n ≤ maxLen) :
    Calls Try.prog 3 #[.slice A n c] w fun e w' => e = .returned (.bool true) ∧ Below w.heap.size w w' := by
  unfold maxLen at hm
  rcases hn with rfl | hn
  · go_enter Try.func3, Try.ntmps3
    go_wp2_with fail
    refine (keyed_true _).mono ?_
    rintro e w1 ⟨rfl, hb1⟩
    go_wp2_with fail
    go_ret
    exact ⟨rfl, hb1⟩
  · go_enter Try.func3, Try.ntmps3
    go_wp2_with fail
    refine (keyed_true _).mono ?_
    rintro e w1 ⟨rfl, hb1⟩
    go_wp2_with fail
    go_ret
    exact ⟨rfl, hb1⟩

theorem digit_num (n q : Int) (h0 : 0 ≤ n) (h1 : n ≤ 999) (hq : 0 ≤ q) : digitF n (48 + q) = min (10 * n + q) 999 := by unfold digitF; omega

set_option maxRecDepth 100000 in
set_option maxHeartbeats 1600000 in
theorem num_in (A : Option Addr) (l : List Int) (c : Nat) (w : World) (h0 : 0 < l.length) (hl : l.length ≤ 20) (hA : U8s w A l) :
    Calls Try.prog 3 #[.slice A l.length c] w fun e w' => e = .returned (.bool true) ∧ Below w.heap.size w w' := by
  obtain ⟨b, off, rfl, hbs, hcells⟩ := hA h0
  have hz : ((l.length : Int) == 0) = false := by rw [beq_eq_false_iff_ne]; omega
  go_enter Try.func3, Try.ntmps3
  go_wp2_with fail
  go_loopg [5, 4] l.length (fun g i n wr => ∃ (m : Nat) (z : Int) (hs : Bool), m ≤ l.length ∧ g = l.length - m ∧ i = .int .i64 m ∧ n = .int .i64 z ∧ 0 ≤ z ∧ z ≤ 999 ∧ (0 < m → hs = true) ∧
    wr.heap[w.heap.size]? = some (.cells #[.int .i64 z, .bool hs] 25 (0, 0)) ∧ Below w.heap.size w wr)
  case atStart => exact ⟨0, 0, false, by omega, by omega, rfl, rfl, by omega, by omega, fun h => absurd h (by omega), heap_alloc_new w _, (Below.refl _ _).alloc (Nat.le_refl _) _⟩
  case round =>
    obtain ⟨m, z, hs, hm, hg, rfl, rfl, hz0, hz1, hhs, hbox, hb⟩ := hrel
    have Hg := Lib.hid hg
    have Hh := Lib.hid hhs
    clear hg hhs
    have s0 := cell_of_row wr _ 0 _ 25 (0, 0) hbox
    have s1 := cell_of_row wr _ 1 _ 25 (0, 0) hbox
    have ls := (Array.getElem?_eq_some_iff.1 hbox).1
    by_cases hlt : m < l.length
    · obtain ⟨x, hx⟩ : ∃ x, l[m]? = some x := ⟨l[m], List.getElem?_eq_getElem hlt⟩
      obtain ⟨c0, x0, x1⟩ := hcells m x hx
      have d0 := (hb.cell (p := ⟨b, off + m, none⟩) hbs).trans c0
      clear c0 hx hcells
      clear hA
      by_cases hy : 10 * z + x % 10 ≤ 999
      · have hmap : mapF z hs 7 (48 + x % 10) (putF (48 + x % 10)) ⟨#[]⟩ = (((10 * z + x % 10), true), none) := by
          unfold mapF
          rw [if_pos ⟨rfl, by omega, by omega⟩, digit_num z (x % 10) hz0 hz1 (by omega)]
          rw [show min (10 * z + x % 10) 999 = (10 * z + x % 10) by omega]
        have HM := Lib.hid hmap
        clear hmap
        go_wp2_with fail
        refine (map_any _ _ _ _ _ _).mono ?_
        rw [HM.out]
        rintro e w1 ⟨v1, rfl, hl1, hb1⟩
        obtain rfl : v1 = .slice none 0 0 := hl1
        have box1 := (hb1.block _ ls).trans hbox
        have d1 := (hb1.cell (p := ⟨b, off + m, none⟩) (by have := hb.size; simp; omega)).trans d0
        have lb : b < w1.heap.size := by have := hb.size; have := hb1.size; omega
        have hbb1 : Below w.heap.size w w1 := hb.trans (hb1.mono hb.size)
        have t0 := cell_of_row w1 _ 0 _ 25 (0, 0) box1
        have t1 := cell_of_row w1 _ 1 _ 25 (0, 0) box1
        have f0 := frozen_of_row w1 _ 0 _ 25 box1
        have f1 := frozen_of_row w1 _ 1 _ 25 box1
        have ls1 := (Array.getElem?_eq_some_iff.1 box1).1
        clear hb1 s0 s1 d0 hb hbox ls HM
        go_wp2_with fail
        go_roundg (l.length - (m + 1))
        case measure => have := Hg.out; omega
        case rel =>
          refine ⟨m + 1, (10 * z + x % 10), true, by omega, rfl, by go_num, rfl, by omega, by omega, fun _ => rfl, ?_, ?_⟩
          · exact (Below.heap_alloc _ _ _ (by rw [size_set, size_set]; exact ls1)).trans (heap_setCell_same _ _ 1 _ 25 _ (heap_setCell_same _ _ 0 _ 25 _ box1))
          · exact ((hbb1.setCell (Nat.le_refl _) _).setCell (Nat.le_refl _) _).alloc (by rw [size_set, size_set]; exact hbb1.size) _
      · have hmap : mapF z hs 7 (48 + x % 10) (putF (48 + x % 10)) ⟨#[]⟩ = ((999, true), none) := by
          unfold mapF
          rw [if_pos ⟨rfl, by omega, by omega⟩, digit_num z (x % 10) hz0 hz1 (by omega)]
          rw [show min (10 * z + x % 10) 999 = 999 by omega]
        have HM := Lib.hid hmap
        clear hmap
        go_wp2_with fail
        refine (map_any _ _ _ _ _ _).mono ?_
        rw [HM.out]
        rintro e w1 ⟨v1, rfl, hl1, hb1⟩
        obtain rfl : v1 = .slice none 0 0 := hl1
        have box1 := (hb1.block _ ls).trans hbox
        have d1 := (hb1.cell (p := ⟨b, off + m, none⟩) (by have := hb.size; simp; omega)).trans d0
        have lb : b < w1.heap.size := by have := hb.size; have := hb1.size; omega
        have hbb1 : Below w.heap.size w w1 := hb.trans (hb1.mono hb.size)
        have t0 := cell_of_row w1 _ 0 _ 25 (0, 0) box1
        have t1 := cell_of_row w1 _ 1 _ 25 (0, 0) box1
        have f0 := frozen_of_row w1 _ 0 _ 25 box1
        have f1 := frozen_of_row w1 _ 1 _ 25 box1
        have ls1 := (Array.getElem?_eq_some_iff.1 box1).1
        clear hb1 s0 s1 d0 hb hbox ls HM
        go_wp2_with fail
        go_roundg (l.length - (m + 1))
        case measure => have := Hg.out; omega
        case rel =>
          refine ⟨m + 1, 999, true, by omega, rfl, by go_num, rfl, by omega, by omega, fun _ => rfl, ?_, ?_⟩
          · exact (Below.heap_alloc _ _ _ (by rw [size_set, size_set]; exact ls1)).trans (heap_setCell_same _ _ 1 _ 25 _ (heap_setCell_same _ _ 0 _ 25 _ box1))
          · exact ((hbb1.setCell (Nat.le_refl _) _).setCell (Nat.le_refl _) _).alloc (by rw [size_set, size_set]; exact hbb1.size) _
    · have hge : l.length ≤ m := by omega
      obtain rfl : hs = true := Hh.out (by omega)
      have hmap : mapF z true 6 102 (putF 102) ⟨#[]⟩ = ((0, false), some (cmd 3 1 z)) := rfl
      have HM := Lib.hid hmap
      clear hmap hcells
      go_wp2_with fail
      refine (map_any _ _ _ _ _ _).mono ?_
      rw [HM.out]
      rintro e w1 ⟨v1, rfl, ⟨g, rfl, hg1⟩, hb1⟩
      obtain ⟨c0, c1, c2, c3, c4⟩ := cmd_cells hg1
      change w1.cell? ⟨g, 0, none⟩ = some (.int .i64 3) at c0
      change w1.cell? ⟨g, 1, none⟩ = some (.int .i64 1) at c1
      change w1.cell? ⟨g, 2, none⟩ = some (.int .i64 z) at c2
      change w1.cell? ⟨g, 3, none⟩ = some (.string ⟨#[]⟩) at c3
      change w1.cell? ⟨g, 4, none⟩ = some (.bool false) at c4
      have lg := (Array.getElem?_eq_some_iff.1 hg1).1
      have hbb1 : Below w.heap.size w w1 := hb.trans (hb1.mono hb.size)
      clear hg1 hb1 hb hbox HM
      go_wp2_with fail
      refine (keyed_true _).mono ?_
      rintro e w2 ⟨rfl, hb2⟩
      go_wp2_with fail
      go_ret
      exact ⟨rfl, (hbb1.alloc hbb1.size _).trans (hb2.mono (by have := hbb1.size; simp; omega))⟩

theorem block_lt {w : World} {a : Addr} {v : Value} (h : w.cell? a = some v) : a.block < w.heap.size := by
  rcases Nat.lt_or_ge a.block w.heap.size with hlt | hge
  · exact hlt
  · unfold World.cell? at h; rw [Array.getElem?_eq_none hge] at h; simp at h

theorem add_at (b off k : Nat) : (⟨b, off, none⟩ : Addr).add k = ⟨b, off + k, none⟩ := by
  unfold Addr.add; split <;> simp_all

theorem spot_of {w : World} {a : Addr} {k : Nat} {v : Value} (hk : k = 0) (h : w.cell? (a.add k) = some v) : a.spot = none := by
  subst hk
  have := World.cell?_spot h
  simpa [Addr.add] using this

theorem u8s_of {H : Type} {enc : TypeId × Value → H} {w : World} {spare : Nat → Bool} {held : Bool} {a : Option Addr} {len cap fuel : Nat} {x : DataW H × List MemPlace}
    (h : DataW.trod enc Try.prog w 0 spare held fuel 22 [.slice a len cap] = some x) : ∃ l : List Int, l.length = len ∧ len ≤ maxLen ∧ U8s w a l := by
  rcases open_ints Try.underlying22 Try.underlying5 (by kernel_rfl) h with ⟨hcs, _⟩ | ⟨x, l, c, zs, hcs, _, hl, hm, hz, _, hcell, hwz⟩
  · simp at hcs
    obtain ⟨rfl, rfl, rfl⟩ := hcs
    exact ⟨[], rfl, by simp [maxLen], fun h => absurd h (by simp)⟩
  · simp at hcs
    obtain ⟨rfl, rfl, rfl⟩ := hcs
    have hzl : len ≤ zs.length := by rw [hz]; split <;> omega
    refine ⟨zs.take len, by rw [List.length_take]; omega, by omega, fun hpos => ?_⟩
    have hpos' : 0 < zs.length := by simp at hpos; omega
    obtain ⟨b, off, spot⟩ := x
    have hsp : spot = none := spot_of (a := ⟨b, off, spot⟩) rfl (hcell 0 hpos')
    subst hsp
    refine ⟨b, off, rfl, ?_, fun i t hit => ?_⟩
    · have := block_lt (hcell 0 hpos')
      rw [add_at] at this; exact this
    · rw [List.getElem?_take] at hit
      split at hit
      · have hil := (List.getElem?_eq_some_iff.1 hit).1
        have hmem : t ∈ zs := List.mem_of_getElem? hit
        have hbd := bounds_u8 (hwz t hmem)
        have hh := hcell i hil
        rw [add_at] at hh
        rw [hh, List.getD_eq_getElem?_getD, hit]
        exact ⟨rfl, hbd.1, hbd.2⟩
      · cases hit

theorem num_any (A : Option Addr) (l : List Int) (c : Nat) (w : World) (hm : l.length ≤ maxLen) (hA : U8s w A l) :
    Calls Try.prog 3 #[.slice A l.length c] w fun e w' => e = .returned (.bool true) ∧ Below w.heap.size w w' := by
  by_cases h : l.length = 0 ∨ 20 < l.length
  · exact num_out A _ c w h hm
  · exact num_in A l c w (by omega) (by omega) hA

end Go.Proofs.Ytoepnajioaiaaaa
