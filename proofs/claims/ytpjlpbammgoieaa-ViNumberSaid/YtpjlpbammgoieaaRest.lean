/- ViRest: the law returns true. -/
import Derived.Test.YtpjlpbammgoieaaKeys
namespace Go.Proofs.Ytpjlpbammgoieaa
open Go.RowKit

theorem put_x : putF 120 = ⟨#[120]⟩ := by
  unfold putF isRune Utf8.encode Utf8.valid
  rw [if_pos (by decide)]
  simp
theorem rx_keys : keysF 0 0 (ByteArray.mk #[114, 120]).data.toList = some ⟨24, 0, 1, ⟨#[120]⟩, false⟩ := by
  have h1 : mapV 0 0 2 1 (114 : UInt8).toNat = ((0, 114), none) := by simp [mapV, pastF, isDigit, normF, letterF]
  have h2 : mapV 0 114 2 1 (120 : UInt8).toNat = ((0, 0), some (some ⟨24, 0, 1, putF 120, false⟩)) := by simp [mapV, pastF, isDigit, normF, secF]
  rw [show (ByteArray.mk #[114, 120]).data.toList = [114, 120] from rfl, keysF_cons h1 (by simp), keysF, h2, put_x]

set_option maxRecDepth 100000 in
set_option maxHeartbeats 4000000 in
theorem typed_true (w : World) : Calls Try.prog 5 #[] w fun e w' => e = .returned (.bool true) ∧ Below w.heap.size w w' := by
  have k1 : keysF 0 0 (ByteArray.mk #[50, 100, 119]).data.toList = some ⟨5, 8, 2, ⟨#[]⟩, false⟩ := by rfl
  have k2 : keysF 0 0 (ByteArray.mk #[100, 101]).data.toList = some ⟨5, 10, 1, ⟨#[]⟩, true⟩ := by rfl
  have k3 : keysF 0 0 (ByteArray.mk #[114, 120]).data.toList = some ⟨24, 0, 1, ⟨#[120]⟩, false⟩ := rx_keys
  have k4 : keysF 0 0 (ByteArray.mk #[48]).data.toList = some ⟨3, 2, 1, ⟨#[]⟩, false⟩ := by rfl
  have K1 := Lib.hid k1
  have K2 := Lib.hid k2
  have K3 := Lib.hid k3
  have K4 := Lib.hid k4
  clear k1 k2 k3 k4
  go_enter Try.func5, Try.ntmps5
  go_wp2_with fail
  refine (keys_any _ _ _ (by decide) K1.out).mono ?_
  rintro e w1 ⟨rfl, hb1⟩
  have h1 := heap_alloc_new w1 (.cells #[.int .i64 5, .int .i64 8, .int .i64 2, .string ⟨#[]⟩, .bool false] 34)
  have H1 := hb1.alloc hb1.size (.cells #[.int .i64 5, .int .i64 8, .int .i64 2, .string ⟨#[]⟩, .bool false] 34)
  go_wp2_with fail
  refine (keys_any _ _ _ (by decide) K2.out).mono ?_
  rintro e w2 ⟨rfl, hb2⟩
  have a2 := (hb2.block w1.heap.size (by simp)).trans h1
  have H2 := H1.trans (hb2.mono H1.size)
  clear h1 H1 hb1 hb2
  have l2 := (Array.getElem?_eq_some_iff.1 a2).1
  have h2 := heap_alloc_new w2 (.cells #[.int .i64 5, .int .i64 10, .int .i64 1, .string ⟨#[]⟩, .bool true] 34)
  have g2 := (Below.heap_alloc w2 (.cells #[.int .i64 5, .int .i64 10, .int .i64 1, .string ⟨#[]⟩, .bool true] 34) _ l2).trans a2
  have H3 := H2.alloc H2.size (.cells #[.int .i64 5, .int .i64 10, .int .i64 1, .string ⟨#[]⟩, .bool true] 34)
  clear a2 H2
  go_wp2_with fail
  refine (keys_any _ _ _ (by decide) K3.out).mono ?_
  rintro e w3 ⟨rfl, hb3⟩
  have a3 := (hb3.block w1.heap.size (by simp; omega)).trans g2
  have b3 := (hb3.block w2.heap.size (by simp)).trans h2
  have H4 := H3.trans (hb3.mono H3.size)
  clear h2 g2 H3 hb3 l2
  have l3 := (Array.getElem?_eq_some_iff.1 a3).1
  have m3 := (Array.getElem?_eq_some_iff.1 b3).1
  have h3 := heap_alloc_new w3 (.cells #[.int .i64 24, .int .i64 0, .int .i64 1, .string ⟨#[120]⟩, .bool false] 34)
  have g3 := (Below.heap_alloc w3 (.cells #[.int .i64 24, .int .i64 0, .int .i64 1, .string ⟨#[120]⟩, .bool false] 34) _ l3).trans a3
  have f3 := (Below.heap_alloc w3 (.cells #[.int .i64 24, .int .i64 0, .int .i64 1, .string ⟨#[120]⟩, .bool false] 34) _ m3).trans b3
  have H5 := H4.alloc H4.size (.cells #[.int .i64 24, .int .i64 0, .int .i64 1, .string ⟨#[120]⟩, .bool false] 34)
  clear a3 b3 H4
  go_wp2_with fail
  refine (keys_any _ _ _ (by decide) K4.out).mono ?_
  rintro e w4 ⟨rfl, hb4⟩
  have a4 := (hb4.block w1.heap.size (by simp; omega)).trans g3
  have b4 := (hb4.block w2.heap.size (by simp; omega)).trans f3
  have c4 := (hb4.block w3.heap.size (by simp)).trans h3
  have H6 := H5.trans (hb4.mono H5.size)
  clear h3 g3 f3 H5 hb4 l3 m3
  have la := (Array.getElem?_eq_some_iff.1 a4).1
  have lb := (Array.getElem?_eq_some_iff.1 b4).1
  have lc := (Array.getElem?_eq_some_iff.1 c4).1
  obtain ⟨p0, p1, p2, p3, p4⟩ := cmd_cells (c := ⟨5, 8, 2, ⟨#[]⟩, false⟩) a4
  obtain ⟨q0, q1, q2, q3, q4⟩ := cmd_cells (c := ⟨5, 10, 1, ⟨#[]⟩, true⟩) b4
  obtain ⟨r0, r1, r2, r3, r4⟩ := cmd_cells (c := ⟨24, 0, 1, ⟨#[120]⟩, false⟩) c4
  clear a4 b4 c4 K1 K2 K3 K4
  go_wp2_with fail
  go_ret
  exact ⟨rfl, H6.alloc H6.size _⟩

set_option maxHeartbeats 400000 in
theorem rest_big (n op m k r : Int) (x : ByteArray) (w : World) (hx : 1000 < x.size) (hm : x.size ≤ maxLen) :
    Calls Try.prog 3 #[.agg #[.int .i64 n, .int .i32 op], .int .i64 m, .agg #[.int .i64 k, .int .i32 r, .string x]] w fun e w' => e = .returned (.bool true) ∧ Below w.heap.size w w' := by
  unfold maxLen at hm
  go_enter Try.func3, Try.ntmps3
  go_wp2_with fail
  refine (typed_true _).mono ?_
  rintro e w1 ⟨rfl, hb1⟩
  go_wp2_with fail
  go_ret
  exact ⟨rfl, (((Below.refl _ _).alloc (Nat.le_refl _) _).alloc (by simp) _).trans (hb1.mono (by simp; omega))⟩

theorem Two.alloc {w0 w : World} {n op k r : Int} {x : ByteArray} (H : Two w0 n op k r x w) (o : Obj) : Two w0 n op k r x (w.alloc o) := H.next ((Below.refl _ _).alloc (Nat.le_refl _) _)

/-- A list is short, and says nothing of the state's rest but as the law has it. -/
theorem mapV_shape (n op m k r : Int) : ∃ t0 t1 o, mapV n op m k r = ((t0, t1), o) ∧ (o ≠ none → t0 = 0 ∧ t1 = 0) ∧ (k ≠ 0 → k ≠ 1 → t0 = 0 ∧ t1 = 0) := by
  unfold mapV
  split
  · rename_i h; exact ⟨_, _, _, rfl, fun h => absurd rfl h, fun h' _ => absurd h h'⟩
  · split
    · exact ⟨_, _, _, rfl, fun _ => ⟨rfl, rfl⟩, fun _ _ => ⟨rfl, rfl⟩⟩
    · unfold pastF
      split
      · rename_i h; exact ⟨_, _, _, rfl, fun h => absurd rfl h, fun _ h1 => absurd h.1.1 h1⟩
      · split
        · exact ⟨_, _, _, rfl, fun _ => ⟨rfl, rfl⟩, fun _ _ => ⟨rfl, rfl⟩⟩
        · split
          · rename_i h
            refine ⟨_, _, _, rfl, fun h => absurd rfl h, fun _ h1 => ?_⟩
            exfalso; apply h
            unfold letterF
            rw [if_neg (by omega), if_neg (by omega)]
          · split
            · exact ⟨_, _, _, rfl, fun _ => ⟨rfl, rfl⟩, fun _ _ => ⟨rfl, rfl⟩⟩
            · exact ⟨_, _, _, rfl, fun _ => ⟨rfl, rfl⟩, fun _ _ => ⟨rfl, rfl⟩⟩

theorem lstv_slice {w : World} {v : Value} {o : Option (Option CmdD)} (h : LstV w v o) : ∃ A l c, v = .slice A l c ∧ l ≤ 3 ∧ (o = none → l = 0) := by
  rcases o with _ | _ | c
  · exact ⟨_, _, _, h, by omega, fun _ => rfl⟩
  · obtain ⟨A, l, c, hv, hl⟩ := h; exact ⟨A, l, c, hv, hl, fun h => by cases h⟩
  · obtain ⟨g, hv, _⟩ := h; exact ⟨_, _, _, hv, by omega, fun h => by cases h⟩

set_option maxRecDepth 100000 in
set_option maxHeartbeats 4000000 in
theorem rest_small (n op m k r : Int) (x : ByteArray) (w : World) (hx : x.size ≤ 1000) :
    Calls Try.prog 3 #[.agg #[.int .i64 n, .int .i32 op], .int .i64 m, .agg #[.int .i64 k, .int .i32 r, .string x]] w fun e w' => e = .returned (.bool true) ∧ Below w.heap.size w w' := by
  have H0 := two_start w n op k r x
  obtain ⟨t0, t1, o, hmv, ho, hk⟩ := mapV_shape n op m k r
  have HM := Lib.hid hmv
  have HO := Lib.hid ho
  have HK := Lib.hid hk
  have m0 : mapV n op m 0 r = ((n, op), none) := by unfold mapV; rw [if_pos rfl]
  have M0 := Lib.hid m0
  clear hmv ho hk m0
  go_enter Try.func3, Try.ntmps3
  go_wp2_with fail
  refine (map_any_v n op m k r x _).mono ?_
  rw [HM.out]
  rintro e w1 ⟨v1, rfl, hl1, hb1⟩
  have H1 := H0.next hb1
  clear H0 hb1
  obtain ⟨A, l, c, rfl, hl3, hl0⟩ := lstv_slice hl1
  have HL := Lib.hid hl0
  clear hl1 hl0
  obtain ⟨⟨s0, s1⟩, ⟨k0, k1, k2⟩, ls, lk⟩ := H1.cells
  have h4 : (t0 = 0 ∧ t1 = 0) ∨ (l = 0 ∧ k = 0) ∨ (l = 0 ∧ k = 1) := by
    have a1 := HO.out
    have a2 := HK.out
    have a3 := HL.out
    by_cases hz : t0 = 0 ∧ t1 = 0
    · exact .inl hz
    · have hn : o = none := Classical.byContradiction fun h => hz (a1 h)
      have hl := a3 hn
      by_cases hk0 : k = 0
      · exact .inr (.inl ⟨hl, hk0⟩)
      · by_cases hk1 : k = 1
        · exact .inr (.inr ⟨hl, hk1⟩)
        · exact absurd (a2 hk0 hk1) hz
  clear HO HK HL HM
  rcases h4 with ⟨rfl, rfl⟩ | ⟨rfl, rfl⟩ | ⟨rfl, rfl⟩
  · have hc : (l = 0 ∨ 0 < l) := by omega
    have hkk : k = 0 ∨ k = 1 ∨ ((k != 0) = true ∧ (k != 1) = true) := by
      by_cases h0 : k = 0
      · exact .inl h0
      · by_cases h1 : k = 1
        · exact .inr (.inl h1)
        · exact .inr (.inr ⟨by rw [bne_iff_ne]; exact h0, by rw [bne_iff_ne]; exact h1⟩)
    rcases hc with rfl | hc
    all_goals
      rcases hkk with rfl | rfl | ⟨hk0, hk1⟩
      all_goals
        go_wp2_with fail
        refine (map_any_v n op m 0 r _ _).mono ?_
        rw [M0.out]
        rintro e w2 ⟨v2, rfl, hl2, hb2⟩
        obtain rfl : v2 = .slice none 0 0 := hl2
        have H2 := (H1.alloc _).next hb2
        clear hb2 H1 s0 s1 k0 k1 k2 ls lk
        obtain ⟨⟨s0, s1⟩, ⟨k0, k1, k2⟩, ls, lk⟩ := H2.cells
        go_wp2_with fail
        refine (typed_true _).mono ?_
        rintro e w3 ⟨rfl, hb3⟩
        go_wp2_with fail
        go_ret
        exact ⟨rfl, (H2.old.alloc H2.old.size _).trans (hb3.mono (by have := H2.old.size; simp; omega))⟩
  all_goals
    go_wp2_with fail
    refine (map_any_v n op m 0 r _ _).mono ?_
    rw [M0.out]
    rintro e w2 ⟨v2, rfl, hl2, hb2⟩
    obtain rfl : v2 = .slice none 0 0 := hl2
    have H2 := (H1.alloc _).next hb2
    clear hb2 H1 s0 s1 k0 k1 k2 ls lk
    obtain ⟨⟨s0, s1⟩, ⟨k0, k1, k2⟩, ls, lk⟩ := H2.cells
    go_wp2_with fail
    refine (typed_true _).mono ?_
    rintro e w3 ⟨rfl, hb3⟩
    go_wp2_with fail
    go_ret
    exact ⟨rfl, (H2.old.alloc H2.old.size _).trans (hb3.mono (by have := H2.old.size; simp; omega))⟩

theorem rest_any (n op m k r : Int) (x : ByteArray) (w : World) (hm : x.size ≤ maxLen) :
    Calls Try.prog 3 #[.agg #[.int .i64 n, .int .i32 op], .int .i64 m, .agg #[.int .i64 k, .int .i32 r, .string x]] w fun e w' => e = .returned (.bool true) ∧ Below w.heap.size w w' := by
  by_cases hx : 1000 < x.size
  · exact rest_big n op m k r x w hx hm
  · exact rest_small n op m k r x w (by omega)

end Go.Proofs.Ytpjlpbammgoieaa
