/- BracketsMore: one bracket more makes a complete text incomplete; an incomplete one is complete when its brackets are closed. -/
import Derived.Test.YtkemmnajcbpofaaOpens
namespace Go.Proofs.Ytkemmnajcbpofaa
open Go.RowKit

theorem bytesOf_append (s r : ByteArray) : bytesOf (s ++ r) = bytesOf s ++ bytesOf r := by
  simp [bytesOf, ByteArray.data_append]
theorem bytesOf_extract (s : ByteArray) (i j : Nat) : bytesOf (s.extract i j) = ((bytesOf s).take j).drop i := by
  simp only [bytesOf, ByteArray.data_extract, Array.toList_extract, List.map_take, List.map_drop, List.take_drop]
  by_cases h : i ≤ j
  · rw [show i + (j - i) = j by omega]
  · rw [List.drop_eq_nil_of_le (by rw [List.length_take]; omega), List.drop_eq_nil_of_le (by rw [List.length_take]; omega)]

/-- The three brackets that close. -/
def shutters : ByteArray := ⟨#[41, 93, 125]⟩
def six : ByteArray := ⟨#[40, 41, 91, 93, 123, 125]⟩

theorem shut_at (k : Nat) (hk : k < 3) : bytesOf (shutters.extract k (k + 1)) = [if k = 0 then 41 else if k = 1 then 93 else 125] := by
  have h3 : k = 0 ∨ k = 1 ∨ k = 2 := by omega
  rcases h3 with rfl | rfl | rfl <;> rfl
theorem six_at (k : Nat) (hk : k < 6) : ∃ c, bytesOf (six.extract k (k + 1)) = [c] ∧ (c = 40 ∨ c = 41 ∨ c = 91 ∨ c = 93 ∨ c = 123 ∨ c = 125) := by
  have h6 : k = 0 ∨ k = 1 ∨ k = 2 ∨ k = 3 ∨ k = 4 ∨ k = 5 := by omega
  rcases h6 with rfl | rfl | rfl | rfl | rfl | rfl
  · exact ⟨40, rfl, by simp⟩
  · exact ⟨41, rfl, by simp⟩
  · exact ⟨91, rfl, by simp⟩
  · exact ⟨93, rfl, by simp⟩
  · exact ⟨123, rfl, by simp⟩
  · exact ⟨125, rfl, by simp⟩

theorem not_empty {s : ByteArray} (h : 0 < s.size) : s.toList.isEmpty = false := by
  rw [ByteArray.toList_eq, List.isEmpty_eq_false_iff]
  intro e
  have h1 : s.data.toList.length = 0 := by rw [e]; rfl
  have h2 : s.size = s.data.toList.length := rfl
  omega

set_option maxHeartbeats 400000 in
theorem more_big (A : Option Addr) (n c : Nat) (a b : Int) (w : World) (hn : 40 < n) (hm : n ≤ maxLen) : Calls Try.prog 4 #[.slice A n c, .int .u8 a, .int .u8 b] w fun e w' => e = .returned (.bool true) ∧ Below w.heap.size w w' := by
  unfold maxLen at hm
  go_enter Try.func4, Try.ntmps4
  go_wp2_with fail
  refine (matched_true _).mono ?_
  rintro e w1 ⟨rfl, hb1⟩
  go_wp2_with fail
  go_ret
  exact ⟨rfl, hb1⟩

/-- The walk as far as the first look. -/
def Wrong1 (s : ByteArray) : Prop := (lookF (bytesOf s) 0 []).1 = 2

set_option maxRecDepth 100000 in
set_option maxHeartbeats 800000 in
theorem more_small (A : Option Addr) (l : List Int) (c : Nat) (x y : Int) (w : World) (hl : l.length ≤ 40) (hA : U8s w A l) (hx : 0 ≤ x ∧ x ≤ 255) (hy : 0 ≤ y ∧ y ≤ 255) :
    Calls Try.prog 4 #[.slice A l.length c, .int .u8 x, .int .u8 y] w fun e w' => e = .returned (.bool true) ∧ Below w.heap.size w w' := by
  go_enter Try.func4, Try.ntmps4
  go_wp2_with fail
  refine (some_any A l c w (by omega) hA).mono ?_
  rintro e w1 ⟨s, rfl, hs, hb1⟩
  have hs40 : s.size ≤ 40 := by omega
  clear hA hs hl
  go_wp2_with fail
  refine (row_any s _ (by omega)).mono ?_
  rintro e w2 ⟨A2, c2, rfl, hrow, hb2⟩
  have hbb : Below w.heap.size w w2 := hb1.trans (hb2.mono hb1.size)
  clear hb1 hb2
  go_wp2_with fail
  have hle := look_le (bytesOf s) 0 []
  rw [bytesOf_length] at hle
  simp only [List.length_nil, Nat.zero_add] at hle
  rcases look_three (bytesOf s) with h2 | ⟨h1, hpos⟩ | ⟨h0, h00⟩
  · obtain ⟨a, n, han⟩ : ∃ a n, lookF (bytesOf s) 0 [] = (a, n) := ⟨_, _, rfl⟩
    rw [han] at h2 hle
    simp only at h2 hle
    subst h2
    refine (look_any s A2 c2 _ (by omega) hrow).mono ?_
    rw [han]
    rintro e w3 ⟨rfl, hb3⟩
    have hbb3 : Below w.heap.size w w3 := hbb.trans (hb3.mono hbb.size)
    clear han
    by_cases hn0 : n = 0
    · subst hn0
      go_wp2_with fail
      refine (matched_true _).mono ?_
      rintro e w4 ⟨rfl, hb4⟩
      go_wp2_with fail
      go_ret
      exact ⟨rfl, hbb3.trans (hb4.mono hbb3.size)⟩
    · have z1 : ((n : Int) == 0) = false := by rw [beq_eq_false_iff_ne]; omega
      clear hn0
      go_wp2_with fail
      refine (matched_true _).mono ?_
      rintro e w4 ⟨rfl, hb4⟩
      go_wp2_with fail
      go_ret
      exact ⟨rfl, hbb3.trans (hb4.mono hbb3.size)⟩
  · obtain ⟨a, n, han⟩ : ∃ a n, lookF (bytesOf s) 0 [] = (a, n) := ⟨_, _, rfl⟩
    obtain ⟨st, hrun, hstl⟩ : ∃ st, runS (bytesOf s) 0 [] = some st ∧ st.length = n := by
      rcases look_run (bytesOf s) 0 [] with ⟨_, h⟩ | ⟨st, hr, h⟩
      · omega
      · refine ⟨st, hr, ?_⟩
        rw [han] at h hpos
        by_cases hz : st.length = 0
        · rw [if_pos hz] at h; simp at h hpos; omega
        · rw [if_neg hz] at h; simp at h; exact h.2.symm
    rw [han] at h1 hpos hle
    simp only at h1 hpos hle
    subst h1
    have Hrun := Lib.hid hrun
    have Hst := Lib.hid hstl
    clear hrun hstl hy hx
    have z1 : ((n : Int) == 0) = false := by rw [beq_eq_false_iff_ne]; omega
    refine (look_any s A2 c2 _ (by omega) hrow).mono ?_
    rw [han]
    rintro e w3 ⟨rfl, hb3⟩
    have hbb3 : Below w.heap.size w w3 := hbb.trans (hb3.mono hbb.size)
    have d1 : decide ((n : Int) < 0) = false := by rw [decide_eq_false_iff_not]; omega
    have d2 : decide (s.size < n) = false := by rw [decide_eq_false_iff_not]; omega
    have hn40 : n ≤ 40 := by omega
    clear han hrow hbb hb3
    go_wp2_with fail
    go_loopg [10, 7] n (fun k i v7 wr => ∃ (m : Nat) (sm : ByteArray) (stm : List (Nat × Nat)), m ≤ n ∧ k = n - m ∧ i = .int .i64 m ∧ v7 = .string sm ∧ sm.size ≤ 40 + m ∧ runS (bytesOf sm) 0 [] = some stm ∧ stm.length = n - m ∧ Below w.heap.size w wr)
    case atStart => exact ⟨0, s, st, by omega, by omega, rfl, rfl, by omega, Hrun.out, Hst.out, hbb3⟩
    case round =>
      clear hbb3 Hrun Hst
      obtain ⟨m, sm, stm, hm, hk, rfl, rfl, hsm, hrun, hstl, hb⟩ := hrel
      have Hk := Lib.hid hk
      have Hrun := Lib.hid hrun
      have Hst := Lib.hid hstl
      clear hk hrun hstl
      by_cases hlt : m < n
      · obtain ⟨p, b, r, hst⟩ : ∃ p b r, stm = (p, b) :: r := by
          match stm, Hst.out with
          | [], h => simp at h; omega
          | (p, b) :: r, _ => exact ⟨p, b, r, rfl⟩
        subst hst
        obtain ⟨hb3, hcl, hother⟩ := close_last Hrun.out
        have hlook : lookF (bytesOf sm) 0 [] = (1, n - m) := by
          rcases look_run (bytesOf sm) 0 [] with ⟨h, _⟩ | ⟨st', h, h'⟩
          · rw [Hrun.out] at h; cases h
          · rw [Hrun.out] at h
            cases h
            rw [h', if_neg (by simp), Hst.out]
        obtain ⟨κ, hκ3, hκb⟩ : ∃ κ, κ < 3 ∧ closeN b = (if κ = 0 then 41 else if κ = 1 then 93 else 125) := by
          rcases hb3 with rfl | rfl | rfl
          · exact ⟨0, by omega, rfl⟩
          · exact ⟨1, by omega, rfl⟩
          · exact ⟨2, by omega, rfl⟩
        have hyes : (lookF (bytesOf (sm ++ shutters.extract κ (κ + 1))) 0 []).1 ≠ 2 := by
          rw [bytesOf_append, shut_at κ hκ3, ← hκb]
          rcases look_run (bytesOf sm ++ [closeN b]) 0 [] with ⟨h, _⟩ | ⟨st', h, h'⟩
          · rw [hcl] at h; cases h
          · rw [h']; split <;> simp
        have hno : ∀ k, k < 3 → k ≠ κ → (lookF (bytesOf (sm ++ shutters.extract k (k + 1))) 0 []).1 = 2 := by
          intro k hk hne
          rw [bytesOf_append, shut_at k hk]
          have hh := hother (if k = 0 then 41 else if k = 1 then 93 else 125) (by split <;> (try split) <;> simp) (by rw [hκb]; split <;> split <;> (try split) <;> (try split) <;> omega)
          rcases look_run (bytesOf sm ++ [if k = 0 then 41 else if k = 1 then 93 else 125]) 0 [] with ⟨_, h⟩ | ⟨st', h, h'⟩
          · exact h
          · rw [hh] at h; cases h
        have hnext : runS (bytesOf (sm ++ shutters.extract κ (κ + 1))) 0 [] = some r := by rw [bytesOf_append, shut_at κ hκ3, ← hκb]; exact hcl
        have Hl := Lib.hid hlook
        have HY := Lib.hid hyes
        have HN := Lib.hid hno
        have HX := Lib.hid hnext
        clear hlook hyes hno hnext hcl hother hb3 hκb Hrun
        go_wp2_with fail
        refine (row_any sm _ (by omega)).mono ?_
        rintro e w5 ⟨A5, c5, rfl, hrow5, hb5⟩
        go_wp2_with fail
        refine (look_any sm A5 c5 _ (by omega) hrow5).mono ?_
        rw [Hl.out]
        rintro e w6 ⟨rfl, hb6⟩
        have hb' : Below w.heap.size w w6 := (hb.trans (hb5.mono hb.size)).trans (hb6.mono (Nat.le_trans hb.size hb5.size))
        clear hb hb5 hb6 hrow5 Hl
        obtain ⟨wo, rfl⟩ : ∃ wo : World, wo = wr := ⟨_, rfl⟩
        obtain ⟨go, rfl⟩ : ∃ go : Nat, go = gk := ⟨_, rfl⟩
        go_wp2_with fail
        go_loopg [14, 13] 3 (fun k i v wr => ∃ (j : Nat) (nx : ByteArray), j ≤ 3 ∧ k = 3 - j ∧ i = .int .i64 j ∧ v = .string nx ∧ (κ < j → nx = sm ++ shutters.extract κ (κ + 1)) ∧ Below w.heap.size w wr)
        case atStart => exact ⟨0, ⟨#[]⟩, by omega, rfl, rfl, rfl, fun h => absurd h (by omega), hb'⟩
        case round =>
          clear hb'
          obtain ⟨j, nx, hj, hk, rfl, rfl, hnx, hb⟩ := hrel
          have Hk2 := Lib.hid hk
          have Hnx := Lib.hid hnx
          clear hk hnx
          by_cases hj3 : j < 3
          · go_wp2_with fail
            obtain ⟨t, ht⟩ : ∃ t : ByteArray, sm ++ (ByteArray.mk #[41, 93, 125]).extract j (j + 1) = t := ⟨_, rfl⟩
            have hts : t.size ≤ 82 := by
              rw [← ht, ByteArray.size_append, ByteArray.size_extract]
              have h3 : (ByteArray.mk #[41, 93, 125]).size = 3 := rfl
              rw [h3]; omega
            rw [ht]
            have Ht := Lib.hid (show sm ++ shutters.extract j (j + 1) = t from ht)
            clear ht
            refine (row_any t _ (by omega)).mono ?_
            rintro e w7 ⟨A7, c7, rfl, hrow7, hb7⟩
            go_wp2_with fail
            refine (look_any t A7 c7 _ (by omega) hrow7).mono ?_
            obtain ⟨a, n', han⟩ : ∃ a n, lookF (bytesOf t) 0 [] = (a, n) := ⟨_, _, rfl⟩
            rw [han]
            have Ha := Lib.hid han
            clear han
            rintro e w8 ⟨rfl, hb8⟩
            have hbb8 : Below w.heap.size w w8 := (hb.trans (hb7.mono hb.size)).trans (hb8.mono (Nat.le_trans hb.size hb7.size))
            clear hb hb7 hb8 hrow7
            by_cases hjk : j = κ
            · have z2 : ((a : Int) != 2) = true := by
                have h1 := HY.out
                rw [← hjk, Ht.out, Ha.out] at h1
                rw [bne_iff_ne]
                simp only at h1
                omega
              have Hjk := Lib.hid hjk
              clear hjk
              go_wp2_with fail
              go_roundg (3 - (j + 1))
              case measure => have := Hk2.out; omega
              case rel => exact ⟨j + 1, t, by omega, rfl, by go_num, rfl, fun _ => by rw [← Ht.out, Hjk.out], hbb8⟩
            · have z2 : ((a : Int) != 2) = false := by
                have h1 := HN.out j hj3 hjk
                rw [Ht.out, Ha.out] at h1
                simp only at h1
                subst h1
                rfl
              have Hjk := Lib.hid hjk
              clear hjk
              go_wp2_with fail
              go_roundg (3 - (j + 1))
              case measure => have := Hk2.out; omega
              case rel => exact ⟨j + 1, nx, by omega, rfl, by go_num, rfl, fun h => Hnx.out (by have := Hjk.out; omega), hbb8⟩
          · have hge : 3 ≤ j := by omega
            have hnx := Hnx.out (by omega)
            have hns : nx.size ≤ 40 + (m + 1) ∧ 0 < nx.size := by
              rw [hnx, ByteArray.size_append, ByteArray.size_extract]
              have h3 : shutters.size = 3 := rfl
              rw [h3]; omega
            have hrun' : runS (bytesOf nx) 0 [] = some r := by rw [hnx]; exact HX.out
            have HR := Lib.hid hrun'
            obtain ⟨hns1, hns2⟩ := hns
            have hemp : nx.toList.isEmpty = false := not_empty hns2
            clear hnx hrun' HX HN HY Hnx
            go_wp2_with fail
            go_roundg (n - (m + 1))
            case measure => have := Hk.out; omega
            case rel => exact ⟨m + 1, nx, r, by omega, rfl, by go_num, rfl, hns1, HR.out, by have := Hst.out; simp at this; omega, hb⟩
      · have hge : n ≤ m := by omega
        have hlook : lookF (bytesOf sm) 0 [] = (0, 0) := by
          rcases look_run (bytesOf sm) 0 [] with ⟨h, _⟩ | ⟨st', h, h'⟩
          · rw [Hrun.out] at h; cases h
          · rw [Hrun.out] at h
            cases h
            rw [h', if_pos (by have := Hst.out; omega)]
        have Hl := Lib.hid hlook
        clear hlook Hrun Hst
        go_wp2_with fail
        refine (row_any sm _ (by omega)).mono ?_
        rintro e w5 ⟨A5, c5, rfl, hrow5, hb5⟩
        go_wp2_with fail
        refine (look_any sm A5 c5 _ (by omega) hrow5).mono ?_
        rw [Hl.out]
        rintro e w6 ⟨rfl, hb6⟩
        go_wp2_with fail
        refine (matched_true _).mono ?_
        rintro e w7 ⟨rfl, hb7⟩
        go_wp2_with fail
        go_ret
        have e5 := hb.size
        have e6 := hb5.size
        have e7 := hb6.size
        exact ⟨rfl, ((hb.trans (hb5.mono e5)).trans (hb6.mono (by omega))).trans (hb7.mono (by omega))⟩
  · obtain ⟨a, n, han⟩ : ∃ a n, lookF (bytesOf s) 0 [] = (a, n) := ⟨_, _, rfl⟩
    have Hc := Lib.hid h0
    rw [han] at h0 h00
    simp only at h0 h00
    subst h0
    subst h00
    refine (look_any s A2 c2 _ (by omega) hrow).mono ?_
    rw [han]
    rintro e w3 ⟨rfl, hb3⟩
    have hbb3 : Below w.heap.size w w3 := hbb.trans (hb3.mono hbb.size)
    clear han
    obtain ⟨q, hq, hqs⟩ : ∃ q : Nat, y % ((s.size : Int) + 1) = (q : Int) ∧ q ≤ s.size := by
      have h1 := Int.emod_nonneg y (show ((s.size : Int) + 1) ≠ 0 by omega)
      have h2 := Int.emod_lt_of_pos y (show 0 < ((s.size : Int) + 1) by omega)
      exact ⟨(y % ((s.size : Int) + 1)).toNat, by omega, by omega⟩
    obtain ⟨p, hp, hp6⟩ : ∃ p : Nat, x.tmod 6 = (p : Int) ∧ p < 6 := ⟨(x % 6).toNat, by rw [Int.tmod_eq_emod_of_nonneg hx.1]; omega, by omega⟩
    have z1 : IntKind.u8.wrap ((p : Int) + 1) = (p : Int) + 1 := by rw [IntKind.wrap_u8]; omega
    have z2 : (0 : Int) ≤ (p : Int) := by omega
    have z3 : (p : Int) ≤ (p : Int) + 1 := by omega
    have z4 : (p : Int) + 1 ≤ 6 := by omega
    have z5 : (0 : Int) ≤ (q : Int) := by omega
    have z6 : (q : Int) ≤ (s.size : Int) := by omega
    have y0 := hy.1
    have y1 := hy.2
    clear hx hy
    go_wp2_with fail
    go_quiet (fail)
    obtain ⟨c0, hc0, hc6⟩ := six_at p hp6
    obtain ⟨t, ht⟩ : ∃ t : ByteArray, s.extract 0 q ++ (ByteArray.mk #[40, 41, 91, 93, 123, 125]).extract p (p + 1) ++ s.extract q s.size = t := ⟨_, rfl⟩
    have hbt : bytesOf t = (bytesOf s).take q ++ [c0] ++ (bytesOf s).drop q := by
      rw [← ht, bytesOf_append, bytesOf_append, show bytesOf ((ByteArray.mk #[40, 41, 91, 93, 123, 125]).extract p (p + 1)) = [c0] from hc0, bytesOf_extract, bytesOf_extract, List.drop_zero,
        List.take_of_length_le (i := s.size) (by rw [bytesOf_length]; exact Nat.le_refl _)]
    have hts : t.size ≤ 41 := by
      rw [← bytesOf_length, hbt]
      simp [bytesOf_length]
      omega
    have hne : (lookF (bytesOf t) 0 []).1 ≠ 0 := by
      rw [hbt]
      refine one_more hc6 ?_
      rw [List.take_append_drop]
      exact Hc.out
    rw [ht]
    clear ht hbt hc0 hc6 hp hp6 z1 z2 z3 z4
    obtain ⟨a, n, han⟩ : ∃ a n, lookF (bytesOf t) 0 [] = (a, n) := ⟨_, _, rfl⟩
    rw [han] at hne
    simp only at hne
    have z7 : ((a : Int) != 0) = true := by rw [bne_iff_ne]; omega
    clear hne
    go_wp2_with fail
    refine (row_any t _ (by omega)).mono ?_
    rintro e w5 ⟨A5, c5, rfl, hrow5, hb5⟩
    go_wp2_with fail
    refine (look_any t A5 c5 _ (by omega) hrow5).mono ?_
    rw [han]
    rintro e w6 ⟨rfl, hb6⟩
    clear han
    go_wp2_with fail
    refine (matched_true _).mono ?_
    rintro e w7 ⟨rfl, hb7⟩
    go_wp2_with fail
    go_ret
    have hbn := below_drewN hbb3 nq
    have e5 := hbn.size
    have e6 := hb5.size
    have e7 := hb6.size
    exact ⟨rfl, ((hbn.trans (hb5.mono e5)).trans (hb6.mono (by omega))).trans (hb7.mono (by omega))⟩

theorem more_any (A : Option Addr) (l : List Int) (c : Nat) (x y : Int) (w : World) (hm : l.length ≤ maxLen) (hA : U8s w A l) (hx : (Lit.int .u8 x).wf = true) (hy : (Lit.int .u8 y).wf = true) :
    Calls Try.prog 4 #[.slice A l.length c, .int .u8 x, .int .u8 y] w fun e w' => e = .returned (.bool true) ∧ Below w.heap.size w w' := by
  by_cases h : 40 < l.length
  · exact more_big A _ c x y w h hm
  · exact more_small A l c x y w (by omega) hA (bounds_u8 hx) (bounds_u8 hy)

end Go.Proofs.Ytkemmnajcbpofaa

