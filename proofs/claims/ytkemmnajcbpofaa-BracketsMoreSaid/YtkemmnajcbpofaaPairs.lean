/- BracketsPairs: two brackets that belong to each other are told of each other, and what lies between them. -/
import Derived.Test.YtkemmnajcbpofaaMatched
import Derived.Test.YtkemmnajcbpofaaLaws
namespace Go.Proofs.Ytkemmnajcbpofaa
open Go.RowKit

set_option maxHeartbeats 400000 in
theorem pairs_big (A : Option Addr) (n c : Nat) (w : World) (hn : 60 < n) (hm : n ≤ maxLen) : Calls Try.prog 3 #[.slice A n c] w fun e w' => e = .returned (.bool true) ∧ Below w.heap.size w w' := by
  unfold maxLen at hm
  go_enter Try.func3, Try.ntmps3
  go_wp2_with fail
  refine (matched_true _).mono ?_
  rintro e w1 ⟨rfl, hb1⟩
  go_wp2_with fail
  go_ret
  exact ⟨rfl, hb1⟩

set_option maxRecDepth 100000 in
set_option maxHeartbeats 800000 in
theorem pairs_small (A : Option Addr) (l : List Int) (c : Nat) (w : World) (hl : l.length ≤ 60) (hA : U8s w A l) : Calls Try.prog 3 #[.slice A l.length c] w fun e w' => e = .returned (.bool true) ∧ Below w.heap.size w w' := by
  go_enter Try.func3, Try.ntmps3
  go_wp2_with fail
  refine (some_any A l c w (by omega) hA).mono ?_
  rintro e w1 ⟨s, rfl, hs, hb1⟩
  have hs60 : s.size ≤ 60 := by omega
  clear hA hs hl
  go_wp2_with fail
  refine (row_any s _ (by omega)).mono ?_
  rintro e w2 ⟨A2, c2, rfl, hrow, hb2⟩
  have hbb : Below w.heap.size w w2 := hb1.trans (hb2.mono hb1.size)
  clear hb1 hb2
  go_wp2_with fail
  go_loopg [5] s.size (fun k i wr => ∃ m : Nat, m ≤ s.size ∧ k = s.size - m ∧ i = .int .i64 m ∧ RowOf wr A2 s ∧ Below w.heap.size w wr)
  case atStart => exact ⟨0, by omega, by omega, rfl, hrow, hbb⟩
  case round =>
    clear hrow hbb
    obtain ⟨m, hm, hk, rfl, hrow, hb⟩ := hrel
    have Hk := Lib.hid hk
    clear hk
    by_cases hlt : m < s.size
    · rcases match_at (bytesOf s) m with ⟨h1, h2⟩ | ⟨h1, _⟩
      · obtain ⟨k, hk⟩ : ∃ k, (matchF (m : Int) (bytesOf s) 0 []).1 = k := ⟨_, rfl⟩
        rw [hk] at h2
        clear h1 hk
        obtain ⟨p, q, hev, hpq⟩ : ∃ p q, Ev (bytesOf s) p q ∧ ((p = m ∧ q = k) ∨ (q = m ∧ p = k)) := by
          rcases h2 with h2 | h2
          · exact ⟨m, k, h2, .inl ⟨rfl, rfl⟩⟩
          · exact ⟨k, m, h2, .inr ⟨rfl, rfl⟩⟩
        clear h2
        obtain ⟨hlt1, hq⟩ := hev.bound
        rw [bytesOf_length] at hq
        have hL := Lib.hid (match_of_left hev)
        have hR := Lib.hid (match_of_right hev)
        have hD := Lib.hid (show depthF (p : Int) (bytesOf s) 0 [] = depthF ((q : Int) + 1) (bytesOf s) 0 [] from depths_same hev)
        have z1 : ((q : Int) == (p : Int)) = false := by rw [beq_eq_false_iff_ne]; omega
        have z2 : ((p : Int) == (q : Int)) = false := by rw [beq_eq_false_iff_ne]; omega
        rcases hpq with ⟨rfl, rfl⟩ | ⟨rfl, rfl⟩
        · obtain ⟨wo, rfl⟩ : ∃ wo : World, wo = wr := ⟨_, rfl⟩
          obtain ⟨go, rfl⟩ : ∃ go : Nat, go = gk := ⟨_, rfl⟩
          go_wp2_with fail
          refine (match_any s A2 c2 _ _ (by omega) hrow).mono ?_
          rw [hL.out]
          rintro e w3 ⟨rfl, hb3⟩
          have hrow3 := hrow.next hb3
          have hbb3 : Below w.heap.size w w3 := hb.trans (hb3.mono hb.size)
          clear hrow hb hb3
          go_wp2_with fail
          refine (match_any s A2 c2 _ _ (by omega) hrow3).mono ?_
          rw [hR.out]
          rintro e w4 ⟨rfl, hb4⟩
          have hrow4 := hrow3.next hb4
          have hbb4 : Below w.heap.size w w4 := hbb3.trans (hb4.mono hbb3.size)
          clear hrow3 hbb3 hb4
          go_wp2_with fail
          refine (depth_any s A2 c2 _ _ (by omega) hrow4).mono ?_
          rw [hD.out]
          rintro e w5 ⟨rfl, hb5⟩
          have hrow5 := hrow4.next hb5
          have hbb5 : Below w.heap.size w w5 := hbb4.trans (hb5.mono hbb4.size)
          clear hrow4 hbb4 hb5
          go_wp2_with fail
          refine (depth_any s A2 c2 _ _ (by omega) hrow5).mono ?_
          rintro e w6 ⟨rfl, hb6⟩
          have hrow6 := hrow5.next hb6
          have hbb6 : Below w.heap.size w w6 := hbb5.trans (hb6.mono hbb5.size)
          clear hrow5 hbb5 hb6
          go_wp2_with fail
          go_loopg [10] (q - (p + 1)) (fun k i wr => ∃ j : Nat, p < j ∧ j ≤ q ∧ k = q - j ∧ i = .int .i64 j ∧ RowOf wr A2 s ∧ Below w.heap.size w wr)
          case atStart => exact ⟨p + 1, by omega, by omega, rfl, by go_num, hrow6, hbb6⟩
          case round =>
            clear hrow6 hbb6
            obtain ⟨j, hj1, hj2, hk, rfl, hrow, hb⟩ := hrel
            have Hk2 := Lib.hid hk
            clear hk
            by_cases hjq : j < q
            · have hjs : j < s.size := by omega
              have hbt := between hev hj1 hjq (bytesOf_get s j hjs)
              obtain ⟨b, rfl, hbs, hcells⟩ := hrow (by omega)
              rcases hbt with ⟨hk3, hM⟩ | ⟨hk3, x, hM, hx1, hx2⟩
              · have hM := Lib.hid hM
                have hc0 := (hcells j hjs).1
                rw [hk3] at hc0
                clear hk3
                go_wp2_with fail
                refine (match_any s _ c2 _ _ (by omega) hrow).mono ?_
                rw [hM.out]
                rintro e w7 ⟨rfl, hb7⟩
                have d0 := (hb7.cell (p := ⟨b, j * 3, none⟩) hbs).trans hc0
                clear hcells hc0
                go_wp2_with fail
                go_roundg (q - (j + 1))
                case measure => have := Hk2.out; omega
                case rel => exact ⟨j + 1, by omega, by omega, rfl, by go_num, hrow.next hb7, hb.trans (hb7.mono hb.size)⟩
              · have hM := Lib.hid hM
                have hc0 := (hcells j hjs).1
                obtain ⟨κ, hκ⟩ : ∃ κ, kindB (s[j]).toNat = κ := ⟨_, rfl⟩
                rw [hκ] at hc0 hk3
                have hne : ((κ : Int) != 3) = true := by rw [bne_iff_ne]; omega
                clear hk3 hκ
                go_wp2_with fail
                refine (match_any s _ c2 _ _ (by omega) hrow).mono ?_
                rw [hM.out]
                rintro e w7 ⟨rfl, hb7⟩
                have d0 := (hb7.cell (p := ⟨b, j * 3, none⟩) hbs).trans hc0
                clear hcells hc0
                go_wp2_with fail
                go_roundg (q - (j + 1))
                case measure => have := Hk2.out; omega
                case rel => exact ⟨j + 1, by omega, by omega, rfl, by go_num, hrow.next hb7, hb.trans (hb7.mono hb.size)⟩
            · have hge : q ≤ j := by omega
              go_wp2_with fail
              go_roundg (s.size - (p + 1))
              case measure => have := Hk.out; omega
              case rel => exact ⟨p + 1, by omega, rfl, by go_num, hrow, hb⟩
        · obtain ⟨wo, rfl⟩ : ∃ wo : World, wo = wr := ⟨_, rfl⟩
          obtain ⟨go, rfl⟩ : ∃ go : Nat, go = gk := ⟨_, rfl⟩
          go_wp2_with fail
          refine (match_any s A2 c2 _ _ (by omega) hrow).mono ?_
          rw [hR.out]
          rintro e w3 ⟨rfl, hb3⟩
          have hrow3 := hrow.next hb3
          have hbb3 : Below w.heap.size w w3 := hb.trans (hb3.mono hb.size)
          clear hrow hb hb3
          go_wp2_with fail
          refine (match_any s A2 c2 _ _ (by omega) hrow3).mono ?_
          rw [hL.out]
          rintro e w4 ⟨rfl, hb4⟩
          have hrow4 := hrow3.next hb4
          have hbb4 : Below w.heap.size w w4 := hbb3.trans (hb4.mono hbb3.size)
          clear hrow3 hbb3 hb4
          go_wp2_with fail
          refine (depth_any s A2 c2 _ _ (by omega) hrow4).mono ?_
          rw [hD.out]
          rintro e w5 ⟨rfl, hb5⟩
          have hrow5 := hrow4.next hb5
          have hbb5 : Below w.heap.size w w5 := hbb4.trans (hb5.mono hbb4.size)
          clear hrow4 hbb4 hb5
          go_wp2_with fail
          refine (depth_any s A2 c2 _ _ (by omega) hrow5).mono ?_
          rintro e w6 ⟨rfl, hb6⟩
          have hrow6 := hrow5.next hb6
          have hbb6 : Below w.heap.size w w6 := hbb5.trans (hb6.mono hbb5.size)
          clear hrow5 hbb5 hb6
          go_wp2_with fail
          go_loopg [10] (q - (p + 1)) (fun k i wr => ∃ j : Nat, p < j ∧ j ≤ q ∧ k = q - j ∧ i = .int .i64 j ∧ RowOf wr A2 s ∧ Below w.heap.size w wr)
          case atStart => exact ⟨p + 1, by omega, by omega, rfl, by go_num, hrow6, hbb6⟩
          case round =>
            clear hrow6 hbb6
            obtain ⟨j, hj1, hj2, hk, rfl, hrow, hb⟩ := hrel
            have Hk2 := Lib.hid hk
            clear hk
            by_cases hjq : j < q
            · have hjs : j < s.size := by omega
              have hbt := between hev hj1 hjq (bytesOf_get s j hjs)
              obtain ⟨b, rfl, hbs, hcells⟩ := hrow (by omega)
              rcases hbt with ⟨hk3, hM⟩ | ⟨hk3, x, hM, hx1, hx2⟩
              · have hM := Lib.hid hM
                have hc0 := (hcells j hjs).1
                rw [hk3] at hc0
                clear hk3
                go_wp2_with fail
                refine (match_any s _ c2 _ _ (by omega) hrow).mono ?_
                rw [hM.out]
                rintro e w7 ⟨rfl, hb7⟩
                have d0 := (hb7.cell (p := ⟨b, j * 3, none⟩) hbs).trans hc0
                clear hcells hc0
                go_wp2_with fail
                go_roundg (q - (j + 1))
                case measure => have := Hk2.out; omega
                case rel => exact ⟨j + 1, by omega, by omega, rfl, by go_num, hrow.next hb7, hb.trans (hb7.mono hb.size)⟩
              · have hM := Lib.hid hM
                have hc0 := (hcells j hjs).1
                obtain ⟨κ, hκ⟩ : ∃ κ, kindB (s[j]).toNat = κ := ⟨_, rfl⟩
                rw [hκ] at hc0 hk3
                have hne : ((κ : Int) != 3) = true := by rw [bne_iff_ne]; omega
                clear hk3 hκ
                go_wp2_with fail
                refine (match_any s _ c2 _ _ (by omega) hrow).mono ?_
                rw [hM.out]
                rintro e w7 ⟨rfl, hb7⟩
                have d0 := (hb7.cell (p := ⟨b, j * 3, none⟩) hbs).trans hc0
                clear hcells hc0
                go_wp2_with fail
                go_roundg (q - (j + 1))
                case measure => have := Hk2.out; omega
                case rel => exact ⟨j + 1, by omega, by omega, rfl, by go_num, hrow.next hb7, hb.trans (hb7.mono hb.size)⟩
            · have hge : q ≤ j := by omega
              go_wp2_with fail
              go_roundg (s.size - (q + 1))
              case measure => have := Hk.out; omega
              case rel => exact ⟨q + 1, by omega, rfl, by go_num, hrow, hb⟩
      · have hM := Lib.hid h1
        clear h1
        go_wp2_with fail
        refine (match_any s A2 c2 _ _ (by omega) hrow).mono ?_
        rw [hM.out]
        rintro e w3 ⟨rfl, hb3⟩
        go_wp2_with fail
        go_roundg (s.size - (m + 1))
        case measure => have := Hk.out; omega
        case rel => exact ⟨m + 1, by omega, rfl, by go_num, hrow.next hb3, hb.trans (hb3.mono hb.size)⟩
    · have hge : s.size ≤ m := by omega
      go_wp2_with fail
      refine (matched_true _).mono ?_
      rintro e w3 ⟨rfl, hb3⟩
      go_wp2_with fail
      go_ret
      exact ⟨rfl, hb.trans (hb3.mono hb.size)⟩

end Go.Proofs.Ytkemmnajcbpofaa
