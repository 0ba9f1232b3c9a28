/- HistfilePut: the law returns true. -/
import Derived.Test.YtdbcmhcflndggaaFiled
import Derived.Test.YtdbcmhcflndggaaRef
namespace Go.Proofs.Ytdbcmhcflndggaa
open Go.RowKit

theorem great_false {l : List ByteArray} {n : Nat} (h : greatB l n = false) : l.length ≤ n ∧ ∀ x ∈ l, x.size ≤ 200 := by
  unfold greatB at h
  rw [Bool.or_eq_false_iff] at h
  refine ⟨by have := of_decide_eq_false h.2; omega, fun x hx => ?_⟩
  have := List.any_eq_false.1 h.1 x hx
  simpa using this

theorem own_slice {w : World} {base : Nat} {v : Value} {l : List ByteArray} (h : w.ownsRow base 9 1 v l.length (l.map .string)) :
    ∃ A c, v = .slice A l.length c ∧ l.length ≤ c ∧ c ≤ maxLen ∧ Strs w w.heap.size A l := by
  obtain ⟨A, c, rfl, hc, hA⟩ := strsV_own h
  refine ⟨A, c, rfl, hc, ?_, hA⟩
  rcases h.2 with ⟨e, _⟩ | ⟨g, cap, cur, e, _, _, _, h4, _⟩
  · injection e with _ _ e
    subst e
    exact Nat.zero_le _
  · injection e with _ _ e
    subst e
    exact h4

set_option maxHeartbeats 8000000 in
set_option maxRecDepth 100000 in
theorem putlaw_any (A : Option Addr) (base : List ByteArray) (c : Nat) (A1 : Option Addr) (a : List ByteArray) (c1 : Nat) (A2 : Option Addr) (b : List ByteArray) (c2 : Nat) (w : World)
    (hm : base.length ≤ maxLen) (hm1 : a.length ≤ maxLen) (hm2 : b.length ≤ maxLen) (hc : base.length ≤ c) (hc1 : a.length ≤ c1) (hc2 : b.length ≤ c2) (hcm : c ≤ maxLen) (hcm2 : c2 ≤ maxLen)
    (hA : Strs w w.heap.size A base) (hA1 : Strs w w.heap.size A1 a) (hA2 : Strs w w.heap.size A2 b) :
    Calls Try.prog 3 #[.slice A base.length c, .slice A1 a.length c1, .slice A2 b.length c2] w fun e w' => e = .returned (.bool true) ∧ Below w.heap.size w w' := by
  rcases g0 : greatB base 60 with _ | _
  case true =>
    have G0 := Lib.hid g0
    clear g0
    go_enter Try.func3, Try.ntmps3
    go_wp2_with fail
    refine (great_any A base c 60 w hm hA).mono ?_
    rintro e w1 ⟨rfl, rfl⟩
    rw [G0.out]
    go_wp2_with fail
    refine (filed_true w).mono ?_
    rintro e w1 ⟨rfl, hb⟩
    go_wp2_with fail
    go_ret
    exact ⟨rfl, hb⟩
  case false =>
  rcases g1 : greatB a 60 with _ | _
  case true =>
    have G0 := Lib.hid g0
    have G1 := Lib.hid g1
    clear g0 g1
    go_enter Try.func3, Try.ntmps3
    go_wp2_with fail
    refine (great_any A base c 60 w hm hA).mono ?_
    rintro e w1 ⟨rfl, rfl⟩
    rw [G0.out]
    go_wp2_with fail
    refine (great_any A1 a c1 60 w hm1 hA1).mono ?_
    rintro e w1 ⟨rfl, rfl⟩
    rw [G1.out]
    go_wp2_with fail
    refine (filed_true w).mono ?_
    rintro e w1 ⟨rfl, hb⟩
    go_wp2_with fail
    go_ret
    exact ⟨rfl, hb⟩
  case false =>
  rcases g2 : greatB b 60 with _ | _
  case true =>
    have G0 := Lib.hid g0
    have G1 := Lib.hid g1
    have G2 := Lib.hid g2
    clear g0 g1 g2
    go_enter Try.func3, Try.ntmps3
    go_wp2_with fail
    refine (great_any A base c 60 w hm hA).mono ?_
    rintro e w1 ⟨rfl, rfl⟩
    rw [G0.out]
    go_wp2_with fail
    refine (great_any A1 a c1 60 w hm1 hA1).mono ?_
    rintro e w1 ⟨rfl, rfl⟩
    rw [G1.out]
    go_wp2_with fail
    refine (great_any A2 b c2 60 w hm2 hA2).mono ?_
    rintro e w1 ⟨rfl, rfl⟩
    rw [G2.out]
    go_wp2_with fail
    refine (filed_true w).mono ?_
    rintro e w1 ⟨rfl, hb⟩
    go_wp2_with fail
    go_ret
    exact ⟨rfl, hb⟩
  case false =>
    obtain ⟨n0, s0⟩ := great_false g0
    obtain ⟨n1, s1⟩ := great_false g1
    obtain ⟨n2, s2⟩ := great_false g2
    have G0 := Lib.hid g0
    have G1 := Lib.hid g1
    have G2 := Lib.hid g2
    have S0 := Lib.hid s0
    have S1 := Lib.hid s1
    have S2 := Lib.hid s2
    clear g0 g1 g2 s0 s1 s2
    go_enter Try.func3, Try.ntmps3
    go_wp2_with fail
    refine (great_any A base c 60 w hm hA).mono ?_
    rintro e w1 ⟨rfl, rfl⟩
    rw [G0.out]
    go_wp2_with fail
    refine (great_any A1 a c1 60 w hm1 hA1).mono ?_
    rintro e w1 ⟨rfl, rfl⟩
    rw [G1.out]
    go_wp2_with fail
    refine (great_any A2 b c2 60 w hm2 hA2).mono ?_
    rintro e w1 ⟨rfl, rfl⟩
    rw [G2.out]
    go_wp2_with (at_builtin; refine wpList_append_strs rfl _ _ rfl w.heap.size _ [] rfl (World.ownsRow_nil _ _ _ _) _ _ _ base rfl hA (by simp; omega) (Nat.le_refl _) ?_)
    intro v1 w1 hrow1 hg1
    have hb1 : Below w.heap.size w w1 := (Below.refl _ w).grown hg1 (Nat.le_refl _) (fun k hk => by simp [Value.ownBlock] at hk)
    have hA1' := hA1.next hb1
    clear hg1
    go_wp2_with (at_builtin; refine wpList_append_strs rfl _ _ rfl w.heap.size _ base rfl hrow1 _ _ _ a rfl hA1' (by simp; omega) hb1.size ?_)
    intro v2 w2 hrow2 hg2
    have hb2 : Below w.heap.size w w2 := hb1.grown hg2 hb1.size (fun k hk => (hrow1.lt k hk).1)
    have hrow2' : w2.ownsRow w.heap.size 9 1 v2 (base ++ a).length ((base ++ a).map .string) := by rw [List.length_append, List.map_append]; exact hrow2
    clear hg2 hrow1 hrow2 hb1 hA1'
    go_wp2_with fail
    go_loopg [8, 7] 2 (fun g t v wx => ∃ (m : Nat) (L : List ByteArray), m ≤ 2 ∧ g = 2 - m ∧ t = .int .i64 m ∧ L.length ≤ 120 ∧ Hid (∀ x ∈ L, x.size ≤ 200) ∧ wx.ownsRow w.heap.size 9 1 v L.length (L.map .string) ∧ Below w.heap.size w wx)
    case atStart => exact ⟨0, base ++ a, by omega, by omega, rfl, by simp; omega, Lib.hid (fun x hx => (List.mem_append.1 hx).elim (S0.out x) (S1.out x)), hrow2', hb2⟩
    case round =>
      clear hrow2' hb2
      obtain ⟨m, L, hm2', hg, rfl, hLl, HL, hrow, hb⟩ := hrel
      have Hg := Lib.hid hg
      clear hg
      by_cases hlt : m < 2
      · obtain ⟨B, d, rfl, hd, hdm, hB⟩ := own_slice hrow
        clear hrow
        go_wp2_with fail
        refine (put_any B L d wr (by omega) (fun x hx => by have := HL.out x hx; omega) hB).mono ?_
        rintro e x1 ⟨rfl, hx1⟩
        have q1 := hb.trans (hx1.mono hb.size)
        have B1 := hB.next hx1
        clear hx1 hB hb
        go_wp2_with fail
        refine (rput_any B L d x1 (by omega) (fun x hx => by have := HL.out x hx; omega) B1).mono ?_
        rintro e x2 ⟨rfl, rfl⟩
        go_wp2_with fail
        refine (once_any B L d x1 (by omega) (fun x hx => by have := HL.out x hx; omega) B1).mono ?_
        rintro e x3 ⟨v3, rfl, hrow3, hx3⟩
        obtain ⟨B3, d3, rfl, hd3, hB3⟩ := strsV_own hrow3
        have q3 := q1.trans (hx3.mono q1.size)
        have B2 := B1.next hx3
        have lo := once_len L
        clear hx3 B1 q1 hrow3
        go_wp2_with fail
        refine (ronce_any B L d x3 (by omega) B2).mono ?_
        rintro e x4 ⟨v4, rfl, hrow4, hx4⟩
        obtain ⟨B4, d4, rfl, hd4, hB4⟩ := strsV_own hrow4
        have q4 := q3.trans (hx4.mono q3.size)
        have B5 := B2.next hx4
        have hB3' := hB3.next hx4
        clear hx4 B2 q3 hrow4 hB3
        go_wp2_with fail
        refine (texts_any B3 _ d3 B4 _ d4 x4 (by omega) (by omega) hB3' hB4).mono ?_
        rintro e x5 ⟨rfl, hx5⟩
        have q5 := q4.trans (hx5.mono q4.size)
        have B6 := B5.next hx5
        rw [decide_eq_true rfl]
        clear hx5 B5 q4 hB3' hB4 hd3 hd4
        have hAq := hA.next q5
        have hA1q := hA1.next q5
        have hA2q := hA2.next q5
        go_wp2_with fail
        refine (merge_any A base c B L d A2 b c2 x5 (by omega) (by omega) (by omega) hc hd hc2 hdm hcm2 (fun x hx => by have := S0.out x hx; omega) (fun x hx => by have := HL.out x hx; omega) (fun x hx => by have := S2.out x hx; omega) hAq B6 hA2q).mono ?_
        rintro e x6 ⟨v6, rfl, ⟨B7, d7, rfl, hd7, hB7⟩, hx6⟩
        have q6 := q5.trans (hx6.mono q5.size)
        have hAq2 := hAq.next hx6
        have hA2q2 := hA2q.next hx6
        have hA1q2 := hA1q.next hx6
        have B8 := B6.next hx6
        clear hx6 hAq hA1q hA2q B6 q5
        go_wp2_with fail
        refine (rmerge_any A base c B L d A2 b c2 x6 (by omega) (by omega) (by omega) hd hc2 hAq2 B8 hA2q2).mono ?_
        rintro e x7 ⟨v7, rfl, ⟨B9, d9, rfl, hd9, hB9⟩, hx7⟩
        have q7 := q6.trans (hx7.mono q6.size)
        have hB7' := hB7.next hx7
        have lm : (mergeF base L b).length ≤ 100 := last_len _
        clear hx7 hB7 q6 hAq2 hA1q2 hA2q2 B8
        go_wp2_with fail
        refine (texts_any B7 _ d7 B9 _ d9 x7 (by omega) (by omega) hB7' hB9).mono ?_
        rintro e x8 ⟨rfl, hx8⟩
        have q8 := q7.trans (hx8.mono q7.size)
        rw [decide_eq_true rfl]
        clear hx8 q7 hB7' hB9 hd7 hd9
        have hAq3 := hA.next q8
        have hA1q3 := hA1.next q8
        have hA2q3 := hA2.next q8
        go_wp2_with fail
        refine (merge_any A1 a c1 A base c A2 b c2 x8 (by omega) (by omega) (by omega) hc1 hc hc2 hcm hcm2 (fun x hx => by have := S1.out x hx; omega) (fun x hx => by have := S0.out x hx; omega) (fun x hx => by have := S2.out x hx; omega) hA1q3 hAq3 hA2q3).mono ?_
        rintro e x9 ⟨v9, rfl, ⟨B10, d10, rfl, hd10, hB10⟩, hx9⟩
        have q9 := q8.trans (hx9.mono q8.size)
        have hAq4 := hAq3.next hx9
        have hA2q4 := hA2q3.next hx9
        have hA1q4 := hA1q3.next hx9
        clear hx9 hAq3 hA1q3 hA2q3 q8
        go_wp2_with fail
        refine (rmerge_any A1 a c1 A base c A2 b c2 x9 (by omega) (by omega) (by omega) hc hc2 hA1q4 hAq4 hA2q4).mono ?_
        rintro e x10 ⟨v10, rfl, ⟨B11, d11, rfl, hd11, hB11⟩, hx10⟩
        have q10 := q9.trans (hx10.mono q9.size)
        have hB10' := hB10.next hx10
        have lm2 : (mergeF a base b).length ≤ 100 := last_len _
        clear hx10 hB10 q9 hAq4 hA1q4 hA2q4
        go_wp2_with fail
        refine (texts_any B10 _ d10 B11 _ d11 x10 (by omega) (by omega) hB10' hB11).mono ?_
        rintro e x11 ⟨rfl, hx11⟩
        have q11 := q10.trans (hx11.mono q10.size)
        rw [decide_eq_true rfl]
        clear hx11 q10 hB10' hB11 hd10 hd11
        have hAq5 := hA.next q11
        go_wp2_with (at_builtin; refine wpList_append_strs rfl _ _ rfl w.heap.size _ [] rfl (World.ownsRow_nil _ _ _ _) _ _ _ base rfl hAq5 (by simp; omega) q11.size ?_)
        intro v12 x12 hrow12 hg12
        have q12 : Below w.heap.size w x12 := q11.grown hg12 q11.size (fun k hk => by simp [Value.ownBlock] at hk)
        have hA2q6 := hA2.next q12
        clear hg12 q11 hAq5
        go_wp2_with (at_builtin; refine wpList_append_strs rfl _ _ rfl w.heap.size _ base rfl hrow12 _ _ _ b rfl hA2q6 (by simp; omega) q12.size ?_)
        intro v13 x13 hrow13 hg13
        have q13 : Below w.heap.size w x13 := q12.grown hg13 q12.size (fun k hk => (hrow12.lt k hk).1)
        have hrow13' : x13.ownsRow w.heap.size 9 1 v13 (base ++ b).length ((base ++ b).map .string) := by rw [List.length_append, List.map_append]; exact hrow13
        clear hg13 hrow12 hrow13 q12 hA2q6
        go_wp2_with fail
        go_roundg (2 - (m + 1))
        case measure => have := Hg.out; omega
        case rel => exact ⟨m + 1, base ++ b, by omega, rfl, by go_num, by simp; omega, Lib.hid (fun x hx => (List.mem_append.1 hx).elim (S0.out x) (S2.out x)), hrow13', q13⟩
      · obtain rfl : m = 2 := by omega
        go_wp2_with fail
        refine (filed_true wr).mono ?_
        rintro e x1 ⟨rfl, hx1⟩
        go_wp2_with fail
        go_ret
        exact ⟨rfl, hb.trans (hx1.mono hb.size)⟩
end Go.Proofs.Ytdbcmhcflndggaa
