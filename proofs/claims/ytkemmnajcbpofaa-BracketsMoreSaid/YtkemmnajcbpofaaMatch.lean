/- The contracts of brackets.Match, Depth and Indent over the row of a text. -/
import Derived.Test.YtkemmnajcbpofaaLook
namespace Go.Proofs.Ytkemmnajcbpofaa
open Go.RowKit

theorem matchF_end (s : ByteArray) {a : Int} {m : Nat} {st : List (Nat × Nat)} (h : matchF a ((bytesOf s).drop m) m st = matchF a (bytesOf s) 0 []) (hm : s.size ≤ m) : matchF a (bytesOf s) 0 [] = (0, false) := by
  rw [← h, List.drop_eq_nil_of_le (by rw [bytesOf_length]; exact hm)]; rfl
theorem matchF_bad (s : ByteArray) {a : Int} {m : Nat} {st : List (Nat × Nat)} (h : matchF a ((bytesOf s).drop m) m st = matchF a (bytesOf s) 0 []) (hm : m < s.size) (he : stepB st m (s[m]).toNat = none) : matchF a (bytesOf s) 0 [] = (0, false) := by
  rw [← h, drop_at s m hm, matchF, he]
theorem matchF_on (s : ByteArray) {a : Int} {m : Nat} {st st' : List (Nat × Nat)} (h : matchF a ((bytesOf s).drop m) m st = matchF a (bytesOf s) 0 []) (hm : m < s.size) (he : stepB st m (s[m]).toNat = some (st', none)) :
    matchF a ((bytesOf s).drop (m + 1)) (m + 1) st' = matchF a (bytesOf s) 0 [] := by
  rw [← h, drop_at s m hm, matchF, he]
theorem matchF_shut (s : ByteArray) {a : Int} {m p : Nat} {st st' : List (Nat × Nat)} (h : matchF a ((bytesOf s).drop m) m st = matchF a (bytesOf s) 0 []) (hm : m < s.size) (he : stepB st m (s[m]).toNat = some (st', some p)) :
    (if (p : Int) = a then (m, true) else if (m : Int) = a then (p, true) else matchF a ((bytesOf s).drop (m + 1)) (m + 1) st') = matchF a (bytesOf s) 0 [] := by
  rw [← h, drop_at s m hm, matchF, he]

theorem ret_ib {a a' : Int} {b b' : Bool} (h1 : a = a') (h2 : b = b') : Ending.returned (.tuple #[.int .i64 a, .bool b]) = .returned (.tuple #[.int .i64 a', .bool b']) := by rw [h1, h2]

set_option maxHeartbeats 400000 in
theorem match_any (s : ByteArray) (A : Option Addr) (c : Nat) (a : Int) (w : World) (hs : s.size ≤ 1000) (hA : RowOf w A s) :
    Calls Try.prog 8 #[.string s, .slice A s.size c, .int .i64 a] w fun e w' =>
      e = .returned (.tuple #[.int .i64 (matchF a (bytesOf s) 0 []).1, .bool (matchF a (bytesOf s) 0 []).2]) ∧ Below w.heap.size w w' := by
  go_enter Try.func8, Try.ntmps8
  go_wp2_with fail
  go_loopg [18] s.size (fun k i wr => ∃ (m : Nat) (v : Value) (st : List (Nat × Nat)), m ≤ s.size ∧ k = s.size - m ∧ i = .int .i64 m ∧ Wk wr w.heap.size s v (st.map Prod.fst) ∧ GoodB (bytesOf s) m st ∧
    matchF a ((bytesOf s).drop m) m st = matchF a (bytesOf s) 0 [] ∧ Below w.heap.size w wr)
  case atStart =>
    exact ⟨0, .slice none 0 0, [], by omega, by omega, rfl, new_walk w s, GoodB.zero _, rfl, (Below.refl _ _).alloc (Nat.le_refl _) _⟩
  case round =>
    obtain ⟨m, v, st, hm, hk, rfl, hwk, hg, hlook, hb⟩ := hrel
    have Hk := Lib.hid hk
    have Hl := Lib.hid hlook
    clear hk hlook
    by_cases hlt : m < s.size
    · obtain ⟨b, rfl, hbs, hcells⟩ := hA (by omega)
      obtain ⟨c0, c1, c2⟩ := hcells m hlt
      have d0 := (hb.cell (p := ⟨b, m * 3, none⟩) hbs).trans c0
      have d1 := (hb.cell (p := ⟨b, m * 3 + 1, none⟩) hbs).trans c1
      have d2 := (hb.cell (p := ⟨b, m * 3 + 2, none⟩) hbs).trans c2
      clear c0 c1 c2 hcells
      have hwk1 := hwk.alloc (.cells #[.int .i64 (kindB (s[m]).toNat), .int .i64 m, .int .i64 (m + 1)] 31)
      have hb1 := hb.alloc hb.size (.cells #[.int .i64 (kindB (s[m]).toNat), .int .i64 m, .int .i64 (m + 1)] 31)
      have t1 : (wr.alloc (.cells #[.int .i64 (kindB (s[m]).toNat), .int .i64 m, .int .i64 (m + 1)] 31)).cell? ⟨wr.heap.size, 1, none⟩ = some (.int .i64 m) := by simp
      rcases he : stepB st m (s[m]).toNat with _ | ⟨st', _ | p⟩
      · have He := Lib.hid he
        clear he
        go_wp2_with fail
        refine (step_bad hlt hs hwk1 hg He.out).mono ?_
        rintro e w2 ⟨rfl, ⟨v2, hwk2⟩, ⟨hb2, ho2⟩⟩
        have hbb : Below w.heap.size w w2 := hb1.trans hb2
        clear hwk hwk1 hb hb1 d0 d1 d2 t1 ho2
        go_wp2_with fail
        go_ret2
        have hf := matchF_bad s Hl.out hlt He.out
        exact ⟨ret_ib (by rw [hf]; rfl) (by rw [hf]), hbb⟩
      · have He := Lib.hid he
        clear he
        go_wp2_with fail
        refine (step_on hlt hs hwk1 hg He.out).mono ?_
        rintro e w2 ⟨rfl, ⟨v2, hwk2⟩, ⟨hb2, ho2⟩⟩
        go_wp2_with fail
        go_roundg (s.size - (m + 1))
        case measure => have := Hk.out; omega
        case rel => exact ⟨m + 1, v2, st', by omega, rfl, by go_num, hwk2, hg.step (bytesOf_get s m hlt) He.out, matchF_on s Hl.out hlt He.out, hb1.trans hb2⟩
      · have He := Lib.hid he
        clear he
        have HP := Lib.hid (matchF_shut s Hl.out hlt He.out)
        have z0 : (0 : Int) ≤ (p : Int) := by omega
        by_cases hpa : (p : Int) = a
        · have q1 : ((p : Int) == a) = true := by simpa using hpa
          have Hpa := Lib.hid hpa
          clear hpa
          go_wp2_with fail
          refine (step_shut hlt hs hwk1 hg He.out).mono ?_
          rintro e w2 ⟨rfl, ⟨v2, hwk2⟩, ⟨hb2, ho2⟩⟩
          have t2 : w2.cell? ⟨wr.heap.size, 1, none⟩ = some (.int .i64 m) :=
            (World.cell?_of_block (a := ⟨wr.heap.size, 1, none⟩) (ho2 wr.heap.size (by simp) (by have := hwk.lt; omega) (fun e => by have := (hwk.2.lt _ e.symm).2; omega))).trans t1
          go_wp2_with fail
          go_ret2
          have hf := HP.out
          rw [if_pos Hpa.out] at hf
          exact ⟨ret_ib (by rw [← hf]) (by rw [← hf]), hb1.trans hb2⟩
        · have q1 : ((p : Int) == a) = false := by simpa using hpa
          have Hpa := Lib.hid hpa
          clear hpa
          by_cases hma : (m : Int) = a
          · have q2 : ((m : Int) == a) = true := by simpa using hma
            have Hma := Lib.hid hma
            clear hma
            go_wp2_with fail
            refine (step_shut hlt hs hwk1 hg He.out).mono ?_
            rintro e w2 ⟨rfl, ⟨v2, hwk2⟩, ⟨hb2, ho2⟩⟩
            have t2 : w2.cell? ⟨wr.heap.size, 1, none⟩ = some (.int .i64 m) :=
              (World.cell?_of_block (a := ⟨wr.heap.size, 1, none⟩) (ho2 wr.heap.size (by simp) (by have := hwk.lt; omega) (fun e => by have := (hwk.2.lt _ e.symm).2; omega))).trans t1
            go_wp2_with fail
            go_ret2
            have hf := HP.out
            rw [if_neg Hpa.out, if_pos Hma.out] at hf
            exact ⟨ret_ib (by rw [← hf]) (by rw [← hf]), hb1.trans hb2⟩
          · have q2 : ((m : Int) == a) = false := by simpa using hma
            have Hma := Lib.hid hma
            clear hma
            go_wp2_with fail
            refine (step_shut hlt hs hwk1 hg He.out).mono ?_
            rintro e w2 ⟨rfl, ⟨v2, hwk2⟩, ⟨hb2, ho2⟩⟩
            have t2 : w2.cell? ⟨wr.heap.size, 1, none⟩ = some (.int .i64 m) :=
              (World.cell?_of_block (a := ⟨wr.heap.size, 1, none⟩) (ho2 wr.heap.size (by simp) (by have := hwk.lt; omega) (fun e => by have := (hwk.2.lt _ e.symm).2; omega))).trans t1
            go_wp2_with fail
            go_roundg (s.size - (m + 1))
            case measure => have := Hk.out; omega
            case rel =>
              have hf := HP.out
              rw [if_neg Hpa.out, if_neg Hma.out] at hf
              exact ⟨m + 1, v2, st', by omega, rfl, by go_num, hwk2, hg.step (bytesOf_get s m hlt) He.out, hf, hb1.trans hb2⟩
    · have hge : s.size ≤ m := by omega
      have Hf := Lib.hid (matchF_end s Hl.out hge)
      clear Hl hwk
      go_wp2_with fail
      go_ret2
      rw [Hf.out]
      exact ⟨rfl, hb⟩

theorem depthF_end (s : ByteArray) {a : Int} {m : Nat} {st : List (Nat × Nat)} (h : depthF a ((bytesOf s).drop m) m st = depthF a (bytesOf s) 0 []) (hm : s.size ≤ m) : depthF a (bytesOf s) 0 [] = st.length := by
  rw [← h, List.drop_eq_nil_of_le (by rw [bytesOf_length]; exact hm)]; rfl
theorem depthF_in (s : ByteArray) {a : Int} {m : Nat} {st : List (Nat × Nat)} (h : depthF a ((bytesOf s).drop m) m st = depthF a (bytesOf s) 0 []) (hm : m < s.size) (ha : (m : Int) + 1 ≤ a) :
    depthF a ((bytesOf s).drop (m + 1)) (m + 1) (stepS st m (s[m]).toNat) = depthF a (bytesOf s) 0 [] := by
  rw [← h, drop_at s m hm, depthF, if_pos ha]
theorem depthF_out (s : ByteArray) {a : Int} {m : Nat} {st : List (Nat × Nat)} (h : depthF a ((bytesOf s).drop m) m st = depthF a (bytesOf s) 0 []) (hm : m < s.size) (ha : ¬ (m : Int) + 1 ≤ a) :
    depthF a ((bytesOf s).drop (m + 1)) (m + 1) st = depthF a (bytesOf s) 0 [] := by
  rw [← h, drop_at s m hm, depthF, if_neg ha]

theorem ret_one {a a' : Int} (h1 : a = a') : Ending.returned (.int .i64 a) = .returned (.int .i64 a') := by rw [h1]

set_option maxHeartbeats 400000 in
theorem depth_any (s : ByteArray) (A : Option Addr) (c : Nat) (a : Int) (w : World) (hs : s.size ≤ 1000) (hA : RowOf w A s) :
    Calls Try.prog 9 #[.string s, .slice A s.size c, .int .i64 a] w fun e w' =>
      e = .returned (.int .i64 (depthF a (bytesOf s) 0 [])) ∧ Below w.heap.size w w' := by
  go_enter Try.func9, Try.ntmps9
  go_wp2_with fail
  go_loopg [15] s.size (fun k i wr => ∃ (m : Nat) (v : Value) (st : List (Nat × Nat)), m ≤ s.size ∧ k = s.size - m ∧ i = .int .i64 m ∧ Wk wr w.heap.size s v (st.map Prod.fst) ∧ GoodB (bytesOf s) m st ∧
    depthF a ((bytesOf s).drop m) m st = depthF a (bytesOf s) 0 [] ∧ Below w.heap.size w wr)
  case atStart =>
    exact ⟨0, .slice none 0 0, [], by omega, by omega, rfl, new_walk w s, GoodB.zero _, rfl, (Below.refl _ _).alloc (Nat.le_refl _) _⟩
  case round =>
    obtain ⟨m, v, st, hm, hk, rfl, hwk, hg, hlook, hb⟩ := hrel
    have Hk := Lib.hid hk
    have Hl := Lib.hid hlook
    clear hk hlook
    by_cases hlt : m < s.size
    · obtain ⟨b, rfl, hbs, hcells⟩ := hA (by omega)
      obtain ⟨c0, c1, c2⟩ := hcells m hlt
      have d0 := (hb.cell (p := ⟨b, m * 3, none⟩) hbs).trans c0
      have d1 := (hb.cell (p := ⟨b, m * 3 + 1, none⟩) hbs).trans c1
      have d2 := (hb.cell (p := ⟨b, m * 3 + 2, none⟩) hbs).trans c2
      clear c0 c1 c2 hcells
      have hwk1 := hwk.alloc (.cells #[.int .i64 (kindB (s[m]).toNat), .int .i64 m, .int .i64 (m + 1)] 31)
      have hb1 := hb.alloc hb.size (.cells #[.int .i64 (kindB (s[m]).toNat), .int .i64 m, .int .i64 (m + 1)] 31)
      by_cases ha : (m : Int) + 1 ≤ a
      · go_wp2_with fail
        refine (step_any s m hlt hs w.heap.size v st _ hwk1 hg).mono ?_
        rintro e w2 ⟨rfl, ⟨v2, hwk2⟩, ⟨hb2, _⟩⟩
        go_wp2_with fail
        go_roundg (s.size - (m + 1))
        case measure => have := Hk.out; omega
        case rel => exact ⟨m + 1, v2, _, by omega, rfl, by go_num, hwk2, hg.stepS (bytesOf_get s m hlt), depthF_in s Hl.out hlt ha, hb1.trans hb2⟩
      · go_wp2_with fail
        go_roundg (s.size - (m + 1))
        case measure => have := Hk.out; omega
        case rel => exact ⟨m + 1, v, st, by omega, rfl, by go_num, hwk1, hg.mono (by omega), depthF_out s Hl.out hlt (by omega), hb1⟩
    · have hge : s.size ≤ m := by omega
      have Hf := Lib.hid (depthF_end s Hl.out hge)
      obtain ⟨A2, cap2, rfl⟩ := hwk.form
      have l2 := hwk.list
      clear Hl
      go_wp2_with fail
      go_ret
      rw [Hf.out]
      exact ⟨ret_one (by simp), hb⟩

set_option maxHeartbeats 400000 in
theorem indent_small (d : Nat) (hd : d ≤ 20) (w : World) : Calls Try.prog 11 #[.int .i64 d] w fun e w' => e = .returned (.int .i64 (2 * d)) ∧ w = w' := by
  go_enter Try.func11, Try.ntmps11
  go_wp2
  go_ret
  exact ⟨rfl, rfl⟩
set_option maxHeartbeats 400000 in
theorem indent_big (d : Nat) (hd : 20 < d) (hd2 : d ≤ 1000) (w : World) : Calls Try.prog 11 #[.int .i64 d] w fun e w' => e = .returned (.int .i64 40) ∧ w = w' := by
  go_enter Try.func11, Try.ntmps11
  go_wp2
  go_ret
  exact ⟨rfl, rfl⟩

end Go.Proofs.Ytkemmnajcbpofaa
