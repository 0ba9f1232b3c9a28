/- HistfileMerge: the law returns true. -/
import Derived.Test.YtdbcmhcflndggaaPut
import Derived.BigRegion
namespace Go.Proofs.Ytdbcmhcflndggaa
open Go.RowKit

theorem has_yes (A : Option Addr) (l : List ByteArray) (n c : Nat) (s : ByteArray) (w : World) (hn : l.length = n) (hm : l.length ≤ 1000) (hA : Strs w w.heap.size A l) (h : s ∈ l) :
    Calls Try.prog 16 #[.slice A n c, .string s] w fun e w' => e = .returned (.bool true) ∧ w' = w := by
  subst hn
  refine (has_any A l c s w hm hA).mono ?_
  rintro e w' ⟨rfl, rfl⟩
  rw [decide_eq_true h]
  exact ⟨rfl, rfl⟩
theorem has_no (A : Option Addr) (l : List ByteArray) (n c : Nat) (s : ByteArray) (w : World) (hn : l.length = n) (hm : l.length ≤ 1000) (hA : Strs w w.heap.size A l) (h : s ∉ l) :
    Calls Try.prog 16 #[.slice A n c, .string s] w fun e w' => e = .returned (.bool false) ∧ w' = w := by
  subst hn
  refine (has_any A l c s w hm hA).mono ?_
  rintro e w' ⟨rfl, rfl⟩
  rw [decide_eq_false h]
  exact ⟨rfl, rfl⟩
theorem Strs.drewN {w : World} {A : Option Addr} {l : List ByteArray} (h : Strs w w.heap.size A l) (n : Nat) : Strs (w.drewN n) (w.drewN n).heap.size A l := h.next (below_drewN (Below.refl _ _) n)
theorem not_before {l : List ByteArray} (h : l.Nodup) {i : Nat} {x : ByteArray} (hx : l[i]? = some x) : x ∉ l.take i := by
  intro hm
  obtain ⟨j, hj⟩ := List.mem_iff_getElem?.1 hm
  rw [List.getElem?_take] at hj
  split at hj
  · rename_i hlt
    have hi := (List.getElem?_eq_some_iff.1 hx).1
    have := (List.getElem?_inj (i := j) (j := i) (by omega) h).1 (by rw [hj, hx])
    omega
  · cases hj

theorem Strs.drew {w : World} {A : Option Addr} {l : List ByteArray} (h : Strs w w.heap.size A l) : Strs w.drew w.drew.heap.size A l := h.drewN 1
theorem below_drew {B : Nat} {a w : World} (h : Below B a w) : Below B a w.drew := below_drewN h 1

theorem once_self (A : Option Addr) (l : List ByteArray) (c : Nat) (w : World) (hm : l.length ≤ 10000) (hsz : ∀ x ∈ l, x.size ≤ 200) (hA : Strs w w.heap.size A l) (hn : l.Nodup) :
    Calls Try.prog 12 #[.slice A l.length c] w fun e w' => ∃ A' d, e = .returned (.slice A' l.length d) ∧ Strs w' w'.heap.size A' l ∧ Below w.heap.size w w' := by
  refine (once_any A l c w hm (fun x hx => by have := hsz x hx; omega) hA).mono ?_
  rintro e w' ⟨v, rfl, hrow, hb⟩
  rw [once_same hn] at hrow
  obtain ⟨A', d, rfl, _, hA'⟩ := strsV_own hrow
  exact ⟨A', d, rfl, hA', hb⟩
theorem texts_same (A : Option Addr) (l : List ByteArray) (n c : Nat) (A' : Option Addr) (n' c' : Nat) (w : World) (hn : l.length = n) (hn' : l.length = n') (hm : l.length ≤ 10000)
    (hA : Strs w w.heap.size A l) (hA' : Strs w w.heap.size A' l) :
    Calls Try.prog 11 #[.slice A n c, .slice A' n' c'] w fun e w' => e = .returned (.bool true) ∧ Below w.heap.size w w' := by
  subst hn hn'
  refine (texts_any A l c A' l c' w (by omega) (by omega) hA hA').mono ?_
  rintro e w' ⟨rfl, hb⟩
  rw [decide_eq_true rfl]
  exact ⟨rfl, hb⟩
theorem merge_same (A : Option Addr) (l : List ByteArray) (c : Nat) (w : World) (hm : l.length ≤ 40) (hc : l.length ≤ c) (hcm : c ≤ maxLen) (hsz : ∀ x ∈ l, x.size ≤ 200) (hA : Strs w w.heap.size A l) :
    Calls Try.prog 14 #[.slice A l.length c, .slice A l.length c, .slice A l.length c] w fun e w' => ∃ A' d, e = .returned (.slice A' (lastF (onceF l)).length d) ∧ Strs w' w'.heap.size A' (lastF (onceF l)) ∧ Below w.heap.size w w' := by
  refine (merge_any A l c A l c A l c w (by omega) (by omega) (by omega) hc hc hc hcm hcm (fun x hx => by have := hsz x hx; omega) (fun x hx => by have := hsz x hx; omega) (fun x hx => by have := hsz x hx; omega) hA hA hA).mono ?_
  rintro e w' ⟨v, rfl, ⟨A', d, rfl, _, hA'⟩, hb⟩
  rw [merge_self] at hA' ⊢
  exact ⟨A', d, rfl, hA', hb⟩

set_option maxHeartbeats 8000000 in
set_option maxRecDepth 100000 in
theorem mergelaw_in (A : Option Addr) (base : List ByteArray) (c : Nat) (A1 : Option Addr) (a : List ByteArray) (c1 : Nat) (A2 : Option Addr) (b : List ByteArray) (c2 : Nat) (w : World)
    (hm : base.length ≤ maxLen) (hm1 : a.length ≤ maxLen) (hm2 : b.length ≤ maxLen) (hc : base.length ≤ c) (hc1 : a.length ≤ c1) (hc2 : b.length ≤ c2) (hcm : c ≤ maxLen) (hcm1 : c1 ≤ maxLen) (hcm2 : c2 ≤ maxLen)
    (hA : Strs w w.heap.size A base) (hA1 : Strs w w.heap.size A1 a) (hA2 : Strs w w.heap.size A2 b) (g0 : greatB base 40 = false) (g1 : greatB a 40 = false) (g2 : greatB b 40 = false) :
    Calls Try.prog 4 #[.slice A base.length c, .slice A1 a.length c1, .slice A2 b.length c2] w fun e w' => e = .returned (.bool true) ∧ Below w.heap.size w w' := by
  obtain ⟨n0, s0⟩ := great_false g0
  obtain ⟨n1, s1⟩ := great_false g1
  obtain ⟨n2, s2⟩ := great_false g2
  have G0 := Lib.hid g0
  have G1 := Lib.hid g1
  have G2 := Lib.hid g2
  have S0 := Lib.hid s0
  have S1 := Lib.hid s1
  have S2 := Lib.hid s2
  clear g0 g1 g2 s0 s1 s2
  go_enter Try.func4, Try.ntmps4
  go_wp2_with fail
  refine (great_any A base c 40 w hm hA).mono ?_
  rintro e w1 ⟨rfl, rfl⟩
  rw [G0.out]
  go_wp2_with fail
  refine (great_any A1 a c1 40 w hm1 hA1).mono ?_
  rintro e w1 ⟨rfl, rfl⟩
  rw [G1.out]
  go_wp2_with fail
  refine (great_any A2 b c2 40 w hm2 hA2).mono ?_
  rintro e w1 ⟨rfl, rfl⟩
  rw [G2.out]
  go_wp2_with fail
  refine (merge_any A base c A1 a c1 A2 b c2 w (by omega) (by omega) (by omega) hc hc1 hc2 hcm1 hcm2 (fun x hx => by have := S0.out x hx; omega) (fun x hx => by have := S1.out x hx; omega) (fun x hx => by have := S2.out x hx; omega) hA hA1 hA2).mono ?_
  rintro e w1 ⟨v1, rfl, ⟨L1, d1, rfl, hd1, hL1⟩, hb1⟩
  have nd := merge_nodup base a b
  have ml : (mergeF base a b).length ≤ 100 := last_len _
  have mof := mem_merge_of base a b
  have mto := mem_merge base a b
  have ms : ∀ x ∈ mergeF base a b, x.size ≤ 200 := by
    intro x hx
    have := mof x hx
    rw [List.mem_append, List.mem_append] at this
    rcases this with (h | h) | h
    · exact S0.out x h
    · exact S1.out x h
    · exact S2.out x h
  obtain ⟨M, hM⟩ : ∃ M, mergeF base a b = M := ⟨_, rfl⟩
  rw [hM] at hL1 hd1 nd ml mof mto ms ⊢
  have ND := Lib.hid nd
  have MOF := Lib.hid mof
  have MTO := Lib.hid mto
  have MS := Lib.hid ms
  clear nd mof mto hM ms
  have hA' := hA.next hb1
  have hA1' := hA1.next hb1
  have hA2' := hA2.next hb1
  go_wp2_with (at_builtin; refine wpList_append_strs rfl _ _ rfl w1.heap.size _ [] rfl (World.ownsRow_nil _ _ _ _) _ _ _ base rfl hA' (by simp; omega) (Nat.le_refl _) ?_)
  intro v2 w2 hrow2q hg2
  have hq2 : Below w1.heap.size w1 w2 := (Below.refl _ w1).grown hg2 (Nat.le_refl _) (fun k hk => by simp [Value.ownBlock] at hk)
  clear hg2 hA'
  go_wp2_with (at_builtin; refine wpList_append_strs rfl _ _ rfl w1.heap.size _ base rfl hrow2q _ _ _ a rfl (hA1'.next hq2) (by simp; omega) hq2.size ?_)
  intro v3 w3 hrow3 hg3
  have hrow3' : w3.ownsRow w1.heap.size 9 1 v3 (base ++ a).length ((base ++ a).map .string) := by rw [List.length_append, List.map_append]; exact hrow3
  have hq3 : Below w1.heap.size w1 w3 := hq2.grown hg3 hq2.size (fun k hk => (hrow2q.lt k hk).1)
  clear hg3 hrow3 hrow2q
  go_wp2_with (at_builtin; refine wpList_append_strs rfl _ _ rfl w1.heap.size _ (base ++ a) rfl hrow3' _ _ _ b rfl (hA2'.next hq3) (by simp; omega) hq3.size ?_)
  intro v4 w4 hrow4 hg4
  have hrow4' : w4.ownsRow w1.heap.size 9 1 v4 (base ++ a ++ b).length ((base ++ a ++ b).map .string) := by
    first | exact hrow4 | (simpa [List.length_append, List.map_append] using hrow4)
  have hq4 : Below w1.heap.size w1 w4 := hq3.grown hg4 hq3.size (fun k hk => (hrow3'.lt k hk).1)
  clear hg4 hrow4 hrow3' hq2 hq3
  obtain ⟨A4, d4, rfl, hd4, hL4⟩ := strsV_own hrow4'
  obtain ⟨T, hT⟩ : ∃ T, base ++ a ++ b = T := ⟨_, rfl⟩
  have tl : T.length ≤ 120 := by rw [← hT]; simp; omega
  rw [hT] at hL4 hd4 MOF MTO ⊢
  have HT := Lib.hid hT
  have hLM := hL1.next hq4
  clear hrow4' hT hL1
  go_wp2_with fail
  go_loopg [9] M.length (fun g i wx => ∃ m : Nat, m ≤ M.length ∧ g = M.length - m ∧ i = .int .i64 m ∧ Strs wx wx.heap.size L1 M ∧ Strs wx wx.heap.size A4 T ∧ Below w1.heap.size w1 wx)
  case atStart => exact ⟨0, by omega, by omega, rfl, hLM, hL4, hq4⟩
  case round =>
    clear hLM hL4 hq4
    obtain ⟨m, hm', hg, rfl, hLM, hLT, hq⟩ := hrel
    have Hg := Lib.hid hg
    clear hg
    by_cases hlt : m < M.length
    · obtain ⟨bb, off, rfl, hbs, hcells⟩ := hLM (by omega)
      obtain ⟨x, hx⟩ : ∃ x, M[m]? = some x := ⟨M[m], List.getElem?_eq_getElem hlt⟩
      have c0 := hcells m x hx
      have N1 := Lib.hid (not_before ND.out hx)
      have N2 := Lib.hid (MOF.out x (List.mem_of_getElem? hx))
      have hmd : m ≤ d1 := by omega
      clear hcells hx
      have hTm := hLM.take m
      have htl : (M.take m).length = m := by rw [List.length_take]; omega
      have HTL := Lib.hid htl
      clear htl
      go_wp2_with fail
      go_quiet ((first | (go_at_call 16; exact Calls.quiet_of_same (has_no _ (M.take m) _ _ x _ HTL.out (by have := HTL.out; omega) hTm N1.out)) | (go_at_call 16; exact Calls.quiet_of_same (has_yes _ T _ _ x _ rfl (by omega) hLT N2.out))))
      go_wp2_with fail
      go_roundg (M.length - (m + 1))
      case measure => have := Hg.out; omega
      case rel => exact ⟨m + 1, by omega, rfl, by go_num, hLM.drewN _, hLT.drewN _, below_drewN hq _⟩
    · obtain rfl : m = M.length := by omega
      clear Hg
      go_wp2_with fail
      go_loopg [10] T.length (fun g i wx => ∃ m : Nat, m ≤ T.length ∧ g = T.length - m ∧ i = .int .i64 m ∧ w1.heap.size ≤ wx.heap.size ∧ wx = wr)
      case atStart => exact ⟨0, by omega, by omega, rfl, hq.size, rfl⟩
      case round =>
        obtain ⟨m, hm', hg, rfl, _, rfl⟩ := hrel
        have Hg := Lib.hid hg
        clear hg
        by_cases hlt : m < T.length
        · obtain ⟨bb, off, rfl, hbs, hcells⟩ := hLT (by omega)
          obtain ⟨x, hx⟩ : ∃ x, T[m]? = some x := ⟨T[m], List.getElem?_eq_getElem hlt⟩
          have c0 := hcells m x hx
          by_cases hfull : M.length < 100
          · have N1 := Lib.hid (MTO.out x (List.mem_of_getElem? hx) hfull)
            clear hcells hx
            have hfd : decide ((M.length : Int) < 100) = true := by rw [decide_eq_true_iff]; omega
            go_wp2_with fail
            refine (has_yes _ M _ _ x _ rfl (by omega) hLM N1.out).mono ?_
            rintro e w5 ⟨rfl, rfl⟩
            go_wp2_with fail
            go_roundg (T.length - (m + 1))
            case measure => have := Hg.out; omega
            case rel => exact ⟨m + 1, by omega, rfl, by go_num, hq.size, rfl⟩
          · clear hcells hx
            have hfd : decide ((M.length : Int) < 100) = false := by rw [decide_eq_false_iff_not]; omega
            go_wp2_with fail
            go_roundg (T.length - (m + 1))
            case measure => have := Hg.out; omega
            case rel => exact ⟨m + 1, by omega, rfl, by go_num, hq.size, rfl⟩
        · obtain rfl : m = T.length := by omega
          clear Hg
          have hbb := hb1.trans (hq.mono hb1.size)
          have hAr := hA.next hbb
          go_wp2_with fail
          refine (once_any A base c _ (by omega) (fun x hx => by have := S0.out x hx; omega) hAr).mono ?_
          rintro e w6 ⟨v6, rfl, hrow6, hb6⟩
          obtain ⟨A6, d6, rfl, hd6, hL6⟩ := strsV_own hrow6
          have hbb6 := hbb.trans (hb6.mono hbb.size)
          have hLM6 := hLM.next hb6
          have ol := once_len base
          obtain ⟨O, hO⟩ : ∃ O, onceF base = O := ⟨_, rfl⟩
          rw [hO] at hL6 hd6 ol ⊢
          have HO := Lib.hid hO
          have hA6 := hA.next hbb6
          clear hrow6 hb6 hbb hAr hLM hLT hq hO
          have ml2 : M.length ≤ 100 := ml
          have mli : ((M.length : Int) ≤ 100) := by omega
          clear S1 S2 G0 G1 G2 MOF MTO HT hA hA1 hA2 hA1' hA2' hb1 hd1 hd4 tl
          obtain ⟨k, hk⟩ : ∃ k, O.length - 100 = k := ⟨_, rfl⟩
          have hwr : IntKind.i64.wrap ((O.length : Int) - 100) = (O.length : Int) - 100 := by rw [IntKind.wrap_i64]; omega
          have hmx : max 0 ((O.length : Int) - 100) = (k : Int) := by omega
          have hk0 : (0 : Int) ≤ (k : Int) := by omega
          have hk1 : (k : Int) ≤ (O.length : Int) := by omega
          have hlo := last_length O
          have hlo2 := last_len O
          by_cases hd : d6 = k
          · subst hd
            have hO0 : O.length = 0 := by omega
            have hLO : Strs w6 w6.heap.size A6 (lastF O) := fun h => absurd h (by rw [hlo]; omega)
            rw [hk] at hlo
            have HLO := Lib.hid hlo
            have HK := Lib.hid hk
            have HO0 := Lib.hid hO0
            clear hlo hk hO0
            go_wp2_with fail
            go_region_held3 (fun _ => True) (exact trivial)
              (first
                | (go_at_call 12; (with_reducible refine (once_self L1 M d1 _ (by omega) MS.out hLM6.drew ND.out).mono ?_); rintro e wa ⟨A7, d7, rfl, hL7, hba⟩; have hLMa := hLM6.drew.next hba; have hAa := hA6.drew.next hba; have hLOa := hLO.drew.next hba; have hqa := (below_drew hbb6).trans (hba.mono hbb6.size))
                | (go_at_call 8; (with_reducible refine (filed_true _).mono ?_); rintro e we ⟨rfl, hbe⟩; have hqe := hqd.trans (hbe.mono hqd.size))
                | (go_at_call 11; (with_reducible refine (texts_same A8 (lastF O) _ d8 _ _ _ _ rfl (by have := HLO.out; have := HO0.out; omega) (by omega) hL8 hLOc).mono ?_); rintro e wd ⟨rfl, hbd⟩; have hqd := hqc.trans (hbd.mono hqc.size))
                | (go_at_call 11; (with_reducible refine (texts_same A7 M _ d7 L1 _ d1 _ rfl rfl (by omega) hL7 hLMa).mono ?_); rintro e wb ⟨rfl, hbb⟩; have hAb := hAa.next hbb; have hLOb := hLOa.next hbb; have hqb := hqa.trans (hbb.mono hqa.size))
                | (go_at_call 14; (with_reducible refine (merge_same A base c _ n0 hc hcm S0.out hAb).mono ?_); rw [HO.out]; rintro e wc ⟨A8, d8, rfl, hL8, hbc⟩; have hLOc := hLOb.next hbc; have hqc := hqb.trans (hbc.mono hqb.size)))
            all_goals (go_wp2_with fail; go_ret; exact ⟨rfl, hqe⟩)
          · have hLO := strs_last hL6
            rw [hk] at hLO hlo
            have HLO := Lib.hid hlo
            have HK := Lib.hid hk
            have hd' : ¬ ((k : Int)).toNat = d6 := by omega
            have hd2 : ¬ d6 = ((k : Int)).toNat := by omega
            clear hlo hk
            go_wp2_with fail
            go_region_held3 (fun _ => True) (exact trivial)
              (first
                | (go_at_call 12; (with_reducible refine (once_self L1 M d1 _ (by omega) MS.out hLM6.drew ND.out).mono ?_); rintro e wa ⟨A7, d7, rfl, hL7, hba⟩; have hLMa := hLM6.drew.next hba; have hAa := hA6.drew.next hba; have hLOa := hLO.drew.next hba; have hqa := (below_drew hbb6).trans (hba.mono hbb6.size))
                | (go_at_call 8; (with_reducible refine (filed_true _).mono ?_); rintro e we ⟨rfl, hbe⟩; have hqe := hqd.trans (hbe.mono hqd.size))
                | (go_at_call 11; (with_reducible refine (texts_same A8 (lastF O) _ d8 _ _ _ _ rfl HLO.out (by omega) hL8 hLOc).mono ?_); rintro e wd ⟨rfl, hbd⟩; have hqd := hqc.trans (hbd.mono hqc.size))
                | (go_at_call 11; (with_reducible refine (texts_same A7 M _ d7 L1 _ d1 _ rfl rfl (by omega) hL7 hLMa).mono ?_); rintro e wb ⟨rfl, hbb⟩; have hAb := hAa.next hbb; have hLOb := hLOa.next hbb; have hqb := hqa.trans (hbb.mono hqa.size))
                | (go_at_call 14; (with_reducible refine (merge_same A base c _ n0 hc hcm S0.out hAb).mono ?_); rw [HO.out]; rintro e wc ⟨A8, d8, rfl, hL8, hbc⟩; have hLOc := hLOb.next hbc; have hqc := hqb.trans (hbc.mono hqb.size)))
            all_goals (go_wp2_with fail; go_ret; exact ⟨rfl, hqe⟩)

set_option maxHeartbeats 8000000 in
set_option maxRecDepth 100000 in
theorem mergelaw_any (A : Option Addr) (base : List ByteArray) (c : Nat) (A1 : Option Addr) (a : List ByteArray) (c1 : Nat) (A2 : Option Addr) (b : List ByteArray) (c2 : Nat) (w : World)
    (hm : base.length ≤ maxLen) (hm1 : a.length ≤ maxLen) (hm2 : b.length ≤ maxLen) (hc : base.length ≤ c) (hc1 : a.length ≤ c1) (hc2 : b.length ≤ c2) (hcm : c ≤ maxLen) (hcm1 : c1 ≤ maxLen) (hcm2 : c2 ≤ maxLen)
    (hA : Strs w w.heap.size A base) (hA1 : Strs w w.heap.size A1 a) (hA2 : Strs w w.heap.size A2 b) :
    Calls Try.prog 4 #[.slice A base.length c, .slice A1 a.length c1, .slice A2 b.length c2] w fun e w' => e = .returned (.bool true) ∧ Below w.heap.size w w' := by
  rcases g0 : greatB base 40 with _ | _
  case true =>
    have G0 := Lib.hid g0
    clear g0
    go_enter Try.func4, Try.ntmps4
    go_wp2_with fail
    refine (great_any A base c 40 w hm hA).mono ?_
    rintro e w1 ⟨rfl, rfl⟩
    rw [G0.out]
    go_wp2_with fail
    refine (filed_true w).mono ?_
    rintro e w1 ⟨rfl, hb⟩
    go_wp2_with fail
    go_ret
    exact ⟨rfl, hb⟩
  case false =>
  rcases g1 : greatB a 40 with _ | _
  case true =>
    have G0 := Lib.hid g0
    have G1 := Lib.hid g1
    clear g0 g1
    go_enter Try.func4, Try.ntmps4
    go_wp2_with fail
    refine (great_any A base c 40 w hm hA).mono ?_
    rintro e w1 ⟨rfl, rfl⟩
    rw [G0.out]
    go_wp2_with fail
    refine (great_any A1 a c1 40 w hm1 hA1).mono ?_
    rintro e w1 ⟨rfl, rfl⟩
    rw [G1.out]
    go_wp2_with fail
    refine (filed_true w).mono ?_
    rintro e w1 ⟨rfl, hb⟩
    go_wp2_with fail
    go_ret
    exact ⟨rfl, hb⟩
  case false =>
  rcases g2 : greatB b 40 with _ | _
  case true =>
    have G0 := Lib.hid g0
    have G1 := Lib.hid g1
    have G2 := Lib.hid g2
    clear g0 g1 g2
    go_enter Try.func4, Try.ntmps4
    go_wp2_with fail
    refine (great_any A base c 40 w hm hA).mono ?_
    rintro e w1 ⟨rfl, rfl⟩
    rw [G0.out]
    go_wp2_with fail
    refine (great_any A1 a c1 40 w hm1 hA1).mono ?_
    rintro e w1 ⟨rfl, rfl⟩
    rw [G1.out]
    go_wp2_with fail
    refine (great_any A2 b c2 40 w hm2 hA2).mono ?_
    rintro e w1 ⟨rfl, rfl⟩
    rw [G2.out]
    go_wp2_with fail
    refine (filed_true w).mono ?_
    rintro e w1 ⟨rfl, hb⟩
    go_wp2_with fail
    go_ret
    exact ⟨rfl, hb⟩
  case false => exact mergelaw_in A base c A1 a c1 A2 b c2 w hm hm1 hm2 hc hc1 hc2 hcm hcm1 hcm2 hA hA1 hA2 g0 g1 g2
end Go.Proofs.Ytdbcmhcflndggaa
