/- The contracts of the two behinds. -/
import Derived.Test.YtdbcmhcflndggaaLists
namespace Go.Proofs.Ytdbcmhcflndggaa
open Go.RowKit

theorem getD_some {l : List ByteArray} {j : Nat} (h : j < l.length) : l[j]? = some (l.getD j ByteArray.empty) := by
  rw [List.getElem?_eq_getElem h, List.getD_eq_getElem?_getD, List.getElem?_eq_getElem h]; rfl

theorem equal_any (A : Option Addr) (l : List ByteArray) (n c : Nat) (A' : Option Addr) (l' : List ByteArray) (c' : Nat) (w : World) (hn : l.length = n) (hm : l.length ≤ 1000) (hm' : l'.length ≤ 1000)
    (hA : Strs w w.heap.size A l) (hA' : Strs w w.heap.size A' l') :
    Calls Try.prog 34 #[.slice A n c, .slice A' l'.length c'] w fun e w' => e = .returned (.bool (decide (l = l'))) ∧ Below w.heap.size w w' := by
  subst hn
  by_cases h : l.length = l'.length
  · rcases Nat.eq_zero_or_pos l.length with h0 | h0
    · have e1 : l = [] := List.eq_nil_of_length_eq_zero h0
      have e2 : l' = [] := List.eq_nil_of_length_eq_zero (by omega)
      subst e1 e2
      refine (Try.slices_Equal_string_empty A A' c 0 c' w (by omega)).mono ?_
      rintro e w' ⟨rfl, rfl⟩
      exact ⟨by simp, Below.refl _ _⟩
    · obtain ⟨b, off, rfl, _, hc⟩ := hA h0
      obtain ⟨b', off', rfl, _, hc'⟩ := hA' (by omega)
      refine (Try.slices_Equal_string b off l.length c b' off' l'.length c' l l' w (Nat.le_refl _) (Nat.le_refl _) (by omega) (by omega) (fun j hj => hc j _ (getD_some hj)) (fun j hj => hc' j _ (getD_some hj))).mono ?_
      rintro e w' ⟨rfl, q, rfl⟩
      refine ⟨?_, below_drewN (Below.refl _ _) _⟩
      congr 2
      rw [List.take_length, List.take_length]
  · refine (Try.slices_Equal_string_lens A A' l.length c l'.length c' w h).mono ?_
    rintro e w' ⟨rfl, rfl⟩
    refine ⟨?_, Below.refl _ _⟩
    rw [decide_eq_false (fun e => h (by rw [e]))]

theorem Strs.take {w : World} {B : Nat} {A : Option Addr} {l : List ByteArray} (h : Strs w B A l) (k : Nat) : Strs w B A (l.take k) := fun hp => by
  obtain ⟨b, off, e, hb, hc⟩ := h (by rw [List.length_take] at hp; omega)
  refine ⟨b, off, e, hb, fun i x hx => hc i x ?_⟩
  rw [List.getElem?_take] at hx
  split at hx
  · exact hx
  · cases hx

/-- A slice of texts, its capacity with it. -/
def StrsV (w : World) (v : Value) (l : List ByteArray) : Prop := ∃ A c, v = .slice A l.length c ∧ l.length ≤ c ∧ Strs w w.heap.size A l
theorem StrsV.next {w w' : World} {v : Value} {l : List ByteArray} (h : StrsV w v l) (hb : Below w.heap.size w w') : StrsV w' v l := by
  obtain ⟨A, c, e, hc, hA⟩ := h
  exact ⟨A, c, e, hc, hA.next hb⟩

theorem strs_drop {w : World} {B b off : Nat} {l : List ByteArray} (h : Strs w B (some ⟨b, off, none⟩) l) (k : Nat) (hk : k < l.length) : Strs w B (some ⟨b, off + k, none⟩) (l.drop k) := fun _ => by
  obtain ⟨b', off', e, hb, hc⟩ := h (by omega)
  injection e with e
  injection e with e1 e2
  subst e1 e2
  refine ⟨_, _, rfl, hb, fun i x hx => ?_⟩
  rw [List.getElem?_drop] at hx
  have := hc (k + i) x hx
  rwa [← Nat.add_assoc] at this

set_option maxHeartbeats 4000000 in
set_option maxRecDepth 100000 in
theorem behind_any (A : Option Addr) (base : List ByteArray) (c : Nat) (A' : Option Addr) (l : List ByteArray) (c' : Nat) (w : World) (hm : base.length ≤ 1000) (hm' : l.length ≤ 1000) (_hc : base.length ≤ c) (hc' : l.length ≤ c') (_hcm : c' ≤ maxLen)
    (hA : Strs w w.heap.size A base) (hA' : Strs w w.heap.size A' l) :
    Calls Try.prog 24 #[.slice A base.length c, .slice A' l.length c'] w fun e w' => ∃ v, e = .returned v ∧ StrsV w' v (behindF base l) ∧ Below w.heap.size w w' := by
  by_cases h : base.length ≤ l.length
  · have hi : (base.length : Int) ≤ (l.length : Int) := by omega
    have hd : decide ((base.length : Int) ≤ (l.length : Int)) = true := by simpa using hi
    by_cases he : l.take base.length = base
    · have hf : behindF base l = l.drop base.length := by unfold behindF; rw [if_pos he]
      have HF := Lib.hid hf
      have HE := Lib.hid (show decide (l.take base.length = base) = true from decide_eq_true he)
      clear hf
      by_cases h2 : base.length < l.length
      · obtain ⟨b, off, rfl, hbs, _⟩ := hA' (by omega)
        have hne : ¬ c' = base.length := by omega
        go_enter Try.func24, Try.ntmps24
        go_wp2_with fail
        refine (equal_any _ (l.take base.length) _ _ _ base _ _ (by rw [List.length_take]; omega) (by rw [List.length_take]; omega) hm (hA'.take _) hA).mono ?_
        rintro e w1 ⟨rfl, hb⟩
        rw [HE.out]
        go_wp2_with fail
        go_ret
        refine ⟨_, rfl, ?_, hb⟩
        rw [HF.out]
        refine ⟨some ⟨b, off + base.length, none⟩, c' - base.length, ?_, by rw [List.length_drop]; omega, (strs_drop hA' base.length h2).next hb⟩
        rw [List.length_drop]
        first | rfl | (simp [Addr.add]; done)
      · have hl : l.length = base.length := by omega
        go_enter Try.func24, Try.ntmps24
        go_wp2_with fail
        refine (equal_any _ (l.take base.length) _ _ _ base _ _ (by rw [List.length_take]; omega) (by rw [List.length_take]; omega) hm (hA'.take _) hA).mono ?_
        rintro e w1 ⟨rfl, hb⟩
        rw [HE.out]
        have HN := Lib.hid (show l.drop base.length = [] from List.drop_eq_nil_of_le (by omega))
        go_wp2_with fail
        all_goals
          go_ret
          refine ⟨_, rfl, ?_, hb⟩
          rw [HF.out, HN.out]
          exact ⟨_, _, rfl, Nat.zero_le _, fun h => absurd h (by simp)⟩
    · go_enter Try.func24, Try.ntmps24
      go_wp2_with fail
      refine (equal_any _ (l.take base.length) _ _ _ base _ _ (by rw [List.length_take]; omega) (by rw [List.length_take]; omega) hm (hA'.take _) hA).mono ?_
      rintro e w1 ⟨rfl, hb⟩
      rw [decide_eq_false he]
      go_wp2_with fail
      go_ret
      refine ⟨_, rfl, ?_, hb⟩
      unfold behindF
      rw [if_neg he]
      exact ⟨_, _, rfl, hc', hA'.next hb⟩
  · have hi : ¬ (base.length : Int) ≤ (l.length : Int) := by omega
    have hd : decide ((base.length : Int) ≤ (l.length : Int)) = false := by simpa using hi
    have hf : behindF base l = l := by
      unfold behindF
      rw [if_neg]
      intro e
      have := congrArg List.length e
      rw [List.length_take] at this
      omega
    have HF := Lib.hid hf
    clear hf
    go_enter Try.func24, Try.ntmps24
    go_wp2_with fail
    go_ret
    refine ⟨_, rfl, ?_, Below.refl _ _⟩
    rw [HF.out]
    exact ⟨_, _, rfl, hc', hA'⟩

set_option maxHeartbeats 4000000 in
set_option maxRecDepth 100000 in
theorem rbehind_any (A : Option Addr) (base : List ByteArray) (c : Nat) (A' : Option Addr) (l : List ByteArray) (c' : Nat) (w : World) (hm : base.length ≤ 1000) (hm' : l.length ≤ 1000) (hc' : l.length ≤ c')
    (hA : Strs w w.heap.size A base) (hA' : Strs w w.heap.size A' l) :
    Calls Try.prog 26 #[.slice A base.length c, .slice A' l.length c'] w fun e w' => ∃ v, e = .returned v ∧ StrsV w' v (behindF base l) ∧ Below w.heap.size w w' := by
  go_enter Try.func26, Try.ntmps26
  go_wp2_with fail
  go_loopg [5] base.length (fun g i wr => ∃ m : Nat, m ≤ base.length ∧ g = base.length - m ∧ i = .int .i64 m ∧ m ≤ l.length ∧ l.take m = base.take m ∧ Below w.heap.size w wr)
  case atStart => exact ⟨0, by omega, by omega, rfl, by omega, rfl, Below.refl _ _⟩
  case round =>
    obtain ⟨m, hm0, hg, rfl, hml, hsame, hb⟩ := hrel
    have Hg := Lib.hid hg
    have HS := Lib.hid hsame
    clear hg hsame
    by_cases hlt : m < base.length
    · obtain ⟨b, off, rfl, hbs, hcells⟩ := hA (by omega)
      obtain ⟨x, hx⟩ : ∃ x, base[m]? = some x := ⟨base[m], List.getElem?_eq_getElem hlt⟩
      have c0 := (hb.cell (p := ⟨b, off + m, none⟩) hbs).trans (hcells m x hx)
      have HX := Lib.hid hx
      clear hx hcells
      by_cases hl2 : m < l.length
      · obtain ⟨b', off', rfl, hbs', hcells'⟩ := hA' (by omega)
        obtain ⟨y, hy⟩ : ∃ y, l[m]? = some y := ⟨l[m], List.getElem?_eq_getElem hl2⟩
        have c1 := (hb.cell (p := ⟨b', off' + m, none⟩) hbs').trans (hcells' m y hy)
        have hge : decide ((l.length : Int) ≤ (m : Int)) = false := by rw [decide_eq_false_iff_not]; omega
        have hge' : decide (l.length ≤ m) = false := by rw [decide_eq_false_iff_not]; omega
        have HY := Lib.hid hy
        clear hy hcells'
        by_cases he : y = x
        · have hq : (y.toList == x.toList) = true := by rw [str_eq]; simp [he]
          have HM := Lib.hid he
          clear he
          go_wp2_with fail
          go_quiet (fail)
          go_wp2_with fail
          go_roundg (base.length - (m + 1))
          case measure => have := Hg.out; omega
          case rel =>
            refine ⟨m + 1, by omega, rfl, by go_num, by omega, ?_, below_drewN hb _⟩
            rw [take_snoc_of HX.out, take_snoc_of HY.out, HS.out, HM.out]
        · have hq : (y.toList == x.toList) = false := by rw [str_eq]; simpa using he
          have HM := Lib.hid he
          clear he
          go_wp2_with fail
          go_quiet (fail)
          go_wp2_with fail
          go_ret
          refine ⟨_, rfl, ?_, below_drewN hb _⟩
          have hne : l.take base.length ≠ base := by
            intro h
            have h1 : (l.take base.length)[m]? = some y := by rw [List.getElem?_take_of_lt (by omega)]; exact HY.out
            rw [h, HX.out] at h1
            cases h1
            exact HM.out rfl
          unfold behindF
          rw [if_neg hne]
          exact ⟨_, _, rfl, hc', hA'.next (below_drewN hb _)⟩
      · have hge : decide ((l.length : Int) ≤ (m : Int)) = true := by rw [decide_eq_true_iff]; omega
        have hge' : decide (l.length ≤ m) = true := by rw [decide_eq_true_iff]; omega
        go_wp2_with fail
        go_quiet (fail)
        go_wp2_with fail
        go_ret
        refine ⟨_, rfl, ?_, below_drewN hb _⟩
        have hne : l.take base.length ≠ base := by
          intro h
          have := congrArg List.length h
          rw [List.length_take] at this
          omega
        unfold behindF
        rw [if_neg hne]
        exact ⟨_, _, rfl, hc', hA'.next (below_drewN hb _)⟩
    · obtain rfl : m = base.length := by omega
      have hf : behindF base l = l.drop base.length := by
        unfold behindF
        rw [if_pos]
        rw [HS.out, List.take_length]
      have HF := Lib.hid hf
      clear hf
      by_cases h2 : base.length < l.length
      · obtain ⟨b, off, rfl, hbs, _⟩ := hA' (by omega)
        have hne : ¬ c' = base.length := by omega
        go_wp2_with fail
        go_ret
        refine ⟨_, rfl, ?_, hb⟩
        rw [HF.out]
        refine ⟨some ⟨b, off + base.length, none⟩, c' - base.length, ?_, by rw [List.length_drop]; omega, (strs_drop hA' base.length h2).next hb⟩
        rw [List.length_drop]
        rfl
      · have hl : l.length = base.length := by omega
        have HN := Lib.hid (show l.drop base.length = [] from List.drop_eq_nil_of_le (by omega))
        go_wp2_with fail
        all_goals
          go_ret
          refine ⟨_, rfl, ?_, hb⟩
          rw [HF.out, HN.out]
          exact ⟨_, _, rfl, Nat.zero_le _, fun h => absurd h (by simp)⟩
end Go.Proofs.Ytdbcmhcflndggaa
