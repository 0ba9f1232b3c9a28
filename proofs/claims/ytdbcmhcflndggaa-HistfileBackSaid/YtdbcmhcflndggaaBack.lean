/- HistfileBack: the law returns true. -/
import Derived.Test.YtdbcmhcflndggaaGetL
import Derived.Test.YtdbcmhcflndggaaML
namespace Go.Proofs.Ytdbcmhcflndggaa
open Go.RowKit

theorem count_snoc (U : ByteArray) (m : Nat) (h : m < U.size) : (U.data.toList.take (m + 1)).count 10 = (U.data.toList.take m).count 10 + if U[m] = 10 then 1 else 0 := by
  rw [take_snoc U m h, List.count_append, List.count_singleton]
  by_cases h : U[m] = 10 <;> simp [h]

set_option maxHeartbeats 8000000 in
set_option maxRecDepth 100000 in
theorem backlaw_in (A : Option Addr) (l : List ByteArray) (c : Nat) (s : ByteArray) (w : World) (hm : l.length ≤ maxLen) (hA : Strs w w.heap.size A l) (g0 : greatB l 60 = false) (hs : s.size ≤ 500) :
    Calls Try.prog 6 #[.slice A l.length c, .string s] w fun e w' => e = .returned (.bool true) ∧ Below w.heap.size w w' := by
  obtain ⟨n0, s0⟩ := great_false g0
  have G0 := Lib.hid g0
  have S0 := Lib.hid s0
  have hi : ¬ (500 : Int) < (s.size : Int) := by omega
  have hpl := put_len 200 l s0
  obtain ⟨T, hT⟩ : ∃ T, putF (listsOf l) = T := ⟨_, rfl⟩
  have hback := get_back (listsOf l)
  have hcount := feeds_put (listsOf l)
  rw [lists_len] at hcount
  rw [hT] at hpl hback hcount
  have HT := Lib.hid hT
  have HB := Lib.hid hback
  have HC := Lib.hid hcount
  have htl : T.length ≤ 30000 := by omega
  have hts : (txt T).size = T.length := txt_size T
  have HTS := Lib.hid hts
  clear g0 s0 hT hback hcount hpl hts
  go_enter Try.func6, Try.ntmps6
  go_wp2_with fail
  refine (great_any A l c 60 w hm hA).mono ?_
  rintro e w1 ⟨rfl, rfl⟩
  rw [G0.out]
  go_wp2_with fail
  refine (put_any A l c w (by omega) (fun x hx => by have := S0.out x hx; omega) hA).mono ?_
  rintro e w1 ⟨rfl, hb1⟩
  rw [HT.out]
  have hA1 := hA.next hb1
  go_wp2_with fail
  refine (get_any (txt T) w1 (by have := HTS.out; omega)).mono ?_
  rintro e w2 ⟨A2, c2, L, rfl, hA2, hL, _, _, hb2⟩
  rw [txt_list, HB.out] at hL ⊢
  obtain rfl : L = l := lists_inj hL
  have hA12 := hA1.next hb2
  have hbb := hb1.trans (hb2.mono hb1.size)
  clear hL hb1 hb2 hA1
  obtain ⟨U, hU⟩ : ∃ U, txt T = U := ⟨_, rfl⟩
  have hUT : U.data.toList = T := by rw [← hU, txt_list]
  have hus : U.size ≤ 30000 := by rw [← hU, HTS.out]; exact htl
  rw [hU]
  have HUT := Lib.hid hUT
  clear hU hUT HTS
  go_wp2_with fail
  go_loopg [10, 9] U.size (fun g i f wr => ∃ m : Nat, m ≤ U.size ∧ g = U.size - m ∧ i = .int .i64 m ∧ f = .int .i64 ((U.data.toList.take m).count 10 : Nat) ∧ wr = w2)
  case atStart => exact ⟨0, by omega, by omega, rfl, rfl, rfl⟩
  case round =>
    obtain ⟨m, hm', hg, rfl, rfl, rfl⟩ := hrel
    have Hg := Lib.hid hg
    clear hg
    have hcl : (U.data.toList.take m).count 10 ≤ 30000 := Nat.le_trans List.count_le_length (Nat.le_trans (List.length_take_le _ _) (by omega))
    by_cases hlt : m < U.size
    · have hcs := count_snoc U m hlt
      obtain ⟨b, hbb'⟩ : ∃ b, U[m] = b := ⟨_, rfl⟩
      rw [hbb'] at hcs
      have HCS := Lib.hid hcs
      clear hcs
      by_cases h10 : b = 10
      · subst h10
        go_wp2_with fail
        go_roundg (U.size - (m + 1))
        case measure => have := Hg.out; omega
        case rel => exact ⟨m + 1, by omega, rfl, by go_num, by rw [HCS.out, if_pos trivial]; go_num, rfl⟩
      · have e10 : ((b.toNat : Int) == 10) = false := byte_eq (d := 10) h10
        have H10 := Lib.hid h10
        clear h10
        go_wp2_with fail
        go_roundg (U.size - (m + 1))
        case measure => have := Hg.out; omega
        case rel => exact ⟨m + 1, by omega, rfl, by go_num, by rw [HCS.out, if_neg H10.out, Nat.add_zero], rfl⟩
    · obtain rfl : m = U.size := by omega
      clear Hg
      have hfin : (U.data.toList.take U.size).count 10 = L.length := by
        rw [List.take_of_length_le (by simp), HUT.out]
        exact HC.out
      rw [hfin]
      clear hfin hcl
      have htwo := get_two (linesF s.data.toList) []
      rw [lines_flat] at htwo
      have HTW := Lib.hid htwo
      clear htwo
      go_wp2_with fail
      refine (texts_any A2 L c2 A L c _ (by omega) (by omega) hA2 hA12).mono ?_
      rintro e w3 ⟨rfl, hb3⟩
      rw [decide_eq_true rfl]
      have hbb3 := hbb.trans (hb3.mono hbb.size)
      clear hb3 hA2 hA12 hbb
      go_wp2_with fail
      refine (get_any s w3 (by omega)).mono ?_
      rintro e w4 ⟨A4, c4, N, rfl, hA4, hN, hNl, hNs, hb4⟩
      have hbb4 := hbb3.trans (hb4.mono hbb3.size)
      clear hb4 hbb3
      obtain ⟨R, hR⟩ : ∃ R, getF [] (linesF s.data.toList) = R := ⟨_, rfl⟩
      obtain ⟨r1, r2, r3⟩ := R
      rw [hR] at hN HTW ⊢
      simp only at hN HTW ⊢
      rcases HTW.out with ⟨rfl, rfl, hput⟩ | ⟨rfl, hpos, rfl⟩
      · rw [← hN] at hput
        have hpt : txt (putF (listsOf N)) = s := by rw [hput]; simp [putF, txt]
        have HPT := Lib.hid hpt
        have HNS := Lib.hid hNs
        clear hput hpt hR hN HTW hNs
        go_wp2_with fail
        refine (put_any A4 N c4 w4 (by omega) (fun x hx => by have := HNS.out x hx; omega) hA4).mono ?_
        rintro e w5 ⟨rfl, hb5⟩
        rw [HPT.out]
        have hbb5 := hbb4.trans (hb5.mono hbb4.size)
        have hss : (s.toList == s.toList) = true := by rw [beq_iff_eq]
        go_wp2_with fail
        refine (filed_true w5).mono ?_
        rintro e w6 ⟨rfl, hb6⟩
        go_wp2_with fail
        go_ret
        exact ⟨rfl, hbb5.trans (hb6.mono hbb5.size)⟩
      · have hN0 : N = [] := by
          cases N with
          | nil => rfl
          | cons _ _ => simp [listsOf] at hN
        subst hN0
        have hpi : (0 : Int) < (r2 : Int) := by omega
        clear hR hN HTW
        go_wp2_with fail
        refine (filed_true w4).mono ?_
        rintro e w6 ⟨rfl, hb6⟩
        go_wp2_with fail
        go_ret
        exact ⟨rfl, hbb4.trans (hb6.mono hbb4.size)⟩

set_option maxHeartbeats 8000000 in
set_option maxRecDepth 100000 in
theorem backlaw_any (A : Option Addr) (l : List ByteArray) (c : Nat) (s : ByteArray) (w : World) (hm : l.length ≤ maxLen) (_hms : s.size ≤ maxLen) (hA : Strs w w.heap.size A l) :
    Calls Try.prog 6 #[.slice A l.length c, .string s] w fun e w' => e = .returned (.bool true) ∧ Below w.heap.size w w' := by
  rcases g0 : greatB l 60 with _ | _
  case true =>
    have G0 := Lib.hid g0
    clear g0
    go_enter Try.func6, Try.ntmps6
    go_wp2_with fail
    refine (great_any A l c 60 w hm hA).mono ?_
    rintro e w1 ⟨rfl, rfl⟩
    rw [G0.out]
    go_wp2_with fail
    refine (filed_true w).mono ?_
    rintro e w1 ⟨rfl, hb⟩
    go_wp2_with fail
    go_ret
    exact ⟨rfl, hb⟩
  case false =>
    by_cases hb : 500 < s.size
    · have hi : (500 : Int) < (s.size : Int) := by omega
      have G0 := Lib.hid g0
      clear g0
      go_enter Try.func6, Try.ntmps6
      go_wp2_with fail
      refine (great_any A l c 60 w hm hA).mono ?_
      rintro e w1 ⟨rfl, rfl⟩
      rw [G0.out]
      go_wp2_with fail
      refine (filed_true w).mono ?_
      rintro e w1 ⟨rfl, hb⟩
      go_wp2_with fail
      go_ret
      exact ⟨rfl, hb⟩
    · exact backlaw_in A l c s w hm hA g0 (by omega)
end Go.Proofs.Ytdbcmhcflndggaa
