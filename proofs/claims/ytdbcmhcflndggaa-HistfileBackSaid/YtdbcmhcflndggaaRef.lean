/- The contracts of the reference's line, Put and entry. -/
import Derived.Test.YtdbcmhcflndggaaEsc
namespace Go.Proofs.Ytdbcmhcflndggaa
open Go.RowKit

theorem one_of (s : ByteArray) (m : Nat) (h : m < s.size) : s.extract m (m + 1) = txt [s[m]] := by
  apply ByteArray.ext
  apply Array.ext'
  rw [ByteArray.data_extract, Array.toList_extract]
  have hm : m < s.data.toList.length := by simpa using h
  rw [List.extract_eq_take_drop] 
  rw [show m + 1 - m = 1 by omega, List.take_one, List.head?_drop, List.getElem?_eq_getElem hm]
  rfl

set_option maxHeartbeats 4000000 in
set_option maxRecDepth 100000 in
theorem line_any (s : ByteArray) (w : World) (hs : s.size ≤ 100000) :
    Calls Try.prog 22 #[.string s] w fun e w' => e = .returned (.string (txt (lineF s.data.toList))) ∧ w = w' := by
  go_enter Try.func22, Try.ntmps22
  go_wp2_with fail
  go_loopg [3, 4] s.size (fun g o i wr => ∃ m : Nat, m ≤ s.size ∧ g = s.size - m ∧ i = .int .i64 m ∧ o = .string (txt (escF (s.data.toList.take m))) ∧ w = wr)
  case atStart => exact ⟨0, by omega, by omega, rfl, rfl, rfl⟩
  case round =>
    obtain ⟨m, hm, hg, rfl, rfl, rfl⟩ := hrel
    have Hg := Lib.hid hg
    clear hg
    have hl : (txt (escF (s.data.toList.take m))).size ≤ 2 * m := by rw [txt_size]; exact Nat.le_trans (esc_len _) (by have := List.length_take_le m s.data.toList; omega)
    by_cases hlt : m < s.size
    · have hsn := take_snoc s m hlt
      have hone := one_of s m hlt
      obtain ⟨c, hc⟩ : ∃ c, s[m] = c := ⟨_, rfl⟩
      have HE := Lib.hid (show txt (escF (s.data.toList.take (m + 1))) = txt (escF (s.data.toList.take m)) ++ txt (escB c) by rw [hsn, esc_snoc, hc, txt_append])
      rw [hc] at hone
      have HO := Lib.hid hone
      clear hsn hone
      have n1 : ¬9223372036854775807 < (txt (escF (s.data.toList.take m))).size + 2 := by omega
      have n2 : ¬9223372036854775807 < (txt (escF (s.data.toList.take m))).size + (min (m + 1) s.size - m) := by omega
      rcases byte_ways c with ⟨e1, e2, e3, e4⟩ | rfl | rfl | rfl
      · have HC := Lib.hid e4
        clear e4
        go_wp2_with fail
        go_roundg (s.size - (m + 1))
        case measure => have := Hg.out; omega
        case rel =>
          refine ⟨m + 1, by omega, rfl, by go_num, ?_, rfl⟩
          rw [HE.out, HC.out, ← HO.out]
      all_goals
        go_wp2_with fail
        go_roundg (s.size - (m + 1))
        case measure => have := Hg.out; omega
        case rel =>
          refine ⟨m + 1, by omega, rfl, by go_num, ?_, rfl⟩
          rw [HE.out]
          rfl
    · obtain rfl : m = s.size := by omega
      have n1 : ¬9223372036854775807 < (txt (escF (s.data.toList.take s.size))).size + 1 := by omega
      go_wp2_with fail
      go_ret
      refine ⟨?_, rfl⟩
      have e : s.data.toList.take s.size = s.data.toList := List.take_of_length_le (by simp)
      rw [e]
      change Ending.returned (.string _) = _
      rw [line_txt]

set_option maxHeartbeats 4000000 in
set_option maxRecDepth 100000 in
theorem rput_any (A : Option Addr) (l : List ByteArray) (c : Nat) (w : World) (hn : l.length ≤ 1000) (hs : ∀ x ∈ l, x.size ≤ 1000) (hA : Strs w w.heap.size A l) :
    Calls Try.prog 10 #[.slice A l.length c] w fun e w' => e = .returned (.string (txt (putF (listsOf l)))) ∧ w = w' := by
  go_enter Try.func10, Try.ntmps10
  go_wp2_with fail
  go_loopg [3, 4] l.length (fun g o i wr => ∃ m : Nat, m ≤ l.length ∧ g = l.length - m ∧ i = .int .i64 m ∧ o = .string (txt (putF (listsOf (l.take m)))) ∧ w = wr)
  case atStart => exact ⟨0, by omega, by omega, rfl, rfl, rfl⟩
  case round =>
    obtain ⟨m, hm, hg, rfl, rfl, rfl⟩ := hrel
    have Hg := Lib.hid hg
    clear hg
    have hl : (txt (putF (listsOf (l.take m)))).size ≤ 1000 * 2001 := by
      rw [txt_size]
      exact Nat.le_trans (put_len 1000 _ (fun x hx => hs x (List.mem_of_mem_take hx))) (Nat.mul_le_mul_right _ (by have := List.length_take_le m l; omega))
    by_cases hlt : m < l.length
    · obtain ⟨b, off, rfl, hbs, hcells⟩ := hA (by omega)
      obtain ⟨x, hx⟩ : ∃ x, l[m]? = some x := ⟨l[m], List.getElem?_eq_getElem hlt⟩
      have c0 := hcells m x hx
      have hxs := hs x (List.mem_of_getElem? hx)
      have hel := esc_len x.data.toList
      have e2 : x.data.toList.length = x.size := Array.length_toList
      have hls : (txt (lineF x.data.toList)).size ≤ 3000 := by rw [txt_size, lineF, List.length_append]; simp only [List.length_singleton]; omega
      have n1 : ¬9223372036854775807 < (txt (putF (listsOf (l.take m)))).size + (txt (lineF x.data.toList)).size := by omega
      have HX := Lib.hid hx
      clear hx e2 hel hcells hs
      go_wp2_with fail
      refine (line_any x _ (by omega)).mono ?_
      rintro e W1 ⟨rfl, rfl⟩
      go_wp2_with fail
      go_roundg (l.length - (m + 1))
      case measure => have := Hg.out; omega
      case rel =>
        refine ⟨m + 1, by omega, rfl, by go_num, ?_, rfl⟩
        rw [put_snoc HX.out, txt_append]
    · obtain rfl : m = l.length := by omega
      go_wp2_with fail
      go_ret
      refine ⟨?_, rfl⟩
      rw [List.take_length]
      rfl

theorem drop_of (s : ByteArray) (m : Nat) (h : m < s.size) : s.data.toList.drop m = s[m] :: s.data.toList.drop (m + 1) := by
  rw [List.drop_eq_getElem_cons (by simpa using h)]; rfl
theorem byte_eq {c d : UInt8} (h : ¬ c = d) : ((c.toNat : Int) == (d.toNat : Int)) = false := by
  rw [beq_eq_false_iff_ne]
  intro h'
  exact h (UInt8.toNat_inj.1 (by omega))

set_option maxHeartbeats 4000000 in
set_option maxRecDepth 100000 in
theorem rentry_any (s : ByteArray) (w : World) (hs : s.size ≤ 100000) :
    Calls Try.prog 30 #[.string s] w fun e w' => e = .returned (.string (txt (rentF s.data.toList))) ∧ w = w' := by
  go_enter Try.func30, Try.ntmps30
  go_wp2_with fail
  go_loopg [3, 4] s.size (fun g o i wr => ∃ (m : Nat) (acc : List UInt8), m ≤ s.size ∧ g = s.size - m ∧ i = .int .i64 m ∧ o = .string (txt acc) ∧ acc.length ≤ m ∧ acc ++ rentF (s.data.toList.drop m) = rentF s.data.toList ∧ w = wr)
  case atStart => exact ⟨0, [], by omega, by omega, rfl, rfl, by simp, rfl, rfl⟩
  case round =>
    obtain ⟨m, acc, hm, hg, rfl, rfl, hal, hacc, rfl⟩ := hrel
    have Hg := Lib.hid hg
    have HA := Lib.hid hacc
    clear hg hacc
    have hl : (txt acc).size ≤ m := by rw [txt_size]; exact hal
    by_cases hlt : m < s.size
    · have hsn := drop_of s m hlt
      have hone := one_of s m hlt
      obtain ⟨c, hc⟩ : ∃ c, s[m] = c := ⟨_, rfl⟩
      rw [hc] at hone hsn
      have HO := Lib.hid hone
      have HN := Lib.hid hsn
      clear hsn hone
      have n1 : ¬9223372036854775807 < (txt acc).size + 1 := by omega
      have n2 : ¬9223372036854775807 < (txt acc).size + (min (m + 1) s.size - m) := by omega
      have n3 : ¬9223372036854775807 < (txt acc).size + (min (m + 1 + 1) s.size - (m + 1)) := by omega
      by_cases h1 : c = 92
      · subst h1
        by_cases h2 : m + 1 < s.size
        · have hsd := drop_of s (m + 1) h2
          have hon2 := one_of s (m + 1) h2
          obtain ⟨d, hd⟩ : ∃ d, s[m + 1] = d := ⟨_, rfl⟩
          rw [hd] at hon2 hsd
          have HO2 := Lib.hid hon2
          have HN2 := Lib.hid hsd
          clear hsd hon2
          have hstep : rentF (s.data.toList.drop m) = (if d = 110 then 10 else if d = 114 then 13 else d) :: rentF (s.data.toList.drop (m + 2)) := by
            rw [HN.out, HN2.out]
            simp [rentF]
          have HS := Lib.hid hstep
          clear hstep
          have g2 : ((m : Int) + 1 < (s.size : Int)) := by omega
          by_cases h3 : d = 110
          · subst h3
            go_wp2_with fail
            go_roundg (s.size - (m + 2))
            case measure => have := Hg.out; omega
            case rel =>
              refine ⟨m + 2, acc ++ [10], by omega, rfl, by go_num, ?_, by simp; omega, ?_, rfl⟩
              · rw [← txt_append]; rfl
              · rw [← HA.out, HS.out]; simp
          · have e3 : ((d.toNat : Int) == 110) = false := byte_eq (d := 110) h3
            by_cases h4 : d = 114
            · subst h4
              clear h3 e3
              go_wp2_with fail
              go_roundg (s.size - (m + 2))
              case measure => have := Hg.out; omega
              case rel =>
                refine ⟨m + 2, acc ++ [13], by omega, rfl, by go_num, ?_, by simp; omega, ?_, rfl⟩
                · rw [← txt_append]; rfl
                · rw [← HA.out, HS.out]; simp
            · have e4 : ((d.toNat : Int) == 114) = false := byte_eq (d := 114) h4
              have H3 := Lib.hid h3
              have H4 := Lib.hid h4
              clear h3 h4
              go_wp2_with fail
              go_roundg (s.size - (m + 2))
              case measure => have := Hg.out; omega
              case rel =>
                refine ⟨m + 2, acc ++ [d], by omega, rfl, by go_num, ?_, by simp; omega, ?_, rfl⟩
                · rw [← txt_append, ← HO2.out]
                · rw [← HA.out, HS.out, if_neg H3.out, if_neg H4.out]; simp
        · have g2 : ¬ ((m : Int) + 1 < (s.size : Int)) := by omega
          have g3 : decide ((m : Int) + 1 < (s.size : Int)) = false := by simpa using g2
          go_wp2_with fail
          go_roundg (s.size - (m + 1))
          case measure => have := Hg.out; omega
          case rel =>
            refine ⟨m + 1, acc ++ [92], by omega, rfl, by go_num, ?_, by simp; omega, ?_, rfl⟩
            · rw [← txt_append, ← HO.out]
            · rw [← HA.out, HN.out]
              have : s.data.toList.drop (m + 1) = [] := List.drop_eq_nil_of_le (by simp; change s.size ≤ _; omega)
              rw [this]; simp [rentF]
      · have e1 : ((c.toNat : Int) == 92) = false := byte_eq (d := 92) h1
        have H1 := Lib.hid h1
        clear h1
        go_wp2_with fail
        go_roundg (s.size - (m + 1))
        case measure => have := Hg.out; omega
        case rel =>
          refine ⟨m + 1, acc ++ [c], by omega, rfl, by go_num, ?_, by simp; omega, ?_, rfl⟩
          · rw [← txt_append, ← HO.out]
          · rw [← HA.out, HN.out, rent_cons H1.out]; simp
    · obtain rfl : m = s.size := by omega
      go_wp2_with fail
      go_ret
      refine ⟨?_, rfl⟩
      have e : s.data.toList.drop s.size = [] := List.drop_eq_nil_of_le (by simp)
      have := HA.out
      rw [e] at this
      simp [rentF] at this
      rw [← this]
      rfl
end Go.Proofs.Ytdbcmhcflndggaa
