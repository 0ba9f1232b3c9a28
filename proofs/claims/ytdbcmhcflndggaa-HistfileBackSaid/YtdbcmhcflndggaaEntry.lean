/- The contract of histfile.entry. -/
import Derived.Test.YtdbcmhcflndggaaFiled
import Derived.Test.YtdbcmhcflndggaaRef
import Derived.Laws.Cover4
namespace Go.Proofs.Ytdbcmhcflndggaa
open Go.RowKit

theorem byte_info : (Try.prog.info? 5).map (fun i => (i.zero, i.size, i.bytes)) = some (some (.int .u8 0), 1, 1) := by kernel_rfl

theorem conv_own {w : World} {base : Nat} {v : Value} {l : List UInt8} (h : w.ownsRow base 5 1 v l.length (Lib.byteCells l)) : (convert 36 9 v).run Try.prog w = .ok (.string (txt l)) w := by
  rcases h.2 with ⟨rfl, h0⟩ | ⟨g, cap, cur, rfl, h1, h2, h3, h4, h5, h6⟩
  · have : l = [] := List.eq_nil_of_length_eq_zero h0
    subst this
    rw [run_convert_bytes_string w 36 9 5 none 0 0 Try.underlying36 Try.underlying5 Try.underlying9]
    rfl
  · refine run_convert_bytes_back w 36 9 5 ⟨g, 0, none⟩ cap l Try.underlying36 Try.underlying5 Try.underlying9 ?_
    intro j hj
    exact h.cells (g := g) rfl j _ (by simp [Lib.byteCells, hj])

theorem parse_two {c d : UInt8} {r : List UInt8} (hc : c = 92) : parseF (c :: d :: r) = if d = 92 then (parseF r).map (92 :: ·) else if d = 110 then (parseF r).map (10 :: ·) else if d = 114 then (parseF r).map (13 :: ·) else none := by
  rw [parseF, if_pos hc]
theorem map_snoc {α : Type} (o : Option (List α)) (acc : List α) (x : α) : (o.map (x :: ·)).map (acc ++ ·) = o.map ((acc ++ [x]) ++ ·) := by
  cases o <;> simp

theorem txt_beq (a : List UInt8) (s : ByteArray) : ((txt (escF (txt a).data.toList)).toList == s.toList) = (escF a == s.data.toList) := by
  rw [ByteArray.toList_eq, ByteArray.toList_eq, txt_list, txt_list]

set_option maxHeartbeats 4000000 in
set_option maxRecDepth 100000 in
theorem entry_any (s : ByteArray) (w : World) (hs : s.size ≤ 50000) :
    Calls Try.prog 29 #[.string s] w fun e w' => e = .returned (.tuple #[.string (txt (entF s.data.toList).1), .bool (entF s.data.toList).2]) ∧ Below w.heap.size w w' := by
  obtain ⟨i0, hi0, hz0, hz1, hz2⟩ := info_parts byte_info
  go_enter Try.func29, Try.ntmps29
  go_wp2_with fail
  go_loopg [4, 5] s.size (fun g v i wr => ∃ (m : Nat) (acc : List UInt8), m ≤ s.size ∧ g = s.size - m ∧ i = .int .i64 m ∧ wr.ownsRow w.heap.size 5 1 v acc.length (Lib.byteCells acc) ∧ acc.length ≤ m ∧ (parseF (s.data.toList.drop m)).map (acc ++ ·) = parseF s.data.toList ∧ Below w.heap.size w wr)
  case atStart => exact ⟨0, [], by omega, by omega, rfl, World.ownsRow_nil _ _ _ _, by simp, by simp, Below.refl _ _⟩
  case round =>
    obtain ⟨m, acc, hm, hg, rfl, hrow, hal, hacc, hb⟩ := hrel
    have Hg := Lib.hid hg
    have HA := Lib.hid hacc
    clear hg hacc
    have hz := hb.size
    have hcl := Lib.byteCells_length acc
    have HCL := Lib.hid hcl
    clear hcl
    by_cases hlt : m < s.size
    · have hsn := drop_of s m hlt
      obtain ⟨c, hc⟩ : ∃ c, s[m] = c := ⟨_, rfl⟩
      rw [hc] at hsn
      have HN := Lib.hid hsn
      clear hsn
      by_cases h1 : c = 92
      · subst h1
        by_cases h2 : m + 1 < s.size
        · have hsd := drop_of s (m + 1) h2
          obtain ⟨d, hd⟩ : ∃ d, s[m + 1] = d := ⟨_, rfl⟩
          rw [hd] at hsd
          have HN2 := Lib.hid hsd
          clear hsd
          have g2 : ((m : Int) + 1 < (s.size : Int)) := by omega
          by_cases h3 : d = 92
          · subst h3
            go_wp2_with (at_builtin; refine wpList_append_own _ rfl _ _ 36 rfl w.heap.size 5 i0 _ 1 1 Try.underlying36 hi0 hz0 hz1 hz2 rfl (by decide) _ _ _ rfl (hrow.alloc _) ⟨_, 0, none⟩ 1 1 [.int .u8 92] rfl rfl ?_ ?_ (by unfold maxLen; omega) (by omega) ?_ ?_)
            case refine_1 => exact cell_one_new _ _ _
            case refine_2 => intro u hu; simp at hu; subst hu; rfl
            case refine_3 => simp; omega
            intro v' w1 hown' hgrow _
            have R1 : w1.ownsRow w.heap.size 5 1 v' (acc ++ [92]).length (Lib.byteCells (acc ++ [92])) := by
              rw [List.length_append, Lib.byteCells_append]; exact hown'
            have R2 := (hb.alloc hb.size (.cells #[.int .u8 92] 5)).grown hgrow (by simp; omega) (fun k hk => (hrow.lt k hk).1)
            clear hown' hgrow
            go_wp2_with fail
            go_roundg (s.size - (m + 2))
            case measure => have := Hg.out; omega
            case rel =>
              refine ⟨m + 2, acc ++ [92], by omega, rfl, by go_num, R1, by simp; omega, ?_, R2⟩
              rw [← HA.out, HN.out, HN2.out, parse_two rfl, if_pos rfl, map_snoc]
          have e3 : ((d.toNat : Int) == 92) = false := byte_eq (d := 92) h3
          have H3 := Lib.hid h3
          clear h3
          by_cases h4 : d = 110
          · subst h4
            go_wp2_with (at_builtin; refine wpList_append_own _ rfl _ _ 36 rfl w.heap.size 5 i0 _ 1 1 Try.underlying36 hi0 hz0 hz1 hz2 rfl (by decide) _ _ _ rfl (hrow.alloc _) ⟨_, 0, none⟩ 1 1 [.int .u8 10] rfl rfl ?_ ?_ (by unfold maxLen; omega) (by omega) ?_ ?_)
            case refine_1 => exact cell_one_new _ _ _
            case refine_2 => intro u hu; simp at hu; subst hu; rfl
            case refine_3 => simp; omega
            intro v' w1 hown' hgrow _
            have R1 : w1.ownsRow w.heap.size 5 1 v' (acc ++ [10]).length (Lib.byteCells (acc ++ [10])) := by
              rw [List.length_append, Lib.byteCells_append]; exact hown'
            have R2 := (hb.alloc hb.size (.cells #[.int .u8 10] 5)).grown hgrow (by simp; omega) (fun k hk => (hrow.lt k hk).1)
            clear hown' hgrow
            go_wp2_with fail
            go_roundg (s.size - (m + 2))
            case measure => have := Hg.out; omega
            case rel =>
              refine ⟨m + 2, acc ++ [10], by omega, rfl, by go_num, R1, by simp; omega, ?_, R2⟩
              rw [← HA.out, HN.out, HN2.out, parse_two rfl, if_neg H3.out, if_pos rfl, map_snoc]
          have e4 : ((d.toNat : Int) == 110) = false := byte_eq (d := 110) h4
          have H4 := Lib.hid h4
          clear h4
          by_cases h5 : d = 114
          · subst h5
            go_wp2_with (at_builtin; refine wpList_append_own _ rfl _ _ 36 rfl w.heap.size 5 i0 _ 1 1 Try.underlying36 hi0 hz0 hz1 hz2 rfl (by decide) _ _ _ rfl (hrow.alloc _) ⟨_, 0, none⟩ 1 1 [.int .u8 13] rfl rfl ?_ ?_ (by unfold maxLen; omega) (by omega) ?_ ?_)
            case refine_1 => exact cell_one_new _ _ _
            case refine_2 => intro u hu; simp at hu; subst hu; rfl
            case refine_3 => simp; omega
            intro v' w1 hown' hgrow _
            have R1 : w1.ownsRow w.heap.size 5 1 v' (acc ++ [13]).length (Lib.byteCells (acc ++ [13])) := by
              rw [List.length_append, Lib.byteCells_append]; exact hown'
            have R2 := (hb.alloc hb.size (.cells #[.int .u8 13] 5)).grown hgrow (by simp; omega) (fun k hk => (hrow.lt k hk).1)
            clear hown' hgrow
            go_wp2_with fail
            go_roundg (s.size - (m + 2))
            case measure => have := Hg.out; omega
            case rel =>
              refine ⟨m + 2, acc ++ [13], by omega, rfl, by go_num, R1, by simp; omega, ?_, R2⟩
              rw [← HA.out, HN.out, HN2.out, parse_two rfl, if_neg H3.out, if_neg H4.out, if_pos rfl, map_snoc]
          have e5 : ((d.toNat : Int) == 114) = false := byte_eq (d := 114) h5
          have H5 := Lib.hid h5
          clear h5
          have hnone : parseF s.data.toList = none := by rw [← HA.out, HN.out, HN2.out, parse_two rfl, if_neg H3.out, if_neg H4.out, if_neg H5.out]; rfl
          have hent : entF s.data.toList = ([], false) := by unfold entF; rw [hnone]
          have HE := Lib.hid hent
          clear hnone hent
          go_wp2_with fail
          go_ret2
          rw [HE.out]
          exact ⟨rfl, hb⟩
        · have g2 : ¬ ((m : Int) + 1 < (s.size : Int)) := by omega
          have g3 : decide ((m : Int) + 1 < (s.size : Int)) = false := by simpa using g2
          have hnil : s.data.toList.drop (m + 1) = [] := List.drop_eq_nil_of_le (by simp; change s.size ≤ _; omega)
          have hnone : parseF s.data.toList = none := by rw [← HA.out, HN.out, hnil]; rfl
          have hent : entF s.data.toList = ([], false) := by unfold entF; rw [hnone]
          have HE := Lib.hid hent
          clear hnone hent hnil
          go_wp2_with fail
          go_ret2
          rw [HE.out]
          exact ⟨rfl, hb⟩
      · have e1 : ((c.toNat : Int) == 92) = false := byte_eq (d := 92) h1
        have H1 := Lib.hid h1
        clear h1
        go_wp2_with (at_builtin; refine wpList_append_own _ rfl _ _ 36 rfl w.heap.size 5 i0 _ 1 1 Try.underlying36 hi0 hz0 hz1 hz2 rfl (by decide) _ _ _ rfl (hrow.alloc _) ⟨_, 0, none⟩ 1 1 [.int .u8 c.toNat] rfl rfl ?_ ?_ (by unfold maxLen; omega) (by omega) ?_ ?_)
        case refine_1 => exact cell_one_new _ _ _
        case refine_2 => intro u hu; simp at hu; subst hu; rfl
        case refine_3 => simp; omega
        intro v' w1 hown' hgrow _
        have R1 : w1.ownsRow w.heap.size 5 1 v' (acc ++ [c]).length (Lib.byteCells (acc ++ [c])) := by
          rw [List.length_append, Lib.byteCells_append]; exact hown'
        have R2 := (hb.alloc hb.size (.cells #[.int .u8 c.toNat] 5)).grown hgrow (by simp; omega) (fun k hk => (hrow.lt k hk).1)
        clear hown' hgrow
        go_wp2_with fail
        go_roundg (s.size - (m + 1))
        case measure => have := Hg.out; omega
        case rel =>
          refine ⟨m + 1, acc ++ [c], by omega, rfl, by go_num, R1, by simp; omega, ?_, R2⟩
          rw [← HA.out, HN.out, parse_cons H1.out, map_snoc]
    · obtain rfl : m = s.size := by omega
      have hp : parseF s.data.toList = some acc := by
        rw [← HA.out, List.drop_eq_nil_of_le (by simp)]
        simp [parseF]
      have hent : entF s.data.toList = (acc, escF acc == s.data.toList) := by unfold entF; rw [hp]
      have HE := Lib.hid hent
      clear hp hent HA
      have hrowd : wr.drew.ownsRow w.heap.size 5 1 u4 acc.length (Lib.byteCells acc) := hrow
      have hte : (txt acc).size ≤ 100000 := by rw [txt_size]; omega
      go_wp2_with fail
      go_region_held3 (fun w' => (convert 36 9 u4).run Try.prog w' = .ok (.string (txt acc)) w') (first | exact conv_own hrow | exact conv_own hrowd | exact conv_own (own_next hrowd hbe))
        (first | (go_at_call 20; (with_reducible refine (escape_any (txt acc) _ hte).mono ?_); rintro e we ⟨rfl, hbe⟩))
      all_goals
        rw [txt_beq]
        go_wp2_with fail
        go_ret2
        rw [HE.out]
        exact ⟨rfl, (below_drewN hb 1).trans (hbe.mono hb.size)⟩
end Go.Proofs.Ytdbcmhcflndggaa
