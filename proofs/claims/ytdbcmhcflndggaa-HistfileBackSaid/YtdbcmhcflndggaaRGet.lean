/- The contract of the reference's Get. -/
import Derived.Test.YtdbcmhcflndggaaEntry
namespace Go.Proofs.Ytdbcmhcflndggaa
open Go.RowKit

theorem extract_list (s : ByteArray) (a b : Nat) : (s.extract a b).data.toList = (s.data.toList.drop a).take (b - a) := by
  rw [ByteArray.data_extract, Array.toList_extract, List.extract_eq_take_drop]
theorem extract_txt (s : ByteArray) (a b : Nat) : s.extract a b = txt ((s.data.toList.drop a).take (b - a)) := by
  rw [← extract_list, txt_of]
theorem lists_snoc (l : List ByteArray) (x : List UInt8) : listsOf (l ++ [txt x]) = listsOf l ++ [x] := by
  simp [listsOf, txt]
theorem lists_len (l : List ByteArray) : (listsOf l).length = l.length := by simp [listsOf]
theorem txt_inj {a b : List UInt8} : txt a = txt b ↔ a = b :=
  ⟨fun h => by have := congrArg (fun x : ByteArray => x.data.toList) h; simpa [txt] using this, fun h => by rw [h]⟩
/-- A line that ends in a line feed, and none before it. -/
theorem get_step (acc : List (List UInt8)) (seg r : List UInt8) (h : ∀ c ∈ seg, c ≠ 10) :
    getF acc (linesF (seg ++ 10 :: r)) = if okF seg then getF (acc ++ [rentF seg]) (linesF r) else ([], acc.length + 1, 10) := by
  rw [lines_seg seg r h, getF]
  have h1 : endF (seg ++ [10]) = true := by simp [endF]
  have h2 : (seg ++ [10]).dropLast = seg := by simp
  rw [h1, h2]
  by_cases ho : okF seg = true <;> simp [ho]
theorem get_rest (acc : List (List UInt8)) (seg : List UInt8) (hne : seg ≠ []) (h : ∀ c ∈ seg, c ≠ 10) : getF acc (linesF seg) = ([], acc.length + 1, 10) := by
  rw [lines_rest seg hne h, getF]
  have h1 : endF seg = false := by
    unfold endF
    rw [beq_eq_false_iff_ne]
    intro e
    obtain ⟨ys, rfl⟩ := List.getLast?_eq_some_iff.1 e
    exact h 10 (by simp) rfl
  rw [h1]
  rfl
theorem ok_iff (seg : List UInt8) : okF seg = true ↔ lineF (rentF seg) = seg ++ [10] := by
  unfold okF lineF
  rw [beq_iff_eq]
  exact ⟨fun h => by rw [h], fun h => List.append_cancel_right h⟩
theorem seg_split (l : List UInt8) (a b : Nat) (x : UInt8) (hab : a ≤ b) (hx : l.drop b = x :: l.drop (b + 1)) : l.drop a = (l.drop a).take (b - a) ++ x :: l.drop (b + 1) := by
  have h : (l.drop a).drop (b - a) = l.drop b := by rw [List.drop_drop]; congr 1; omega
  rw [← hx, ← h, List.take_append_drop]
theorem seg_snoc (l : List UInt8) (a b : Nat) (x : UInt8) (hab : a ≤ b) (hx : l.drop b = x :: l.drop (b + 1)) : (l.drop a).take (b + 1 - a) = (l.drop a).take (b - a) ++ [x] := by
  rw [show b + 1 - a = b - a + 1 by omega, List.take_add_one]
  congr 1
  rw [List.getElem?_drop, show a + (b - a) = b by omega]
  have : (l.drop b)[0]? = some x := by rw [hx]; rfl
  rw [List.getElem?_drop] at this
  rw [Nat.add_zero] at this
  rw [this]
  rfl

theorem line_at (x : List UInt8) (w : World) (h : x.length ≤ 100000) : Calls Try.prog 22 #[.string (txt x)] w fun e w' => e = .returned (.string (txt (lineF x))) ∧ w' = w := by
  refine (line_any (txt x) w (by rw [txt_size]; exact h)).mono ?_
  rintro e w' ⟨rfl, rfl⟩
  rw [txt_list]
  exact ⟨rfl, rfl⟩
theorem cmp_line (x : List UInt8) (s : ByteArray) (y : List UInt8) (h : s = txt y) : ((txt x).toList == s.toList) = decide (x = y) := by
  subst h
  rw [str_eq]
  by_cases h : x = y
  · rw [decide_eq_true h, decide_eq_true (txt_inj.2 h)]
  · rw [decide_eq_false h, decide_eq_false (fun e => h (txt_inj.1 e))]

/-- What Get answers. -/
def GotV (s : ByteArray) (w : World) (e : Ending) (w' : World) : Prop :=
  ∃ (A : Option Addr) (c : Nat) (L : List ByteArray), e = .returned (.tuple #[.slice A L.length c, .int .i64 (getF [] (linesF s.data.toList)).2.1, .int .i64 (getF [] (linesF s.data.toList)).2.2]) ∧
    Strs w' w'.heap.size A L ∧ listsOf L = (getF [] (linesF s.data.toList)).1 ∧ L.length ≤ s.size ∧ (∀ x ∈ L, x.size ≤ s.size) ∧ Below w.heap.size w w'

set_option maxHeartbeats 8000000 in
set_option maxRecDepth 100000 in
theorem rget_any (s : ByteArray) (w : World) (hs : s.size ≤ 50000) : Calls Try.prog 18 #[.string s] w (GotV s w) := by
  obtain ⟨i0, hi0, hz0, hz1, hz2⟩ := info_parts str_info
  go_enter Try.func18, Try.ntmps18
  go_wp2_with fail
  go_loopg [5, 6, 7] s.size (fun g v f i wr => ∃ (m k : Nat) (acc : List ByteArray), k ≤ m ∧ m ≤ s.size ∧ g = s.size - m ∧ f = .int .i64 k ∧ i = .int .i64 m ∧ wr.ownsRow w.heap.size 9 1 v acc.length (acc.map .string) ∧ acc.length ≤ k ∧ Hid (∀ x ∈ acc, x.size ≤ s.size) ∧
    Hid (∀ c ∈ (s.data.toList.drop k).take (m - k), c ≠ 10) ∧ Hid (getF (listsOf acc) (linesF (s.data.toList.drop k)) = getF [] (linesF s.data.toList)) ∧ Hid (m = s.size → k = s.size) ∧ Below w.heap.size w wr)
  case atStart => exact ⟨0, 0, [], by omega, by omega, by omega, rfl, rfl, World.ownsRow_nil _ _ _ _, by simp, Lib.hid (by simp), Lib.hid (by simp), Lib.hid rfl, Lib.hid (fun h => h), Below.refl _ _⟩
  case round =>
    obtain ⟨m, k, acc, hkm, hm, hg, rfl, rfl, hrow, hal, HSZ, HSEG, HG, HEND, hb⟩ := hrel
    have Hg := Lib.hid hg
    clear hg
    have hz := hb.size
    by_cases hlt : m < s.size
    · have hsn := drop_of s m hlt
      obtain ⟨c, hc⟩ : ∃ c, s[m] = c := ⟨_, rfl⟩
      rw [hc] at hsn
      have HN := Lib.hid hsn
      clear hsn
      have hw1 : IntKind.i64.wrap ((m : Int) + 1) = (m : Int) + 1 := by rw [IntKind.wrap_i64]; omega
      have hw2 : (0 : Int) ≤ (m : Int) + 1 := by omega
      have hw3 : ((m : Int) + 1).toNat = m + 1 := by omega
      have hw4 : (k : Int) ≤ (m : Int) + 1 := by omega
      have hw5 : (m : Int) + 1 ≤ (s.size : Int) := by omega
      have hw6 : (k : Int) ≤ (m : Int) := by omega
      have hw7 : (m : Int) ≤ (s.size : Int) := by omega
      obtain ⟨seg, hseg⟩ : ∃ seg, (s.data.toList.drop k).take (m - k) = seg := ⟨_, rfl⟩
      rw [hseg] at HSEG
      have hsl : seg.length ≤ s.size := by
        rw [← hseg, List.length_take, List.length_drop]
        have : s.data.toList.length = s.size := Array.length_toList
        omega
      have hex : s.extract k m = txt seg := by rw [extract_txt, hseg]
      have hex1 : s.extract k (m + 1) = txt (seg ++ [c]) := by rw [extract_txt, seg_snoc _ _ _ c hkm HN.out, hseg]
      have hdk : s.data.toList.drop k = seg ++ c :: s.data.toList.drop (m + 1) := by rw [← hseg]; exact seg_split _ _ _ _ hkm HN.out
      have HDK := Lib.hid hdk
      have HEX := Lib.hid hex
      have HEX1 := Lib.hid hex1
      have HSG := Lib.hid hseg
      have hss : seg.length ≤ 100000 := by omega
      have hxs : (s.extract k m).size ≤ 100000 := by rw [hex, txt_size]; exact hss
      clear hdk hex hex1 hseg
      by_cases h1 : c = 10
      · subst h1
        go_wp2_with fail
        refine (rentry_any (s.extract k m) _ hxs).mono ?_
        rintro e w1 ⟨rfl, rfl⟩
        rw [HEX.out, txt_list]
        have hrl := rent_len seg
        have hts : (txt (rentF seg)).size ≤ 100000 := by rw [txt_size]; omega
        have hgs := get_step (listsOf acc) seg (s.data.toList.drop (m + 1)) HSEG.out
        rw [← HDK.out, HG.out, lists_len] at hgs
        have HGS := Lib.hid hgs
        clear hgs
        by_cases hok : okF seg = true
        · have hq : ((txt (lineF (rentF seg))).toList == (s.extract k (m + 1)).toList) = true := by
            rw [cmp_line _ _ _ HEX1.out]; exact decide_eq_true ((ok_iff seg).1 hok)
          have HOK := Lib.hid hok
          clear hok
          go_wp2_with fail
          go_quiet ((go_at_call 22; exact Calls.quiet_of_same (line_at _ _ (by omega))))
          go_wp2_with (at_builtin; refine wpList_append_own _ rfl _ _ 22 rfl w.heap.size 9 i0 _ 1 16 Try.underlying22 hi0 hz0 hz1 hz2 rfl (by decide) _ _ _ rfl (World.ownsRow.alloc (w := wr.drewN nq) hrow _) ⟨_, 0, none⟩ 1 1 [.string (txt (rentF seg))] rfl rfl ?_ ?_ (by unfold maxLen; omega) (by omega) ?_ ?_)
          case refine_1 => exact cell_one_new (wr.drewN nq) _ _
          case refine_2 => intro u hu; simp at hu; subst hu; rfl
          case refine_3 => have := hb.size; simp; omega
          intro v' w1 hown' hgrow _
          have R1 : w1.ownsRow w.heap.size 9 1 v' (acc ++ [txt (rentF seg)]).length ((acc ++ [txt (rentF seg)]).map .string) := by
            rw [List.length_append, List.map_append]; exact hown'
          have R2 := ((below_drewN hb nq).alloc (below_drewN hb nq).size (.cells #[.string (txt (rentF seg))] 9)).grown hgrow (by have := hb.size; simp; omega) (fun k hk => (hrow.lt k hk).1)
          clear hown' hgrow
          go_wp2_with fail
          go_roundg (s.size - (m + 1))
          case measure => have := Hg.out; omega
          case rel =>
            refine ⟨m + 1, m + 1, acc ++ [txt (rentF seg)], by omega, by omega, rfl, by go_num, by go_num, R1, by simp; omega, Lib.hid ?_, Lib.hid (by simp), Lib.hid ?_, Lib.hid (fun h => h), R2⟩
            · intro y hy
              rcases List.mem_append.1 hy with h | h
              · exact HSZ.out y h
              · simp at h; rw [h, txt_size]; omega
            · rw [HGS.out, if_pos HOK.out, lists_snoc]
        · have hq : ((txt (lineF (rentF seg))).toList == (s.extract k (m + 1)).toList) = false := by
            rw [cmp_line _ _ _ HEX1.out]; exact decide_eq_false (fun e => hok ((ok_iff seg).2 e))
          have hgr := HGS.out
          rw [if_neg hok] at hgr
          have HGR := Lib.hid hgr
          clear hok hgr
          obtain ⟨A, cc, rfl, _, _⟩ := strsV_own hrow
          clear hrow
          go_wp2_with fail
          go_quiet ((go_at_call 22; exact Calls.quiet_of_same (line_at _ _ (by omega))))
          go_wp2_with fail
          go_ret3
          unfold GotV
          rw [HGR.out]
          exact ⟨none, 0, [], rfl, fun h => absurd h (by simp), rfl, by simp, by simp, below_drewN hb _⟩
      · have e1 : ((c.toNat : Int) == 10) = false := byte_eq (d := 10) h1
        have e2 : ((c.toNat : Int) != 10) = true := by rw [bne, e1]; rfl
        have H1 := Lib.hid h1
        clear h1
        by_cases h2 : m + 1 < s.size
        · have g2 : ((m : Int) + 1 < (s.size : Int)) := by omega
          have g3 : decide ((m : Int) + 1 < (s.size : Int)) = true := by simpa using g2
          go_wp2_with fail
          go_roundg (s.size - (m + 1))
          case measure => have := Hg.out; omega
          case rel =>
            refine ⟨m + 1, k, acc, by omega, by omega, rfl, rfl, by go_num, hrow, hal, HSZ, Lib.hid ?_, HG, Lib.hid (by omega), hb⟩
            rw [seg_snoc _ _ _ c hkm HN.out, HSG.out]
            intro y hy
            rcases List.mem_append.1 hy with h | h
            · exact HSEG.out y h
            · simp at h; rw [h]; exact H1.out
        · have g2 : ¬ ((m : Int) + 1 < (s.size : Int)) := by omega
          have g3 : decide ((m : Int) + 1 < (s.size : Int)) = false := by simpa using g2
          have hnil : s.data.toList.drop (m + 1) = [] := List.drop_eq_nil_of_le (by simp; change s.size ≤ _; omega)
          have hgr : getF [] (linesF s.data.toList) = ([], acc.length + 1, 10) := by
            rw [← HG.out, HDK.out, hnil, get_rest _ _ (by simp), lists_len]
            intro y hy
            rcases List.mem_append.1 hy with h | h
            · exact HSEG.out y h
            · simp at h; rw [h]; exact H1.out
          have HGR := Lib.hid hgr
          clear hgr hnil
          obtain ⟨A, cc, rfl, _, _⟩ := strsV_own hrow
          clear hrow
          go_wp2_with fail
          refine (rentry_any (s.extract k m) _ hxs).mono ?_
          rintro e w1 ⟨rfl, rfl⟩
          go_wp2_with fail
          go_quiet (fail)
          go_wp2_with fail
          go_ret3
          unfold GotV
          rw [HGR.out]
          exact ⟨none, 0, [], rfl, fun h => absurd h (by simp), rfl, by simp, by simp, below_drewN hb _⟩
    · obtain rfl : m = s.size := by omega
      obtain rfl : k = s.size := HEND.out rfl
      have hgr : getF [] (linesF s.data.toList) = (listsOf acc, 0, 0) := by
        rw [← HG.out, List.drop_eq_nil_of_le (by simp)]
        rfl
      have HGR := Lib.hid hgr
      clear hgr
      obtain ⟨A, c, rfl, _, hA⟩ := strsV_own hrow
      go_wp2_with fail
      go_ret3
      unfold GotV
      rw [HGR.out]
      exact ⟨A, c, acc, rfl, hA, rfl, hal, HSZ.out, hb⟩
end Go.Proofs.Ytdbcmhcflndggaa
