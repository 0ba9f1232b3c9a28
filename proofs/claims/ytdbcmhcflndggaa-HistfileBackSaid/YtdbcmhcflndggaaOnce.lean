/- The contracts of the two Onces. -/
import Derived.Test.YtdbcmhcflndggaaBehind
import Derived.Maps.OwnOps
import Derived.Maps.Views
namespace Go.Proofs.Ytdbcmhcflndggaa
open Go.RowKit Go.WideMaps Go.Maps

theorem str_info : (Try.prog.info? 9).map (fun i => (i.zero, i.size, i.bytes)) = some (some (.string ⟨#[]⟩), 1, 16) := by kernel_rfl
theorem law9 : Keyed Try.prog 9 := string_keyed Try.underlying9
theorem zero3 (w : World) : (zeroValue 3).run Try.prog w = .ok (.int .i64 0) w := by kernel_rfl

/-- What the map reads as behind k rounds: each text's last place. -/
def Lm (l : List ByteArray) : Nat → DataW Unit
  | 0 => .map []
  | k + 1 => match l[k]? with
    | some x => (Lm l k).put (.string x.data.toList) (.lit (.int .i64 k))
    | none => Lm l k
def lastOf (l : List ByteArray) : Nat → ByteArray → Option Nat
  | 0, _ => none
  | k + 1, x => if l[k]? = some x then some k else lastOf l k x

theorem put_map {D : DataW Unit} (h : ∃ es, D = .map es) (k : Lit) (d : DataW Unit) : ∃ es, D.put k d = .map es := by
  obtain ⟨es, rfl⟩ := h
  exact ⟨_, rfl⟩
theorem Lm_map (l : List ByteArray) : ∀ k, ∃ es, Lm l k = .map es
  | 0 => ⟨_, rfl⟩
  | k + 1 => by
    rw [Lm]
    split
    · exact put_map (Lm_map l k) _ _
    · exact Lm_map l k
theorem key_inj {x y : ByteArray} (h : Lit.string x.data.toList = Lit.string y.data.toList) : x = y := by
  injection h with h
  exact Go.WideShapes.bytes_inj h
theorem Lm_at (l : List ByteArray) (x : ByteArray) (z : DataW Unit) : ∀ k, (Lm l k).atKey (.string x.data.toList) z = match lastOf l k x with
    | some i => .lit (.int .i64 i)
    | none => z
  | 0 => rfl
  | k + 1 => by
    have ih := Lm_at l x z k
    rw [Lm, lastOf]
    rcases h : l[k]? with _ | y
    · simp only
      rw [if_neg (by simp)]
      exact ih
    · simp only
      by_cases he : y = x
      · subst he
        rw [if_pos rfl]
        exact atKey_put_same (k := .string y.data.toList) (Lm_map l k) trivial _ _
      · rw [if_neg (by simpa using he), atKey_put_other (fun e => he (key_inj e).symm)]
        exact ih
theorem last_iff (l : List ByteArray) (x : ByteArray) (i : Nat) : ∀ k, lastOf l k x = some i ↔ (i < k ∧ l[i]? = some x ∧ ∀ j, i < j → j < k → l[j]? ≠ some x)
  | 0 => by simp [lastOf]
  | k + 1 => by
    have ih := last_iff l x i k
    rw [lastOf]
    by_cases h : l[k]? = some x
    · rw [if_pos h]
      constructor
      · intro e
        injection e with e
        subst e
        exact ⟨by omega, h, fun j h1 h2 => by omega⟩
      · rintro ⟨h1, h2, h3⟩
        rcases Nat.lt_or_ge i k with h4 | h4
        · exact absurd h (h3 k h4 (by omega))
        · rw [show i = k by omega]
    · rw [if_neg h, ih]
      constructor
      · rintro ⟨h1, h2, h3⟩
        refine ⟨by omega, h2, fun j h4 h5 => ?_⟩
        rcases Nat.lt_or_ge j k with h6 | h6
        · exact h3 j h4 h6
        · rw [show j = k by omega]; exact h
      · rintro ⟨h1, h2, h3⟩
        rcases Nat.lt_or_ge i k with h4 | h4
        · exact ⟨h4, h2, fun j h5 h6 => h3 j h5 (by omega)⟩
        · rw [show i = k by omega] at h2
          exact absurd h2 h
theorem mem_drop_iff {l : List ByteArray} {x : ByteArray} {i : Nat} : x ∈ l.drop (i + 1) ↔ ∃ j, i < j ∧ l[j]? = some x := by
  rw [List.mem_iff_getElem?]
  constructor
  · rintro ⟨j, hj⟩
    rw [List.getElem?_drop] at hj
    exact ⟨i + 1 + j, by omega, hj⟩
  · rintro ⟨j, h1, h2⟩
    refine ⟨j - (i + 1), ?_⟩
    rw [List.getElem?_drop, show i + 1 + (j - (i + 1)) = j by omega]
    exact h2
/-- The place that is looked up is this one just if the text does not stand behind it. -/
theorem last_here {l : List ByteArray} {x : ByteArray} {i : Nat} {c : Int} (hx : l[i]? = some x) (h : (Lm l l.length).atKey (.string x.data.toList) (.lit (.int .i64 0)) = .lit (.int .i64 c)) :
    (c == (i : Int)) = !decide (x ∈ l.drop (i + 1)) := by
  rw [Lm_at] at h
  have hi : i < l.length := (List.getElem?_eq_some_iff.1 hx).1
  rcases hl : lastOf l l.length x with _ | j
  · exfalso
    -- some place is the last one
    have : ∀ k, lastOf l k x = none → ∀ j, j < k → l[j]? ≠ some x := by
      intro k
      induction k with
      | zero => intro _ j hj; omega
      | succ k ih =>
        intro hk j hj
        rw [lastOf] at hk
        split at hk
        · cases hk
        · rename_i hne
          rcases Nat.lt_or_ge j k with h4 | h4
          · exact ih hk j h4
          · rw [show j = k by omega]; exact hne
    exact this _ hl i hi hx
  · rw [hl] at h
    simp only at h
    injection h with h
    injection h with _ h
    obtain ⟨h1, h2, h3⟩ := (last_iff l x j l.length).1 hl
    by_cases hm : x ∈ l.drop (i + 1)
    · rw [decide_eq_true hm]
      obtain ⟨j', h4, h5⟩ := mem_drop_iff.1 hm
      have h6 : j' < l.length := (List.getElem?_eq_some_iff.1 h5).1
      have h7 : j' ≤ j := by
        rcases Nat.lt_or_ge j j' with h8 | h8
        · exact absurd h5 (h3 j' h8 h6)
        · exact h8
      simp only [Bool.not_true, beq_eq_false_iff_ne]
      omega
    · rw [decide_eq_false hm]
      have : j = i := by
        rcases Nat.lt_trichotomy j i with h4 | h4 | h4
        · exact absurd hx (h3 i h4 hi)
        · exact h4
        · exact absurd (mem_drop_iff.2 ⟨j, h4, h2⟩) hm
      subst this
      simp only [Bool.not_false, beq_iff_eq]
      exact h.symm

theorem strsV_own {w : World} {base : Nat} {v : Value} {l : List ByteArray} (h : w.ownsRow base 9 1 v l.length (l.map .string)) : StrsV w v l := by
  rcases h.2 with ⟨rfl, h0⟩ | ⟨g, cap, cur, rfl, h1, h2, h3, h4, h5, h6⟩
  · have : l = [] := List.eq_nil_of_length_eq_zero h0
    subst this
    exact ⟨none, 0, rfl, Nat.le_refl _, fun h => absurd h (by simp)⟩
  · refine ⟨some ⟨g, 0, none⟩, cap, rfl, h3, fun _ => ⟨g, 0, rfl, lt_of h2, fun i x hx => ?_⟩⟩
    have hu : (l.map Value.string)[i]? = some (.string x) := by rw [List.getElem?_map, hx]; rfl
    have := h.cells (g := g) rfl i _ hu
    have ha : (⟨g, 0, none⟩ : Addr).add i = ⟨g, 0 + i, none⟩ := by unfold Addr.add; split <;> simp_all
    rw [ha] at this
    exact this

set_option maxHeartbeats 4000000 in
set_option maxRecDepth 100000 in
theorem once_any (A : Option Addr) (l : List ByteArray) (c : Nat) (w : World) (hm : l.length ≤ 10000) (hsz : ∀ x ∈ l, x.size ≤ 1000) (hA : Strs w w.heap.size A l) :
    Calls Try.prog 12 #[.slice A l.length c] w fun e w' => ∃ v, e = .returned v ∧ w'.ownsRow (w.heap.size + 1) 9 1 v (onceF l).length ((onceF l).map .string) ∧ Below w.heap.size w w' := by
  obtain ⟨i0, hi0, hz0, hz1, hz2⟩ := info_parts str_info
  have hmm := @run_makeMap Try.prog
  go_enter Try.func12, Try.ntmps12
  go_wp2_with fail
  go_loopg [12] l.length (fun g i wr => ∃ m : Nat, m ≤ l.length ∧ g = l.length - m ∧ i = .int .i64 m ∧ wr.ownsMap Try.prog 9 (plainElem (H := Unit) Try.prog 3) w.heap.size m (Lm l m) ∧ Below w.heap.size w wr)
  case atStart => exact ⟨0, by omega, by omega, rfl, World.ownsMap_made _ _ _ _, (Below.refl _ _).alloc (Nat.le_refl _) _⟩
  case round =>
    obtain ⟨m, hm0, hg, rfl, hown, hb⟩ := hrel
    have Hg := Lib.hid hg
    clear hg
    by_cases hlt : m < l.length
    · obtain ⟨b, off, rfl, hbs, hcells⟩ := hA (by omega)
      obtain ⟨x, hx⟩ : ∃ x, l[m]? = some x := ⟨l[m], List.getElem?_eq_getElem hlt⟩
      have c0 := (hb.cell (p := ⟨b, off + m, none⟩) hbs).trans (hcells m x hx)
      have hkey : keyOf Try.prog 9 (.string x) = some (.string x.data.toList) := keyOf_string_mk Try.underlying9 (by have := hsz x (List.mem_of_getElem? hx); unfold maxLen; omega)
      have HX := Lib.hid hx
      clear hx hcells
      go_wp2_with (at_mapUpdate; refine wpList_mapUpdate_own _ rfl _ _ _ 45 rfl 9 3 law9 Try.underlying45 _ w.heap.size m _ rfl hown (by unfold maxLen; omega) _ _ _ rfl rfl hkey _ [] (plainElem_int Try.underlying3 (WalkArith.wf_i64 (by omega))) ?_)
      intro w1 hown1 hgrow1
      have R2 := hb.grown hgrow1 hb.size (fun j hj => by cases hj; exact Nat.le_refl _)
      have R1 : w1.ownsMap Try.prog 9 (plainElem (H := Unit) Try.prog 3) w.heap.size (m + 1) (Lm l (m + 1)) := by rw [Lm, HX.out]; exact hown1
      clear hown1 hgrow1 hown
      go_wp2_with fail
      go_roundg (l.length - (m + 1))
      case measure => have := Hg.out; omega
      case rel => exact ⟨m + 1, by omega, rfl, by go_num, R1, R2⟩
    · obtain rfl : m = l.length := by omega
      clear Hg
      go_wp2_with fail
      go_loopg [23, 6] l.length (fun g i v wx => ∃ (m : Nat) (out : List ByteArray), m ≤ l.length ∧ g = l.length - m ∧ i = .int .i64 m ∧ wx.ownsRow (w.heap.size + 1) 9 1 v out.length (out.map .string) ∧ out.length ≤ m ∧ out ++ onceF (l.drop m) = onceF l ∧
        wx.ownsMap Try.prog 9 (plainElem (H := Unit) Try.prog 3) w.heap.size l.length (Lm l l.length) ∧ Below w.heap.size w wx)
      case atStart => exact ⟨0, [], by omega, by omega, rfl, World.ownsRow_nil _ _ _ _, by simp, rfl, hown, hb⟩
      case round =>
        clear hown hb
        obtain ⟨m, out, hm0, hg, rfl, hrow, hol, hout, hown, hb⟩ := hrel
        have Hg := Lib.hid hg
        have HOUT := Lib.hid hout
        clear hg hout
        by_cases hlt : m < l.length
        · obtain ⟨b, off, rfl, hbs, hcells⟩ := hA (by omega)
          obtain ⟨x, hx⟩ : ∃ x, l[m]? = some x := ⟨l[m], List.getElem?_eq_getElem hlt⟩
          have c0 := (hb.cell (p := ⟨b, off + m, none⟩) hbs).trans (hcells m x hx)
          have hkey : keyOf Try.prog 9 (.string x) = some (.string x.data.toList) := keyOf_string_mk Try.underlying9 (by have := hsz x (List.mem_of_getElem? hx); unfold maxLen; omega)
          obtain ⟨c1, hrun, hat, _⟩ := hown.lookup_int law9 Try.underlying45 Try.underlying3 (zero3 _) hkey
          have hh := last_here hx hat
          have HD := Lib.hid (drop_once hx)
          clear hat hkey hx hcells
          by_cases hmem : x ∈ l.drop (m + 1)
          · rw [decide_eq_true hmem] at hh
            have HM := Lib.hid hmem
            clear hmem
            simp only [Bool.not_true] at hh
            go_wp2_with fail
            go_roundg (l.length - (m + 1))
            case measure => have := Hg.out; omega
            case rel =>
              refine ⟨m + 1, out, by omega, rfl, by go_num, hrow, by omega, ?_, hown, hb⟩
              rw [← HOUT.out, HD.out, if_pos HM.out]
          · rw [decide_eq_false hmem] at hh
            have HM := Lib.hid hmem
            clear hmem
            simp only [Bool.not_false] at hh
            go_wp2_with (at_builtin; refine wpList_append_own _ rfl _ _ 22 rfl (w.heap.size + 1) 9 i0 _ 1 16 Try.underlying22 hi0 hz0 hz1 hz2 rfl (by decide) _ _ _ rfl (hrow.alloc _) ⟨_, 0, none⟩ 1 1 [.string x] rfl rfl ?_ ?_ (by unfold maxLen; omega) (by omega) ?_ ?_)
            case refine_1 => exact cell_one_new _ _ _
            case refine_2 => intro u hu; simp at hu; subst hu; rfl
            case refine_3 => have := hown.lt; simp; omega
            intro v' w1 hown' hgrow _
            have R1 : w1.ownsRow (w.heap.size + 1) 9 1 v' (out ++ [x]).length ((out ++ [x]).map .string) := by
              rw [List.length_append, List.map_append]; exact hown'
            have R2 := (hb.alloc hb.size (.cells #[.string x] 9)).grown hgrow (by have := hb.size; simp; omega) (fun k hk => by have := (hrow.lt k hk).1; omega)
            have R3 := (hown.alloc (.cells #[.string x] 9)).kept hgrow (fun e => by have := (hrow.lt _ e.symm).1; omega)
            clear hown' hgrow
            go_wp2_with fail
            go_roundg (l.length - (m + 1))
            case measure => have := Hg.out; omega
            case rel =>
              refine ⟨m + 1, out ++ [x], by omega, rfl, by go_num, R1, by simp; omega, ?_, R3, R2⟩
              rw [← HOUT.out, HD.out, if_neg HM.out]; simp
        · obtain rfl : m = l.length := by omega
          have ho : out = onceF l := by
            have := HOUT.out
            rw [List.drop_length] at this
            simpa [onceF] using this
          subst ho
          go_wp2_with fail
          go_ret
          exact ⟨_, rfl, hrow, hb⟩

theorem any_drop {l : List ByteArray} {k : Nat} {y x : ByteArray} (hy : l[k]? = some y) : (x ∈ l.drop k) = (y = x ∨ x ∈ l.drop (k + 1)) := by
  have hk := (List.getElem?_eq_some_iff.1 hy).1
  have he := (List.getElem?_eq_some_iff.1 hy).2
  rw [List.drop_eq_getElem_cons hk, List.mem_cons, he]
  apply propext
  constructor
  · rintro (h | h)
    · exact .inl h.symm
    · exact .inr h
  · rintro (h | h)
    · exact .inl h.symm
    · exact .inr h

set_option maxHeartbeats 4000000 in
set_option maxRecDepth 100000 in
theorem ronce_any (A : Option Addr) (l : List ByteArray) (c : Nat) (w : World) (hm : l.length ≤ 10000) (hA : Strs w w.heap.size A l) :
    Calls Try.prog 13 #[.slice A l.length c] w fun e w' => ∃ v, e = .returned v ∧ w'.ownsRow w.heap.size 9 1 v (onceF l).length ((onceF l).map .string) ∧ Below w.heap.size w w' := by
  obtain ⟨i0, hi0, hz0, hz1, hz2⟩ := info_parts str_info
  go_enter Try.func13, Try.ntmps13
  go_wp2_with fail
  go_loopg [4, 3] l.length (fun g i v wx => ∃ (m : Nat) (out : List ByteArray), m ≤ l.length ∧ g = l.length - m ∧ i = .int .i64 m ∧ wx.ownsRow w.heap.size 9 1 v out.length (out.map .string) ∧ out.length ≤ m ∧ out ++ onceF (l.drop m) = onceF l ∧ Below w.heap.size w wx)
  case atStart => exact ⟨0, [], by omega, by omega, rfl, World.ownsRow_nil _ _ _ _, by simp, rfl, Below.refl _ _⟩
  case round =>
    obtain ⟨m, out, hm0, hg, rfl, hrow, hol, hout, hb⟩ := hrel
    have Hg := Lib.hid hg
    have HOUT := Lib.hid hout
    clear hg hout
    by_cases hlt : m < l.length
    · obtain ⟨b, off, rfl, hbs, hcells⟩ := hA (by omega)
      obtain ⟨x, hx⟩ : ∃ x, l[m]? = some x := ⟨l[m], List.getElem?_eq_getElem hlt⟩
      have HC := Lib.hid hcells
      have HX := Lib.hid hx
      clear hx hcells
      go_wp2_with fail
      go_loopg [6, 5] (l.length - (m + 1)) (fun g k again wy => ∃ j : Nat, m + 1 ≤ j ∧ j ≤ l.length ∧ g = l.length - j ∧ k = .int .i64 j ∧ again = .bool (decide (x ∈ (l.take j).drop (m + 1))) ∧ ∃ q, wy = wr.drewN q)
      case atStart => exact ⟨m + 1, by omega, by omega, rfl, by go_num, by rw [List.drop_eq_nil_of_le (by simp; omega)]; rfl, 0, rfl⟩
      case round =>
        obtain ⟨j, hj1, hj2, hg2, rfl, rfl, q, rfl⟩ := hrel
        have Hg2 := Lib.hid hg2
        clear hg2
        by_cases hltj : j < l.length
        · obtain ⟨y, hy⟩ : ∃ y, l[j]? = some y := ⟨l[j], List.getElem?_eq_getElem hltj⟩
          have c0 := (hb.cell (p := ⟨b, off + m, none⟩) hbs).trans (HC.out m x HX.out)
          have c1 := (hb.cell (p := ⟨b, off + j, none⟩) hbs).trans (HC.out j y hy)
          have HY := Lib.hid hy
          have hst : decide (x ∈ (l.take (j + 1)).drop (m + 1)) = (decide (x ∈ (l.take j).drop (m + 1)) || (y.toList == x.toList)) := by
            rw [take_snoc_of hy, List.drop_append_of_le_length (by simp; omega), str_eq]
            by_cases h1 : x ∈ (l.take j).drop (m + 1)
            · simp [h1]
            · simp [h1, eq_comm]
          have HST := Lib.hid hst
          clear hst hy
          by_cases h1 : x ∈ (l.take j).drop (m + 1)
          · have hd : decide (x ∈ (l.take j).drop (m + 1)) = true := decide_eq_true h1
            rw [hd] at HST ⊢
            clear h1 hd
            go_wp2_with fail
            go_quiet (fail)
            go_wp2_with fail
            go_roundg (l.length - (j + 1))
            case measure => have := Hg2.out; omega
            case rel => exact ⟨j + 1, by omega, by omega, rfl, by go_num, by rw [HST.out]; rfl, _, rfl⟩
          · have hd : decide (x ∈ (l.take j).drop (m + 1)) = false := decide_eq_false h1
            rw [hd] at HST ⊢
            clear h1 hd
            go_wp2_with fail
            go_quiet (fail)
            go_wp2_with fail
            go_roundg (l.length - (j + 1))
            case measure => have := Hg2.out; omega
            case rel => exact ⟨j + 1, by omega, by omega, rfl, by go_num, by rw [HST.out]; rfl, _, rfl⟩
        · obtain rfl : j = l.length := by omega
          rw [List.take_length]
          have c0 := (hb.cell (p := ⟨b, off + m, none⟩) hbs).trans (HC.out m x HX.out)
          have HD := Lib.hid (drop_once HX.out)
          have hb' := below_drewN hb q
          have hrow' : (wr.drewN q).ownsRow w.heap.size 9 1 u3 out.length (out.map .string) := hrow
          by_cases h1 : x ∈ l.drop (m + 1)
          · have hd : decide (x ∈ l.drop (m + 1)) = true := decide_eq_true h1
            rw [hd]
            have HM := Lib.hid h1
            clear h1 hd
            go_wp2_with fail
            go_roundg (l.length - (m + 1))
            case measure => have := Hg.out; omega
            case rel =>
              refine ⟨m + 1, out, by omega, rfl, by go_num, hrow', by omega, ?_, hb'⟩
              rw [← HOUT.out, HD.out, if_pos HM.out]
          · have hd : decide (x ∈ l.drop (m + 1)) = false := decide_eq_false h1
            rw [hd]
            have HM := Lib.hid h1
            clear h1 hd
            go_wp2_with (at_builtin; refine wpList_append_own _ rfl _ _ 22 rfl w.heap.size 9 i0 _ 1 16 Try.underlying22 hi0 hz0 hz1 hz2 rfl (by decide) _ _ _ rfl (hrow'.alloc _) ⟨_, 0, none⟩ 1 1 [.string x] rfl rfl ?_ ?_ (by unfold maxLen; omega) (by omega) ?_ ?_)
            case refine_1 => exact cell_one_new (wr.drewN q) _ _
            case refine_2 => intro u hu; simp at hu; subst hu; rfl
            case refine_3 => have := hb.size; simp; omega
            intro v' w1 hown' hgrow _
            have R1 : w1.ownsRow w.heap.size 9 1 v' (out ++ [x]).length ((out ++ [x]).map .string) := by
              rw [List.length_append, List.map_append]; exact hown'
            have R2 := (hb'.alloc hb'.size (.cells #[.string x] 9)).grown hgrow (by have := hb.size; simp; omega) (fun k hk => (hrow.lt k hk).1)
            clear hown' hgrow
            go_wp2_with fail
            go_roundg (l.length - (m + 1))
            case measure => have := Hg.out; omega
            case rel =>
              refine ⟨m + 1, out ++ [x], by omega, rfl, by go_num, R1, by simp; omega, ?_, R2⟩
              rw [← HOUT.out, HD.out, if_neg HM.out]; simp
    · obtain rfl : m = l.length := by omega
      have ho : out = onceF l := by
        have := HOUT.out
        rw [List.drop_length] at this
        simpa [onceF] using this
      subst ho
      go_wp2_with fail
      go_ret
      exact ⟨_, rfl, hrow, hb⟩
end Go.Proofs.Ytdbcmhcflndggaa
