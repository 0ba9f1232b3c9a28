/- The contracts of Great, Texts, has, and the two behinds: functions that only read lists. -/
import Derived.Test.YtdbcmhcflndggaaEsc
namespace Go.Proofs.Ytdbcmhcflndggaa
open Go.RowKit

theorem str_eq (a b : ByteArray) : (a.toList == b.toList) = decide (a = b) := by
  rw [← beq_toListBytes]
  by_cases h : a = b
  · rw [decide_eq_true h, beq_iff_eq]; exact h
  · rw [decide_eq_false h, beq_eq_false_iff_ne]; exact h
theorem below_drewN {B : Nat} {a w : World} (h : Below B a w) (n : Nat) : Below B a (w.drewN n) := h.trans ⟨rfl, rfl, rfl, Nat.le_refl _, fun _ _ => rfl⟩

/-- Are lists greater than is gone through? -/
def greatB (l : List ByteArray) (n : Nat) : Bool := l.any (fun x => 200 < x.size) || decide (n < l.length)

theorem Strs.mono {w : World} {B B' : Nat} {A : Option Addr} {l : List ByteArray} (h : Strs w B A l) (hB : B ≤ B') : Strs w B' A l := fun hp => by
  obtain ⟨b, off, e, hb, hc⟩ := h hp
  exact ⟨b, off, e, by omega, hc⟩
theorem Strs.below {w w' : World} {B : Nat} {A : Option Addr} {l : List ByteArray} (h : Strs w B A l) (hb : Below B w w') : Strs w' B A l := fun hp => by
  obtain ⟨b, off, e, hlt, hc⟩ := h hp
  exact ⟨b, off, e, hlt, fun i x hx => (hb.cell (p := ⟨b, off + i, none⟩) hlt).trans (hc i x hx)⟩
theorem Strs.next {w w' : World} {A : Option Addr} {l : List ByteArray} (h : Strs w w.heap.size A l) (hb : Below w.heap.size w w') : Strs w' w'.heap.size A l :=
  (h.below hb).mono hb.size

theorem any_take_snoc {l : List ByteArray} {m : Nat} {x : ByteArray} (hx : l[m]? = some x) (p : ByteArray → Bool) : (l.take (m + 1)).any p = ((l.take m).any p || p x) := by
  rw [take_snoc_of hx, List.any_append]; simp
theorem any_take_true {l : List ByteArray} {m : Nat} {x : ByteArray} (hx : l[m]? = some x) {p : ByteArray → Bool} (hp : p x = true) : l.any p = true :=
  List.any_eq_true.2 ⟨x, List.mem_of_getElem? hx, hp⟩

set_option maxHeartbeats 4000000 in
set_option maxRecDepth 100000 in
theorem great_any (A : Option Addr) (l : List ByteArray) (c n : Nat) (w : World) (hm : l.length ≤ maxLen) (hA : Strs w w.heap.size A l) :
    Calls Try.prog 7 #[.slice A l.length c, .int .i64 n] w fun e w' => e = .returned (.bool (greatB l n)) ∧ w = w' := by
  unfold maxLen at hm
  go_enter Try.func7, Try.ntmps7
  go_wp2_with fail
  go_loopg [5] l.length (fun g i wr => ∃ m : Nat, m ≤ l.length ∧ g = l.length - m ∧ i = .int .i64 m ∧ (l.take m).any (fun x => 200 < x.size) = false ∧ w = wr)
  case atStart => exact ⟨0, by omega, by omega, rfl, rfl, rfl⟩
  case round =>
    obtain ⟨m, hm', hg, rfl, hno, rfl⟩ := hrel
    have Hg := Lib.hid hg
    have HNO := Lib.hid hno
    clear hg hno
    by_cases hlt : m < l.length
    · obtain ⟨b, off, rfl, hbs, hcells⟩ := hA (by omega)
      obtain ⟨x, hx⟩ : ∃ x, l[m]? = some x := ⟨l[m], List.getElem?_eq_getElem hlt⟩
      have c0 := hcells m x hx
      have HX := Lib.hid hx
      clear hx hcells
      by_cases hbig : 200 < x.size
      · have hbig' : (200 : Int) < (x.size : Int) := by omega
        go_wp2_with fail
        go_ret
        refine ⟨?_, rfl⟩
        unfold greatB
        rw [any_take_true HX.out (by simpa using hbig)]
        rfl
      · have hbig' : ¬ (200 : Int) < (x.size : Int) := by omega
        go_wp2_with fail
        go_roundg (l.length - (m + 1))
        case measure => have := Hg.out; omega
        case rel =>
          refine ⟨m + 1, by omega, rfl, by go_num, ?_, rfl⟩
          rw [any_take_snoc HX.out, HNO.out]
          simpa using hbig
    · obtain rfl : m = l.length := by omega
      go_wp2_with fail
      go_ret
      refine ⟨?_, rfl⟩
      have h := HNO.out
      rw [List.take_length] at h
      unfold greatB
      rw [h]
      simp

set_option maxHeartbeats 4000000 in
set_option maxRecDepth 100000 in
theorem has_any (A : Option Addr) (l : List ByteArray) (c : Nat) (s : ByteArray) (w : World) (hm : l.length ≤ 1000) (hA : Strs w w.heap.size A l) :
    Calls Try.prog 16 #[.slice A l.length c, .string s] w fun e w' => e = .returned (.bool (decide (s ∈ l))) ∧ w = w' := by
  go_enter Try.func16, Try.ntmps16
  go_wp2_with fail
  go_loopg [5] l.length (fun g i wr => ∃ m : Nat, m ≤ l.length ∧ g = l.length - m ∧ i = .int .i64 m ∧ s ∉ l.take m ∧ w = wr)
  case atStart => exact ⟨0, by omega, by omega, rfl, by simp, rfl⟩
  case round =>
    obtain ⟨m, hm', hg, rfl, hno, rfl⟩ := hrel
    have Hg := Lib.hid hg
    have HNO := Lib.hid hno
    clear hg hno
    by_cases hlt : m < l.length
    · obtain ⟨b, off, rfl, hbs, hcells⟩ := hA (by omega)
      obtain ⟨x, hx⟩ : ∃ x, l[m]? = some x := ⟨l[m], List.getElem?_eq_getElem hlt⟩
      have c0 := hcells m x hx
      have HX := Lib.hid hx
      clear hx hcells
      by_cases he : s = x
      · have hq : (x.toList == s.toList) = true := by rw [str_eq]; simp [he]
        have HM := Lib.hid (show s ∈ l from he ▸ List.mem_of_getElem? HX.out)
        clear he
        go_wp2_with fail
        go_ret
        refine ⟨?_, rfl⟩
        rw [decide_eq_true HM.out]
        rfl
      · have hq : (x.toList == s.toList) = false := by rw [str_eq]; simpa using Ne.symm he
        have HM := Lib.hid he
        clear he
        go_wp2_with fail
        go_roundg (l.length - (m + 1))
        case measure => have := Hg.out; omega
        case rel =>
          refine ⟨m + 1, by omega, rfl, by go_num, ?_, rfl⟩
          rw [take_snoc_of HX.out, List.mem_append]
          simpa [HNO.out] using HM.out
    · obtain rfl : m = l.length := by omega
      go_wp2_with fail
      go_ret
      refine ⟨?_, rfl⟩
      have h := HNO.out
      rw [List.take_length] at h
      rw [decide_eq_false h]
      rfl

set_option maxHeartbeats 4000000 in
set_option maxRecDepth 100000 in
theorem texts_any (A : Option Addr) (l : List ByteArray) (c : Nat) (A' : Option Addr) (l' : List ByteArray) (c' : Nat) (w : World) (hm : l.length ≤ 1000000) (_ : l'.length ≤ 1000000)
    (hA : Strs w w.heap.size A l) (hA' : Strs w w.heap.size A' l') :
    Calls Try.prog 11 #[.slice A l.length c, .slice A' l'.length c'] w fun e w' => e = .returned (.bool (decide (l = l'))) ∧ Below w.heap.size w w' := by
  by_cases hlen : l.length = l'.length
  case neg =>
    have hne : ((l.length : Int) == (l'.length : Int)) = false := by rw [beq_eq_false_iff_ne]; omega
    have HD := Lib.hid (show decide (l = l') = false from decide_eq_false (fun h => hlen (by rw [h])))
    clear hlen
    go_enter Try.func11, Try.ntmps11
    go_wp2_with fail
    go_ret
    refine ⟨?_, Below.refl _ _⟩
    rw [HD.out]; rfl
  case pos =>
    have heq : ((l.length : Int) == (l'.length : Int)) = true := by rw [beq_iff_eq]; omega
    have HL := Lib.hid hlen
    clear hlen
    go_enter Try.func11, Try.ntmps11
    go_wp2_with fail
    go_loopg [5] l.length (fun g i wr => ∃ m : Nat, m ≤ l.length ∧ g = l.length - m ∧ i = .int .i64 m ∧ l.take m = l'.take m ∧ Below w.heap.size w wr)
    case atStart => exact ⟨0, by omega, by omega, rfl, rfl, Below.refl _ _⟩
    case round =>
      obtain ⟨m, hm', hg, rfl, hsame, hb⟩ := hrel
      have Hg := Lib.hid hg
      have HS := Lib.hid hsame
      clear hg hsame
      by_cases hlt : m < l.length
      · obtain ⟨b, off, rfl, hbs, hcells⟩ := hA (by omega)
        obtain ⟨b', off', rfl, hbs', hcells'⟩ := hA' (by have := HL.out; omega)
        obtain ⟨x, hx⟩ : ∃ x, l[m]? = some x := ⟨l[m], List.getElem?_eq_getElem hlt⟩
        obtain ⟨y, hy⟩ : ∃ y, l'[m]? = some y := ⟨l'[m]'(by have := HL.out; omega), List.getElem?_eq_getElem _⟩
        have c0 := (hb.cell (p := ⟨b, off + m, none⟩) hbs).trans (hcells m x hx)
        have c1 := (hb.cell (p := ⟨b', off' + m, none⟩) hbs').trans (hcells' m y hy)
        have hlt2 : (m : Int) < (l'.length : Int) := by have := HL.out; omega
        have HX := Lib.hid hx
        have HY := Lib.hid hy
        clear hx hcells hy hcells'
        by_cases he : x = y
        · have hq : (x.toList == y.toList) = true := by rw [str_eq]; simp [he]
          have HM := Lib.hid he
          clear he
          go_wp2_with fail
          go_quiet (fail)
          go_wp2_with fail
          go_roundg (l.length - (m + 1))
          case measure => have := Hg.out; omega
          case rel =>
            refine ⟨m + 1, by omega, rfl, by go_num, ?_, below_drewN hb _⟩
            rw [take_snoc_of HX.out, take_snoc_of HY.out, HS.out, HM.out]
        · have hq : (x.toList == y.toList) = false := by rw [str_eq]; simpa using he
          have HM := Lib.hid he
          clear he
          go_wp2_with fail
          go_quiet (fail)
          go_wp2_with fail
          go_ret
          refine ⟨?_, below_drewN hb _⟩
          rw [decide_eq_false]
          · rfl
          · intro h
            have h1 := HX.out
            rw [h, HY.out] at h1
            cases h1
            exact HM.out rfl
      · obtain rfl : m = l.length := by omega
        go_wp2_with fail
        go_ret
        refine ⟨?_, hb⟩
        have h := HS.out
        have h2 := HL.out
        rw [List.take_length, h2, List.take_length] at h
        rw [decide_eq_true h]
        rfl
end Go.Proofs.Ytdbcmhcflndggaa
