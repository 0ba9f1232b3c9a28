/- The contracts of histfile.escape, histfile.Put, and the reference's line and Put. -/
import Derived.Test.YtdbcmhcflndggaaRows
import Derived.Test.YtdbcmhcflndggaaShelf
import Derived.Test.YtdbcmhcflndggaaPlain
import Derived.WalkKit
import Derived.WalkSpells
import Derived.WalkLawsBesides
import Derived.BigCall
import Derived.Deep.OwnRows
import Derived.Deep.LoopGhost
import Derived.Lib.Hide
import Derived.Deep.QuietTactic
import Derived.BigQuiet
import Derived.Deep.RegionHeld3
import Derived.Deep.RegionLaw
import Derived.Deep.AppendLies
namespace Go.Proofs.Ytdbcmhcflndggaa
open Go.RowKit

instance lawful : LawfulBEq ByteArray where
  eq_of_beq := by
    intro a b h
    rw [beq_toListBytes, beq_iff_eq, ByteArray.toList_eq, ByteArray.toList_eq] at h
    exact Go.WideShapes.bytes_inj h
  rfl := by
    intro a
    rw [beq_toListBytes, beq_iff_eq]

/-- A text of bytes. -/
def txt (l : List UInt8) : ByteArray := ⟨l.toArray⟩
theorem txt_list (l : List UInt8) : (txt l).data.toList = l := by simp [txt]
theorem txt_size (l : List UInt8) : (txt l).size = l.length := by simp [txt, ByteArray.size]
theorem txt_of (s : ByteArray) : txt s.data.toList = s := by simp [txt]
theorem txt_append (a b : List UInt8) : txt a ++ txt b = txt (a ++ b) := by
  apply ByteArray.ext
  simp [txt]

theorem take_snoc (s : ByteArray) (k : Nat) (h : k < s.size) : s.data.toList.take (k + 1) = s.data.toList.take k ++ [s[k]] := by
  rw [List.take_succ_eq_append_getElem (by simpa using h)]; rfl
theorem esc_snoc (l : List UInt8) (c : UInt8) : escF (l ++ [c]) = escF l ++ escB c := by simp [escF]

/-- One byte's way. -/
theorem byte_ways (c : UInt8) : (((c.toNat : Int) == 92) = false ∧ ((c.toNat : Int) == 10) = false ∧ ((c.toNat : Int) == 13) = false ∧ escB c = [c]) ∨ c = 92 ∨ c = 10 ∨ c = 13 := by
  by_cases h1 : c = 92
  · exact .inr (.inl h1)
  by_cases h2 : c = 10
  · exact .inr (.inr (.inl h2))
  by_cases h3 : c = 13
  · exact .inr (.inr (.inr h3))
  have key : ∀ d : UInt8, c ≠ d → ((c.toNat : Int) == (d.toNat : Int)) = false := by
    intro d hd
    rw [beq_eq_false_iff_ne]
    intro h
    exact hd (UInt8.toNat_inj.1 (by omega))
  refine .inl ⟨key 92 h1, key 10 h2, key 13 h3, ?_⟩
  unfold escB; rw [if_neg h1, if_neg h2, if_neg h3]

set_option maxHeartbeats 4000000 in
set_option maxRecDepth 100000 in
theorem escape_any (s : ByteArray) (w : World) (hs : s.size ≤ 100000) :
    Calls Try.prog 20 #[.string s] w fun e w' => e = .returned (.string (txt (escF s.data.toList))) ∧ Below w.heap.size w w' := by
  go_enter Try.func20, Try.ntmps20
  go_wp2_with fail
  go_loopg [7] s.size (fun g i wr => ∃ m : Nat, m ≤ s.size ∧ g = s.size - m ∧ i = .int .i64 m ∧ Lib.IsBuilderF 38 5 w.heap.size w.heap.size (Lib.byteCells (escF (s.data.toList.take m))) wr ∧ Below w.heap.size w wr)
  case atStart => exact ⟨0, by omega, by omega, rfl, Lib.IsBuilderF.of (Lib.fresh_isBuilder 38 5 w), (Below.refl _ w).alloc (Nat.le_refl _) _⟩
  case round =>
    obtain ⟨m, hm, hg, rfl, hB, hb⟩ := hrel
    have Hg := Lib.hid hg
    clear hg
    have hz := hb.size
    have hl : (escF (s.data.toList.take m)).length ≤ 2 * m := Nat.le_trans (esc_len _) (by have := List.length_take_le m s.data.toList; omega)
    by_cases hlt : m < s.size
    · have hsn := take_snoc s m hlt
      obtain ⟨c, hc⟩ : ∃ c, s[m] = c := ⟨_, rfl⟩
      have HE := Lib.hid (show escF (s.data.toList.take (m + 1)) = escF (s.data.toList.take m) ++ escB c by rw [hsn, esc_snoc, hc])
      clear hsn
      rcases byte_ways c with ⟨e1, e2, e3, e4⟩ | rfl | rfl | rfl
      · have HC := Lib.hid e4
        clear e4
        go_wp2_with fail
        refine (Try.Builder_WriteByte_k w.heap.size w.heap.size _ _ _ hB (by rw [Lib.byteCells_length]; omega) hz).mono ?_
        rintro e W1 ⟨rfl, h1, b1, k1⟩
        go_wp2_with fail
        go_roundg (s.size - (m + 1))
        case measure => have := Hg.out; omega
        case rel =>
          refine ⟨m + 1, by omega, rfl, by go_num, ?_, hb.trans b1⟩
          rw [HE.out, HC.out, Lib.byteCells_append]
          exact Or.inr h1
      all_goals
        go_wp2_with fail
        refine (Try.Builder_WriteString_k w.heap.size w.heap.size _ _ _ hB (by rw [Lib.byteCells_length]; change _ + 2 ≤ _; omega) hz).mono ?_
        rintro e W1 ⟨rfl, h1, b1, k1⟩
        go_wp2_with fail
        go_roundg (s.size - (m + 1))
        case measure => have := Hg.out; omega
        case rel =>
          refine ⟨m + 1, by omega, rfl, by go_num, ?_, hb.trans b1⟩
          rw [HE.out, Lib.byteCells_append]
          exact Or.inr h1
    · obtain rfl : m = s.size := by omega
      go_wp2_with fail
      refine (Try.Builder_String_any_k w.heap.size w.heap.size _ _ hB hz).mono ?_
      rintro e W1 ⟨rfl, _, b1, _⟩
      go_wp2_with fail
      go_ret
      refine ⟨?_, hb.trans b1⟩
      rw [List.take_of_length_le (by simp)]
      rfl

theorem lt_of {w : World} {g : Nat} {o : Obj} (h : w.heap[g]? = some o) : g < w.heap.size := (Array.getElem?_eq_some_iff.1 h).1
theorem builderAt_next {T e : TypeId} {B b : Nat} {p : Value} {bs : List Value} {w w1 : World} (h : Lib.BuilderAtF T e B b p bs w) (hb : Below w.heap.size w w1) : Lib.BuilderAtF T e B b p bs w1 := by
  obtain ⟨hB, v, hbk, ⟨hl, hown⟩, hne⟩ := h
  refine ⟨hB, v, (hb.block b (lt_of hbk)).trans hbk, ⟨hl, ?_⟩, hne⟩
  rcases hown with h0 | ⟨g, cap, cur, fz, e1, e2, e3, e4⟩
  · exact .inl h0
  · exact .inr ⟨g, cap, cur, fz, e1, e2, (hb.block g (lt_of e3)).trans e3, e4⟩
theorem builder_next {T e : TypeId} {B b : Nat} {bs : List Value} {w w1 : World} (h : Lib.IsBuilderF T e B b bs w) (hb : Below w.heap.size w w1) : Lib.IsBuilderF T e B b bs w1 :=
  h.elim (fun x => .inl (builderAt_next x hb)) (fun x => .inr (builderAt_next x hb))

theorem line_txt (l : List UInt8) : txt (escF l) ++ ⟨#[10]⟩ = txt (lineF l) := txt_append (escF l) [10]
theorem cells_txt (l : List UInt8) : Lib.strCells (txt l) = Lib.byteCells l := by
  simp [Lib.strCells, Lib.byteCells, txt]

/-- A slice of texts: what it holds, in plain words. -/
def Strs (w : World) (B : Nat) (A : Option Addr) (l : List ByteArray) : Prop :=
  0 < l.length → ∃ b off, A = some ⟨b, off, none⟩ ∧ b < B ∧ ∀ (i : Nat) (x : ByteArray), l[i]? = some x → w.cell? ⟨b, off + i, none⟩ = some (.string x)
def listsOf (l : List ByteArray) : List (List UInt8) := l.map (·.data.toList)

theorem take_snoc_of {α : Type} {l : List α} {m : Nat} {x : α} (hx : l[m]? = some x) : l.take (m + 1) = l.take m ++ [x] := by
  rw [List.take_add_one, hx, Option.toList_some]
theorem put_snoc {l : List ByteArray} {m : Nat} {x : ByteArray} (hx : l[m]? = some x) : putF (listsOf (l.take (m + 1))) = putF (listsOf (l.take m)) ++ lineF x.data.toList := by
  rw [take_snoc_of hx]; simp [listsOf, putF]
theorem put_len (K : Nat) : ∀ (l : List ByteArray), (∀ x ∈ l, x.size ≤ K) → (putF (listsOf l)).length ≤ l.length * (2 * K + 1)
  | [], _ => by simp [putF, listsOf]
  | x :: l, h => by
    have ih := put_len K l (fun y hy => h y (List.mem_cons_of_mem _ hy))
    have hx := h x List.mem_cons_self
    have he := esc_len x.data.toList
    have e : (putF (listsOf (x :: l))) = lineF x.data.toList ++ putF (listsOf l) := by simp [putF, listsOf]
    have e2 : x.data.toList.length = x.size := Array.length_toList
    rw [e, List.length_append, List.length_cons, Nat.succ_mul]
    have : (lineF x.data.toList).length ≤ 2 * K + 1 := by unfold lineF; rw [List.length_append]; simp only [List.length_singleton]; omega
    omega

set_option maxHeartbeats 4000000 in
set_option maxRecDepth 100000 in
theorem put_any (A : Option Addr) (l : List ByteArray) (c : Nat) (w : World) (hn : l.length ≤ 1000) (hs : ∀ x ∈ l, x.size ≤ 1000) (hA : Strs w w.heap.size A l) :
    Calls Try.prog 9 #[.slice A l.length c] w fun e w' => e = .returned (.string (txt (putF (listsOf l)))) ∧ Below w.heap.size w w' := by
  go_enter Try.func9, Try.ntmps9
  go_wp2_with fail
  go_loopg [8] l.length (fun g i wr => ∃ m : Nat, m ≤ l.length ∧ g = l.length - m ∧ i = .int .i64 m ∧ Lib.IsBuilderF 38 5 w.heap.size w.heap.size (Lib.byteCells (putF (listsOf (l.take m)))) wr ∧ Below w.heap.size w wr)
  case atStart => exact ⟨0, by omega, by omega, rfl, Lib.IsBuilderF.of (Lib.fresh_isBuilder 38 5 w), (Below.refl _ w).alloc (Nat.le_refl _) _⟩
  case round =>
    obtain ⟨m, hm, hg, rfl, hB, hb⟩ := hrel
    have Hg := Lib.hid hg
    clear hg
    have hz := hb.size
    have hl : (putF (listsOf (l.take m))).length ≤ 1000 * 2001 :=
      Nat.le_trans (put_len 1000 _ (fun x hx => hs x (List.mem_of_mem_take hx))) (Nat.mul_le_mul_right _ (by have := List.length_take_le m l; omega))
    by_cases hlt : m < l.length
    · obtain ⟨b, off, rfl, hbs, hcells⟩ := hA (by omega)
      obtain ⟨x, hx⟩ : ∃ x, l[m]? = some x := ⟨l[m], List.getElem?_eq_getElem hlt⟩
      have c0 := (hb.cell (p := ⟨b, off + m, none⟩) hbs).trans (hcells m x hx)
      have hxs := hs x (List.mem_of_getElem? hx)
      have hel := esc_len x.data.toList
      have e2 : x.data.toList.length = x.size := Array.length_toList
      have HX := Lib.hid hx
      have HE := Lib.hid e2
      have HL := Lib.hid hel
      clear hx e2 hel hcells hs
      go_wp2_with fail
      refine (escape_any x _ (by omega)).mono ?_
      rintro e W1 ⟨rfl, b1⟩
      have hB1 : Lib.IsBuilderF 38 5 w.heap.size w.heap.size (Lib.byteCells (putF (listsOf (l.take m)))) W1 := builder_next hB b1
      have hz1 : w.heap.size ≤ W1.heap.size := Nat.le_trans hz b1.size
      have hsz : (txt (escF x.data.toList) ++ ⟨#[10]⟩).size ≤ 3000 := by rw [ByteArray.size_append, txt_size]; change _ + 1 ≤ _; have := HE.out; have := HL.out; omega
      have HS := Lib.hid hsz
      have hno : ¬9223372036854775807 < (txt (escF x.data.toList)).size + 1 := by rw [ByteArray.size_append] at hsz; change _ + 1 ≤ _ at hsz; omega
      clear hsz
      go_wp2_with fail
      refine (Try.Builder_WriteString_k w.heap.size w.heap.size _ _ _ hB1 ?_ hz1).mono ?_
      · rw [Lib.byteCells_length]; have := HS.out; omega
      rintro e W2 ⟨rfl, h1, b2, k1⟩
      go_wp2_with fail
      go_roundg (l.length - (m + 1))
      case measure => have := Hg.out; omega
      case rel =>
        refine ⟨m + 1, by omega, rfl, by go_num, ?_, (hb.trans (b1.mono hz)).trans b2⟩
        rw [put_snoc HX.out, Lib.byteCells_append]
        rw [line_txt, cells_txt] at h1
        exact Or.inr h1
    · obtain rfl : m = l.length := by omega
      go_wp2_with fail
      refine (Try.Builder_String_any_k w.heap.size w.heap.size _ _ hB hz).mono ?_
      rintro e W1 ⟨rfl, _, b1, _⟩
      go_wp2_with fail
      go_ret
      exact ⟨rfl, hb.trans b1⟩
end Go.Proofs.Ytdbcmhcflndggaa
