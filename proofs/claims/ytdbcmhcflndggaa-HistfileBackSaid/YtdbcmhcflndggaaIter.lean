/- The contract of strings.Lines' iterator, over whatever its caller's rounds do. -/
import Derived.Test.YtdbcmhcflndggaaRGet
import Derived.RangeFuncNested
import Derived.RangeFuncBound
import Derived.RangeFuncCalls
import Derived.RangeFuncLeaves
import Derived.Shelf.Abstract
import Derived.Shelf.RegionOpen
import Derived.OwnWalkIn
import Derived.TacticsInMore
import Derived.LoopNIn
import Derived.LoopIn
import Derived.Lib.IndexLaws
namespace Go.Proofs.Ytdbcmhcflndggaa
open Go.RowKit Go.Shelf

theorem lines_none {l : List UInt8} (hne : l ≠ []) (h : Lib.indexByte l 10 = -1) : linesF l = [l] := by
  refine lines_rest l hne fun c hc e => ?_
  subst e
  obtain ⟨k, hk⟩ := List.mem_iff_getElem?.1 hc
  exact Lib.indexByte_none h k hk
theorem lines_some {l : List UInt8} {i : Nat} (h : Lib.indexByte l 10 = i) : linesF l = l.take (i + 1) :: linesF (l.drop (i + 1)) ∧ i < l.length := by
  obtain ⟨h1, h2⟩ := Lib.indexByte_some h
  have hi := (List.getElem?_eq_some_iff.1 h1).1
  have he := (List.getElem?_eq_some_iff.1 h1).2
  refine ⟨?_, hi⟩
  have hl : l = l.take i ++ 10 :: l.drop (i + 1) := by
    have := List.drop_eq_getElem_cons hi
    rw [he] at this
    rw [← this, List.take_append_drop]
  have ht : l.take (i + 1) = l.take i ++ [10] := by rw [List.take_add_one, h1]; rfl
  rw [ht]
  conv => lhs; rw [hl]
  refine lines_seg _ _ fun c hc e => ?_
  subst e
  obtain ⟨k, hk⟩ := List.mem_iff_getElem?.1 hc
  rw [List.getElem?_take] at hk
  split at hk
  · exact h2 k (by assumption) hk
  · cases hk

def leftB (B : Nat) (W : World) : Nat := match W.cell? ⟨B, 0, none⟩ with
  | some (.string x) => x.size
  | _ => 0
theorem leftB_of {B : Nat} {W : World} {x : ByteArray} (h : W.cell? ⟨B, 0, none⟩ = some (.string x)) : leftB B W = x.size := by
  unfold leftB; rw [h]

set_option maxHeartbeats 4000000 in
set_option maxRecDepth 100000 in
theorem lines_iter (m l B : Nat) (J : List UInt8 → World → Prop) (Jx : World → Prop)
    (hread : ∀ rest W, J rest W → W.cell? ⟨B, 0, none⟩ = some (.string (txt rest)) ∧ W.frozen? ⟨B, 0, none⟩ = false)
    (hstep : ∀ one rest W k, linesF (one ++ rest) = one :: linesF rest → one ≠ [] → J (one ++ rest) W →
      YieldAt Fence.wide m Try.prog l #[.string (txt one)] ((W.setCell ⟨B, 0, none⟩ (.string (txt rest))).drewN k) fun e W' => (e = .returned (.bool true) ∧ J rest W') ∨ (e = .returned (.bool false) ∧ Jx W'))
    (s : List UInt8) (hs : s.length ≤ 50000) (W : World) (h0 : J s W) :
    CallsIn Fence.wide (m + 1) Try.prog 35 #[.func (.yield l) #[] #[], .pointer (some ⟨B, 0, none⟩)] W fun e W' => (∃ v, e = .returned v) ∧ (J [] W' ∨ Jx W') := by
  refine callsIn_of_wp Try.func35 rfl trivial ?_ rfl
  simp only [Try.ntmps35, List.size_toArray, List.length_cons, List.length_nil, Nat.reduceAdd, Nat.reduceSub, Array.replicate_succ, Array.replicate_zero, List.push_toArray, List.append_toArray, List.nil_append, List.cons_append]
  gi_wp2
  gi_loopw [] (fun wr => ∃ rest : List UInt8, rest.length ≤ s.length ∧ J rest wr) (fun wr => leftB B wr)
  case atStart => exact ⟨s, Nat.le_refl _, h0⟩
  case round =>
    obtain ⟨rest, hrl, hJ⟩ := hrel
    obtain ⟨hc, hf⟩ := hread rest wr hJ
    have hsz : (txt rest).size ≤ 50000 := by rw [txt_size]; omega
    rcases Nat.eq_zero_or_pos rest.length with hz | hz
    · obtain rfl : rest = [] := List.eq_nil_of_length_eq_zero hz
      gi_wp2
      go_end0
      exact ⟨⟨_, rfl⟩, .inl hJ⟩
    · have hpos : (0 : Int) < ((txt rest).size : Int) := by rw [txt_size]; omega
      have hne : rest ≠ [] := by intro e; rw [e] at hz; simp at hz
      have hl := leftB_of hc
      by_cases hi : Lib.indexByte rest 10 = -1
      · have hi2 : Lib.indexByte (txt rest).data.toList (Int.toNat 10).toUInt8 = -1 := by rw [txt_list]; exact hi
        have hls := lines_none hne hi
        have HY := Lib.hid (fun k => hstep rest [] wr k (by rw [List.append_nil]; exact hls) hne (by rw [List.append_nil]; exact hJ))
        clear hi hls
        obtain ⟨fn, tmps, assign, body, hy0, hR⟩ := HY.out 0
        have hy : (Instr.yield l #[.string (txt rest)]).run Try.prog (wr.setCell ⟨B, 0, none⟩ (.string ⟨#[]⟩)) = .ok (.round l fn tmps assign body) (wr.setCell ⟨B, 0, none⟩ (.string ⟨#[]⟩)) := hy0
        clear hy0
        gi_wp2_with (refine ⟨trivial, ?_⟩; gi_at_call 36; refine (callsIn_wide.2 (Try.strings_IndexByte (txt rest) 10 _)).mono ?_; rintro e w' ⟨rfl, rfl⟩; rw [hi2])
        refine hR.mono ?_
        rintro e W3 (⟨rfl, hJ3⟩ | ⟨rfl, hJ3⟩)
        · have hc3 := (hread _ _ hJ3).1
          have hl3 := leftB_of hc3
          gi_wp2
          go_roundw
          case rel => exact ⟨[], by simp, hJ3⟩
          case measure => rw [hl3, hl, txt_size, txt_size]; simpa using hz
        · gi_wp2
          refine bodyPost_ret (results_none rfl _ _ _) rfl ?_
          exact ⟨⟨_, rfl⟩, .inr hJ3⟩
      · obtain ⟨i, hi'⟩ : ∃ i : Nat, Lib.indexByte rest 10 = i := ⟨(Lib.indexByte rest 10).toNat, by have := Lib.indexByte_ge rest 10; omega⟩
        obtain ⟨hls, hil⟩ := lines_some hi'
        have hi2 : Lib.indexByte (txt rest).data.toList (Int.toNat 10).toUInt8 = i := by rw [txt_list]; exact hi'
        have hw1 : IntKind.i64.wrap ((i : Int) + 1) = (i : Int) + 1 := by rw [IntKind.wrap_i64]; omega
        have hw2 : (0 : Int) ≤ (i : Int) + 1 := by omega
        have hw3 : ((i : Int) + 1).toNat = i + 1 := by omega
        have hw5 : (i : Int) + 1 ≤ ((txt rest).size : Int) := by rw [txt_size]; omega
        have HY := Lib.hid (fun k => hstep (rest.take (i + 1)) (rest.drop (i + 1)) wr k (by rw [List.take_append_drop]; exact hls) (fun e => hne (by have := congrArg List.length e; rw [List.length_take, List.length_nil] at this; exact List.eq_nil_of_length_eq_zero (by omega))) (by rw [List.take_append_drop]; exact hJ))
        clear hi hi' hls
        gi_wp2_with (refine ⟨trivial, ?_⟩; gi_at_call 36; refine (callsIn_wide.2 (Try.strings_IndexByte (txt rest) 10 _)).mono ?_; rintro e w' ⟨rfl, rfl⟩; rw [hi2])
        have hx1 : (txt rest).extract 0 (i + 1) = txt (rest.take (i + 1)) := by rw [extract_txt, txt_list]; rfl
        have hx2 : (txt rest).extract (i + 1) (txt rest).size = txt (rest.drop (i + 1)) := by
          rw [extract_txt, txt_list, txt_size, List.take_of_length_le (by rw [List.length_drop]; omega)]
        have HX1 := Lib.hid hx1
        have HX2 := Lib.hid hx2
        clear hx1 hx2
        gi_region
        rw [HX1.out, HX2.out]
        clear hw1 hw2 hw3 hw5 hi2 HX1 HX2
        obtain ⟨fn, tmps, assign, body, hy0, hR⟩ := HY.out 1
        have hy : (Instr.yield l #[.string (txt (rest.take (i + 1)))]).run Try.prog (w'.setCell ⟨B, 0, none⟩ (.string (txt (rest.drop (i + 1))))).drew = .ok (.round l fn tmps assign body) (w'.setCell ⟨B, 0, none⟩ (.string (txt (rest.drop (i + 1))))).drew := hy0
        clear hy0
        gi_wp2
        refine hR.mono ?_
        rintro e W3 (⟨rfl, hJ3⟩ | ⟨rfl, hJ3⟩)
        · have hc3 := (hread _ _ hJ3).1
          have hl3 := leftB_of hc3
          gi_wp2
          go_roundw
          case rel => exact ⟨rest.drop (i + 1), by rw [List.length_drop]; omega, hJ3⟩
          case measure => rw [hl3, hl, txt_size, txt_size, List.length_drop]; omega
        · gi_wp2
          refine bodyPost_ret (results_none rfl _ _ _) rfl ?_
          exact ⟨⟨_, rfl⟩, .inr hJ3⟩
end Go.Proofs.Ytdbcmhcflndggaa
