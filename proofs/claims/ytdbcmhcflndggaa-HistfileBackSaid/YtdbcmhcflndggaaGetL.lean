/- HistfileGet: the law returns true. -/
import Derived.Test.YtdbcmhcflndggaaGet
import Derived.Test.YtdbcmhcflndggaaOpens
namespace Go.Proofs.Ytdbcmhcflndggaa
open Go.RowKit

theorem lists_inj {a b : List ByteArray} (h : listsOf a = listsOf b) : a = b := by
  induction a generalizing b with
  | nil => cases b with
    | nil => rfl
    | cons y r => simp [listsOf] at h
  | cons x a ih => cases b with
    | nil => simp [listsOf] at h
    | cons y r =>
      simp only [listsOf, List.map_cons, List.cons.injEq] at h
      rw [Go.WideShapes.bytes_inj h.1, ih h.2]

set_option maxHeartbeats 4000000 in
set_option maxRecDepth 100000 in
theorem getlaw_any (s : ByteArray) (w : World) (hm : s.size ≤ maxLen) : Calls Try.prog 5 #[.string s] w fun e w' => e = .returned (.bool true) ∧ Below w.heap.size w w' := by
  unfold maxLen at hm
  by_cases hb : 500 < s.size
  · have hi : (500 : Int) < (s.size : Int) := by omega
    go_enter Try.func5, Try.ntmps5
    go_wp2_with fail
    refine (filed_true w).mono ?_
    rintro e w1 ⟨rfl, hb1⟩
    go_wp2_with fail
    go_ret
    exact ⟨rfl, hb1⟩
  · have hi : ¬ (500 : Int) < (s.size : Int) := by omega
    go_enter Try.func5, Try.ntmps5
    go_wp2_with fail
    refine (get_any s w (by omega)).mono ?_
    rintro e w1 ⟨A, c, L, rfl, hA, hL, hl, hz, hb1⟩
    obtain ⟨k, hk⟩ : ∃ k, (getF [] (linesF s.data.toList)).2.1 = k := ⟨_, rfl⟩
    obtain ⟨x, hx⟩ : ∃ x, (getF [] (linesF s.data.toList)).2.2 = x := ⟨_, rfl⟩
    have HK := Lib.hid hk
    have HX := Lib.hid hx
    have HL := Lib.hid hL
    rw [hk, hx]
    clear hk hx hL hz
    go_wp2_with fail
    refine (rget_any s w1 (by omega)).mono ?_
    rintro e w2 ⟨A', c', L', rfl, hA', hL', hl', _, hb2⟩
    rw [HK.out, HX.out]
    obtain rfl : L = L' := lists_inj (by rw [HL.out, hL'])
    have hA2 := hA.next hb2
    have hbb := hb1.trans (hb2.mono hb1.size)
    clear hL' hA hb1 hb2
    go_wp2_with fail
    refine (texts_any A L c A' L c' w2 (by omega) (by omega) hA2 hA').mono ?_
    rintro e w3 ⟨rfl, hb3⟩
    rw [decide_eq_true rfl]
    have hbb3 := hbb.trans (hb3.mono hbb.size)
    go_wp2_with fail
    refine (filed_true w3).mono ?_
    rintro e w4 ⟨rfl, hb4⟩
    go_wp2_with fail
    go_ret
    exact ⟨rfl, hbb3.trans (hb4.mono hbb3.size)⟩
end Go.Proofs.Ytdbcmhcflndggaa
