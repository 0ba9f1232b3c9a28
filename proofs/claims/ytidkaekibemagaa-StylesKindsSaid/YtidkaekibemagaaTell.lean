/- StylesTell: styles.All and limnerref17.All give equal lists, styles.Of and limnerref17.Of equal looks, and the chapter's text stands. -/
import Derived.Test.YtidkaekibemagaaPainted
namespace Go.Proofs.Ytidkaekibemagaa
open Go.RowKit

set_option maxHeartbeats 400000 in
theorem tell_big (s : ByteArray) (A Ap : Option Addr) (n c m cp : Nat) (w : World) (h : 300 < s.size ∨ 60 < n ∨ 10 < m) (h1 : s.size ≤ maxLen) (h2 : n ≤ maxLen) (h3 : m ≤ maxLen) :
    Calls Try.prog 3 #[.string s, .slice A n c, .slice Ap m cp] w fun e w' => e = .returned (.bool true) ∧ Below w.heap.size w w' := by
  unfold maxLen at h1 h2 h3
  by_cases hs : 300 < s.size
  · clear h
    go_enter Try.func3, Try.ntmps3
    go_wp2_with fail
    refine (painted_true _).mono ?_
    rintro e w' ⟨rfl, hb⟩
    go_wp2_with fail
    go_ret
    exact ⟨rfl, hb⟩
  · by_cases hn : 60 < n
    · clear h
      go_enter Try.func3, Try.ntmps3
      go_wp2_with fail
      refine (painted_true _).mono ?_
      rintro e w' ⟨rfl, hb⟩
      go_wp2_with fail
      go_ret
      exact ⟨rfl, hb⟩
    · have hm : 10 < m := by omega
      clear h
      go_enter Try.func3, Try.ntmps3
      go_wp2_with fail
      refine (painted_true _).mono ?_
      rintro e w' ⟨rfl, hb⟩
      go_wp2_with fail
      go_ret
      exact ⟨rfl, hb⟩

/-- Two lists of looks that hold the same: the first in block g, the second at gB. -/
def Both (w : World) (g : Nat) (gB : Option Addr) (n : Nat) (T : Int → Int) (V : Int → Bool) : Prop :=
  w.rowIs g 28 (n * 4) (paint T V) ∧ (0 < n → ∃ g2, gB = some ⟨g2, 0, none⟩ ∧ ∀ j, j < n * 4 → w.cell? ⟨g2, j, none⟩ = some (paint T V j))
theorem Both.drewN {w : World} {g : Nat} {gB : Option Addr} {n : Nat} {T : Int → Int} {V : Int → Bool} (h : Both w g gB n T V) (k : Nat) : Both (w.drewN k) g gB n T V := h

theorem sty_of {w : World} {g n : Nat} {T : Int → Int} {V : Int → Bool} (h : ∀ j, j < n * 4 → w.cell? ⟨g, j, none⟩ = some (paint T V j)) (i : Nat) (hi : i < n) :
    w.cell? ⟨g, i * 4, none⟩ = some (.int .i64 (fgOf (T i))) ∧ w.cell? ⟨g, i * 4 + 1, none⟩ = some (.bool (boldOf (T i))) ∧ w.cell? ⟨g, i * 4 + 2, none⟩ = some (.bool (underOf (T i))) ∧ w.cell? ⟨g, i * 4 + 3, none⟩ = some (.bool (V i)) := by
  refine ⟨?_, ?_, ?_, ?_⟩
  · rw [h _ (by omega)]; unfold paint; rw [if_pos (by omega), show i * 4 / 4 = i by omega]
  · rw [h _ (by omega)]; unfold paint; rw [if_neg (by omega), if_pos (by omega), show (i * 4 + 1) / 4 = i by omega]
  · rw [h _ (by omega)]; unfold paint; rw [if_neg (by omega), if_neg (by omega), if_pos (by omega), show (i * 4 + 2) / 4 = i by omega]
  · rw [h _ (by omega)]; unfold paint; rw [if_neg (by omega), if_neg (by omega), if_neg (by omega), show (i * 4 + 3) / 4 = i by omega]

set_option maxHeartbeats 400000 in
theorem tell_small (s : ByteArray) (A Ap : Option Addr) (l : List Tok) (c : Nat) (pr : List Int) (cp : Nat) (w : World)
    (hs : s.size ≤ 300) (hl : l.length ≤ 60) (hp : pr.length ≤ 10) (hA : Toks w A l) (hP : Nums w Ap pr) :
    Calls Try.prog 3 #[.string s, .slice A l.length c, .slice Ap pr.length cp] w fun e w' => e = .returned (.bool true) ∧ Below w.heap.size w w' := by
  go_enter Try.func3, Try.ntmps3
  go_wp2_with fail
  refine (all_any s A Ap l c pr cp _ (by omega) (by omega) (by omega) hA hP).mono ?_
  rintro e w1 ⟨g, rfl, hb1, hrow1⟩
  have hA1 : Toks w1 A l := by
    intro h
    obtain ⟨b, off, rfl, hbs, hcells⟩ := hA h
    refine ⟨b, off, rfl, Nat.lt_of_lt_of_le hbs hb1.size, fun i t hi => ?_⟩
    obtain ⟨c0, c1, c2⟩ := hcells i t hi
    exact ⟨(hb1.cell (p := ⟨b, _, none⟩) hbs).trans c0, (hb1.cell (p := ⟨b, _, none⟩) hbs).trans c1, (hb1.cell (p := ⟨b, _, none⟩) hbs).trans c2⟩
  have hP1 : Nums w1 Ap pr := by
    intro h
    obtain ⟨b, off, rfl, hbs, hcells⟩ := hP h
    refine ⟨b, off, rfl, Nat.lt_of_lt_of_le hbs hb1.size, fun i t hi => ?_⟩
    exact (hb1.cell (p := ⟨b, _, none⟩) hbs).trans (hcells i t hi)
  go_wp2_with fail
  refine (ref_any s A Ap l c pr cp _ (by omega) (by omega) (by omega) hA1 hP1).mono ?_
  rintro e w2 ⟨v, rfl, hb2, hown⟩
  obtain ⟨gB, cB, hv, hcell⟩ : ∃ gB cB, v = .slice gB s.size cB ∧ (0 < s.size → ∃ g2, gB = some ⟨g2, 0, none⟩ ∧ ∀ j, j < s.size * 4 → w2.cell? ⟨g2, j, none⟩ = some (paint (tone l) (fun i => decide (i ∈ pr)) j)) := by
    rcases hown.2 with ⟨rfl, h0⟩ | ⟨g2, cap, cur, rfl, _, _, _⟩
    · rw [h0]; exact ⟨none, 0, rfl, fun h => absurd h (by omega)⟩
    · refine ⟨_, _, rfl, fun _ => ⟨g2, rfl, fun j hj => ?_⟩⟩
      rw [hown.cellAt j hj]
      unfold Go.Proofs.Ytidkaekibemagaa.painted
      simp [hj]
  subst hv
  have hrow := hrow1.of_block (hb2.block g hrow1.lt)
  clear hown hrow1 hA hP hA1 hP1
  have hbb : Below w.heap.size w w2 := hb1.trans (hb2.mono hb1.size)
  clear hb1 hb2
  go_wp2_with fail
  have hboth : Both w2 g gB s.size (tone l) (fun i => decide (i ∈ pr)) := ⟨hrow, hcell⟩
  clear hrow hcell
  go_loopg [9] s.size (fun k i wr => ∃ q : Nat, q ≤ s.size ∧ k = s.size - q ∧ i = .int .i64 q ∧ Below w.heap.size w wr ∧ Both wr g gB s.size (tone l) (fun i => decide (i ∈ pr)))
  case atStart => exact ⟨0, by omega, by omega, rfl, hbb, hboth⟩
  case round =>
    clear hbb hboth
    obtain ⟨q, hq, hk, rfl, hb, hboth⟩ := hrel
    have Hk := Lib.hid hk
    clear hk
    by_cases hlt : q < s.size
    · obtain ⟨a0, a1, a2, a3⟩ := sty_of (fun j hj => hboth.1.cell hj) q hlt
      obtain ⟨g2, rfl, hc2⟩ := hboth.2 (by omega)
      obtain ⟨b0, b1, b2, b3⟩ := sty_of hc2 q hlt
      clear hc2
      go_wp2_with fail
      go_quiet (fail)
      go_wp2_with fail
      go_roundg (s.size - (q + 1))
      case measure => have := Hk.out; omega
      case rel => exact ⟨q + 1, by omega, rfl, by go_num, below_drewN hb _, hboth.drewN _⟩
    · have hge : s.size ≤ q := by omega
      have hd : decide (q < s.size) = false := by simpa using hge
      clear hboth hlt
      go_wp2_with fail
      go_loopg [10] 17 (fun k i wr => ∃ z : Int, -2 ≤ z ∧ z ≤ 15 ∧ k = (15 - z).toNat ∧ i = .int .i64 z ∧ Below w.heap.size w wr)
      case atStart => exact ⟨-2, by omega, by omega, rfl, rfl, hb⟩
      case round =>
        clear hb hge Hk hq
        obtain ⟨z, hz1, hz2, hk, rfl, hb⟩ := hrel
        have Hk := Lib.hid hk
        clear hk
        by_cases hlt : z < 15
        · go_wp2_with fail
          refine (of_call _ _).mono ?_
          rintro e w3 ⟨rfl, hb3⟩
          go_wp2_with fail
          refine (rof_call _ _).mono ?_
          rintro e w4 ⟨rfl, hb4⟩
          go_wp2_with fail
          go_roundg ((15 - (z + 1)).toNat)
          case measure => have := Hk.out; omega
          case rel => exact ⟨z + 1, by omega, by omega, rfl, by go_num, (hb.trans (hb3.mono hb.size)).trans (hb4.mono (Nat.le_trans hb.size hb3.size))⟩
        · have hge : 15 ≤ z := by omega
          go_wp2_with fail
          refine (painted_true _).mono ?_
          rintro e w3 ⟨rfl, hb3⟩
          go_wp2_with fail
          go_ret
          exact ⟨rfl, hb.trans (hb3.mono hb.size)⟩

theorem tell_any (s : ByteArray) (A Ap : Option Addr) (l : List Tok) (c : Nat) (pr : List Int) (cp : Nat) (w : World)
    (h1 : s.size ≤ maxLen) (h2 : l.length ≤ maxLen) (h3 : pr.length ≤ maxLen) (hA : Toks w A l) (hP : Nums w Ap pr) :
    Calls Try.prog 3 #[.string s, .slice A l.length c, .slice Ap pr.length cp] w fun e w' => e = .returned (.bool true) ∧ Below w.heap.size w w' := by
  by_cases h : 300 < s.size ∨ 60 < l.length ∨ 10 < pr.length
  · exact tell_big s A Ap _ c _ cp w h h1 h2 h3
  · exact tell_small s A Ap l c pr cp w (by omega) (by omega) (by omega) hA hP

end Go.Proofs.Ytidkaekibemagaa
