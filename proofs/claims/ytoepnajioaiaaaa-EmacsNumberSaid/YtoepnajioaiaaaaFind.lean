/- The contract of limnerref21.find. -/
import Derived.Test.YtoepnajioaiaaaaOne
import Derived.Deep.RegionHeld3
namespace Go.Proofs.Ytoepnajioaiaaaa
open Go.RowKit

/-- A slice that reads as rows. -/
def RowsOf (w : World) (A : Option Addr) (l : List Row4) : Prop :=
  0 < l.length → ∃ b, A = some ⟨b, 0, none⟩ ∧ b < w.heap.size ∧ ∀ (i : Nat) (x : Row4), l[i]? = some x →
    w.cell? ⟨b, i * 4, none⟩ = some (.int .i64 x.r) ∧ w.cell? ⟨b, i * 4 + 1, none⟩ = some (.int .i64 x.kind) ∧ w.cell? ⟨b, i * 4 + 2, none⟩ = some (.int .i64 x.way) ∧ w.cell? ⟨b, i * 4 + 3, none⟩ = some (.int .i64 x.n)

/-- The four cells of a row at place o, and how the world has gone on. -/
def Four (w0 : World) (b o : Nat) (x : Row4) (w : World) : Prop :=
  (w.cell? ⟨b, o + 1, none⟩ = some (.int .i64 x.kind) ∧ w.cell? ⟨b, o + 2, none⟩ = some (.int .i64 x.way) ∧ w.cell? ⟨b, o + 3, none⟩ = some (.int .i64 x.n)) ∧ b < w.heap.size ∧ Below w0.heap.size w0 w
theorem Four.drew {w0 w : World} {b o : Nat} {x : Row4} (h : Four w0 b o x w) : Four w0 b o x w.drew := ⟨h.1, h.2.1, h.2.2.drew⟩

theorem rone_four {w0 w : World} {b o : Nat} {x : Row4} (h : Four w0 b o x w) (k y n : Int) :
    Calls Try.prog 20 #[.int .i64 k, .int .i64 y, .int .i64 n] w fun e w' => (∃ v, e = .returned v ∧ Lst w' 50 v (some (cmd k y n))) ∧
      (w'.cell? ⟨b, o + 1, none⟩ = some (.int .i64 x.kind) ∧ w'.cell? ⟨b, o + 2, none⟩ = some (.int .i64 x.way) ∧ w'.cell? ⟨b, o + 3, none⟩ = some (.int .i64 x.n)) ∧ Four w0 b o x w' :=
  (rone_any k y n w).mono fun e w' ⟨v, he, hl, hb⟩ => by
    have h3 : w'.cell? ⟨b, o + 1, none⟩ = some (.int .i64 x.kind) ∧ w'.cell? ⟨b, o + 2, none⟩ = some (.int .i64 x.way) ∧ w'.cell? ⟨b, o + 3, none⟩ = some (.int .i64 x.n) :=
      ⟨(hb.cell (p := ⟨b, _, none⟩) h.2.1).trans h.1.1, (hb.cell (p := ⟨b, _, none⟩) h.2.1).trans h.1.2.1, (hb.cell (p := ⟨b, _, none⟩) h.2.1).trans h.1.2.2⟩
    exact ⟨⟨v, he, hl⟩, h3, h3, Nat.lt_of_lt_of_le h.2.1 hb.size, h.2.2.trans (hb.mono h.2.2.size)⟩

set_option maxHeartbeats 800000 in
theorem find_any (A : Option Addr) (l : List Row4) (c : Nat) (r n : Int) (w : World) (hl : l.length ≤ 100) (hA : RowsOf w A l) (hr0 : -2147483648 ≤ r) (hr1 : r ≤ 2147483647) :
    Calls Try.prog 15 #[.slice A l.length c, .int .i32 r, .int .i64 n] w (Gives 50 (findF l r n) w) := by
  go_enter Try.func15, Try.ntmps15
  go_wp2_with fail
  go_loopg [7] l.length (fun k i wr => ∃ m : Nat, m ≤ l.length ∧ k = l.length - m ∧ i = .int .i64 m ∧ findF l r n = findF (l.drop m) r n ∧ wr = w)
  case atStart => exact ⟨0, by omega, by omega, rfl, rfl, rfl⟩
  case round =>
    obtain ⟨m, hm, hk, rfl, hf, rfl⟩ := hrel
    have Hk := Lib.hid hk
    have Hf := Lib.hid hf
    clear hk hf
    by_cases hlt : m < l.length
    · obtain ⟨b, rfl, hbs, hcells⟩ := hA (by omega)
      obtain ⟨x, hx⟩ : ∃ x, l[m]? = some x := ⟨l[m], List.getElem?_eq_getElem hlt⟩
      obtain ⟨c0, c1, c2, c3⟩ := hcells m x hx
      have hd : l.drop m = x :: l.drop (m + 1) := by
        rw [List.drop_eq_getElem_cons hlt]
        congr 1
        rw [List.getElem?_eq_getElem hlt] at hx
        exact Option.some.inj hx
      have hf2 : findF l r n = if x.r = r then cmd x.kind x.way (if x.n < 0 then n else x.n) else findF (l.drop (m + 1)) r n := by rw [Hf.out, hd, findF]
      have Hf2 := Lib.hid hf2
      have hF : Four wr b (m * 4) x wr := ⟨⟨c1, c2, c3⟩, hbs, Below.refl _ _⟩
      have b1 : (0 : Int) ≤ (m : Int) := by omega
      have b2 : (m : Int) < (l.length : Int) := by omega
      clear hcells hx hd hf2 Hf
      by_cases hxr : x.r = r
      · have q1 : (x.r == r) = true := by simpa using hxr
        have Hx := Lib.hid hxr
        clear hxr
        by_cases hn : x.n < 0
        · go_wp2_with fail
          go_region_held3 (fun w' => (w'.cell? ⟨b, m * 4 + 1, none⟩ = some (.int .i64 x.kind) ∧ w'.cell? ⟨b, m * 4 + 2, none⟩ = some (.int .i64 x.way) ∧ w'.cell? ⟨b, m * 4 + 3, none⟩ = some (.int .i64 x.n)) ∧ Four wr b (m * 4) x w')
            (first | exact ⟨⟨c1, c2, c3⟩, hF.drew⟩ | (refine ⟨⟨?_, ?_, ?_⟩, ?_⟩ <;> assumption))
            (first | (go_at_call 20; refine (rone_four (w0 := wr) (b := b) (o := m * 4) (x := x) ?_ _ _ _).mono ?_; (first | assumption | exact hF.drew); rintro e w1 ⟨⟨v, rfl, e0⟩, ⟨e1, e2, e3⟩, e4⟩))
          go_wp2_with fail
          go_ret
          rw [Hf2.out, if_pos Hx.out, if_pos hn]
          exact ⟨v, rfl, e0, e4.2.2⟩
        · have hn' : 0 ≤ x.n := by omega
          clear hn
          go_wp2_with fail
          go_region_held3 (fun w' => (w'.cell? ⟨b, m * 4 + 1, none⟩ = some (.int .i64 x.kind) ∧ w'.cell? ⟨b, m * 4 + 2, none⟩ = some (.int .i64 x.way) ∧ w'.cell? ⟨b, m * 4 + 3, none⟩ = some (.int .i64 x.n)) ∧ Four wr b (m * 4) x w')
            (first | exact ⟨⟨c1, c2, c3⟩, hF.drew⟩ | (refine ⟨⟨?_, ?_, ?_⟩, ?_⟩ <;> assumption))
            (first | (go_at_call 20; refine (rone_four (w0 := wr) (b := b) (o := m * 4) (x := x) ?_ _ _ _).mono ?_; (first | assumption | exact hF.drew); rintro e w1 ⟨⟨v, rfl, e0⟩, ⟨e1, e2, e3⟩, e4⟩))
          go_wp2_with fail
          go_ret
          rw [Hf2.out, if_pos Hx.out, if_neg (by omega)]
          exact ⟨v, rfl, e0, e4.2.2⟩
      · have q1 : (x.r == r) = false := by simpa using hxr
        have Hx := Lib.hid hxr
        clear hxr
        go_wp2_with fail
        go_roundg (l.length - (m + 1))
        case measure => have := Hk.out; omega
        case rel => exact ⟨m + 1, by omega, rfl, by go_num, by rw [Hf2.out, if_neg Hx.out], rfl⟩
    · have hge : l.length ≤ m := by omega
      have hf2 : findF l r n = cmd 1 0 1 := by rw [Hf.out, List.drop_eq_nil_of_le hge]; rfl
      have Hf2 := Lib.hid hf2
      clear hf2 Hf
      go_wp2_with fail
      refine (rone_any _ _ _ _).mono ?_
      rintro e w1 ⟨v, rfl, e0, hb⟩
      go_wp2_with fail
      go_ret
      rw [Hf2.out]
      exact ⟨v, rfl, e0, hb⟩

end Go.Proofs.Ytoepnajioaiaaaa
