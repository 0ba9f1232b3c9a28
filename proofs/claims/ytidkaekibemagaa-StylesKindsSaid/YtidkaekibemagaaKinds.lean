/- StylesKinds: each kind that is seen looks otherwise than the usual style, and no two of those that are not brackets alike. -/
import Derived.Test.YtidkaekibemagaaOpens
import Derived.Deep.RegionHeld3
namespace Go.Proofs.Ytidkaekibemagaa
open Go.RowKit

/-- The kinds that are seen. -/
def seenAt (i : Nat) : Int := if i = 0 then 0 else if i = 1 then 9 else if i = 2 then 10 else if i = 3 then 5 else if i = 4 then 4 else if i = 5 then 6 else if i = 6 then 11 else 7

/-- Two looks are told apart. -/
theorem run_look (a b : Int) (r : Bool) (h : (fgOf a == fgOf b && (boldOf a == boldOf b && underOf a == underOf b)) = r) (w : World) : (binOp .eql 28 (look a) (look b)).run Try.prog w = .ok (.bool r) w := by
  rw [look_parts, look_parts]
  subst h
  simp only [binOp, Op.equal, Op.maxDepth]
  go_simp
  by_cases h0 : fgOf a = fgOf b <;> by_cases h1 : boldOf a = boldOf b <;> by_cases h2 : underOf a = underOf b <;> simp [h0, h1, h2]

theorem run_guard (x y : Operand) (a b : Int) (w : World) : (eqGuard .eql 28 x y (look a) (look b)).run Try.prog w = .ok () w := by
  rw [look_parts, look_parts]
  go_simp

theorem zero_look : Value.agg #[.int .i64 0, .bool false, .bool false, .bool false] = look 1 := rfl

theorem run_look0 (a : Int) (h : (fgOf a == fgOf 1 && (boldOf a == boldOf 1 && underOf a == underOf 1)) = false) (w : World) :
    (binOp .eql 28 (look a) (.agg #[.int .i64 0, .bool false, .bool false, .bool false])).run Try.prog w = .ok (.bool false) w := by
  rw [zero_look]; exact run_look a 1 false h w

theorem run_guard0 (x y : Operand) (a : Int) (w : World) : (eqGuard .eql 28 x y (look a) (.agg #[.int .i64 0, .bool false, .bool false, .bool false])).run Try.prog w = .ok () w := by
  rw [zero_look]; exact run_guard x y a 1 w

theorem seen_ne (q : Nat) (h : q < 8) : (fgOf (seenAt q) == fgOf 1 && (boldOf (seenAt q) == boldOf 1 && underOf (seenAt q) == underOf 1)) = false := by
  have h8 : q = 0 ∨ q = 1 ∨ q = 2 ∨ q = 3 ∨ q = 4 ∨ q = 5 ∨ q = 6 ∨ q = 7 := by omega
  rcases h8 with rfl | rfl | rfl | rfl | rfl | rfl | rfl | rfl <;> decide

theorem seen_apart : ∀ q, q < 8 → ∀ r, r < q → (fgOf (seenAt q) == fgOf (seenAt r) && (boldOf (seenAt q) == boldOf (seenAt r) && underOf (seenAt q) == underOf (seenAt r))) = false := by decide

theorem run_fg (f : Int) (b u i : Bool) (w : World) : (Instr.field 28 (.agg #[.int .i64 f, .bool b, .bool u, .bool i]) 0).run Try.prog w = .ok (.int .i64 f) w := by kernel_rfl
theorem run_inverse (f : Int) (b u i : Bool) (w : World) : (Instr.field 28 (.agg #[.int .i64 f, .bool b, .bool u, .bool i]) 3).run Try.prog w = .ok (.bool i) w := by kernel_rfl

/-- What a round keeps: the eight kinds in their block; nothing older has turned. -/
def Still (w0 w : World) : Prop := Below w0.heap.size w0 w ∧ w0.heap.size < w.heap.size ∧ w.rowIs w0.heap.size 31 8 (fun j => .int .i64 (seenAt j))

theorem Still.next {w0 w w' : World} (h : Still w0 w) (hb : Below w.heap.size w w') : Still w0 w' :=
  ⟨h.1.trans (hb.mono (Nat.le_of_lt h.2.1)), Nat.lt_of_lt_of_le h.2.1 hb.size, h.2.2.of_block (hb.block _ h.2.1)⟩
theorem Still.drew {w0 w : World} (h : Still w0 w) : Still w0 w.drew := ⟨h.1.drew, h.2.1, h.2.2⟩
theorem Still.cell {w0 w : World} (h : Still w0 w) (q : Nat) (hq : q < 8) : w.cell? ⟨w0.heap.size, q, none⟩ = some (.int .i64 (seenAt q)) := h.2.2.cell hq

theorem of_still (w0 : World) (q r : Nat) (hq : q < 8) (hr : r < 8) (k : Int) (w : World) (h : Still w0 w) :
    Calls Try.prog 8 #[.int .i64 k] w fun e w' => e = .returned (look k) ∧ w'.cell? ⟨w0.heap.size, q, none⟩ = some (.int .i64 (seenAt q)) ∧ w'.cell? ⟨w0.heap.size, r, none⟩ = some (.int .i64 (seenAt r)) ∧ Still w0 w' :=
  (of_any k w).mono fun _ _ ⟨he, hb⟩ => ⟨he, (h.next hb).cell q hq, (h.next hb).cell r hr, h.next hb⟩

set_option maxHeartbeats 400000 in
theorem kinds_any (z : Int) (w : World) :
    Calls Try.prog 4 #[.int .i64 z] w fun e w' => e = .returned (.bool true) ∧ Below w.heap.size w w' := by
  have hinv := run_inverse
  have hfg := run_fg
  go_enter Try.func4, Try.ntmps4
  go_wp2_with fail
  go_loopg [4] 8 (fun k i wr => ∃ q : Nat, q ≤ 8 ∧ k = 8 - q ∧ i = .int .i64 q ∧ Still w wr)
  case atStart =>
    refine ⟨0, by omega, by omega, rfl, (Below.refl _ _).alloc (Nat.le_refl _) _, by simp, World.rowIs_alloc _ _ _ _ ?_⟩
    intro i hi
    have h8 : i = 0 ∨ i = 1 ∨ i = 2 ∨ i = 3 ∨ i = 4 ∨ i = 5 ∨ i = 6 ∨ i = 7 := by simp at hi; omega
    rcases h8 with rfl | rfl | rfl | rfl | rfl | rfl | rfl | rfl <;> rfl
  case round =>
    obtain ⟨q, hq, hk, rfl, hst⟩ := hrel
    have Hk := Lib.hid hk
    clear hk
    by_cases hlt : q < 8
    · have c0 := hst.cell q hlt
      have r0 := run_look0 (seenAt q) (seen_ne q hlt)
      have g0 := fun x y => run_guard0 x y (seenAt q)
      go_wp2_with fail
      refine (of_any _ _).mono ?_
      rintro e w1 ⟨rfl, hb1⟩
      have hst1 := hst.next hb1
      have d0 := hst1.cell q hlt
      go_wp2_with fail
      refine (of_call _ _).mono ?_
      rintro e w2 ⟨rfl, hb2⟩
      have hst2 := hst1.next hb2
      clear hst hst1 hb1 hb2 c0 d0 r0 g0
      go_wp2_with fail
      go_loopg [5] q (fun k i wr => ∃ r : Nat, r ≤ q ∧ k = q - r ∧ i = .int .i64 r ∧ Still w wr)
      case atStart => exact ⟨0, by omega, by omega, rfl, hst2⟩
      case round =>
        clear hst2
        obtain ⟨r, hr, hk, rfl, hst⟩ := hrel
        have Hk2 := Lib.hid hk
        clear hk
        by_cases hlr : r < q
        · have r0 := run_look (seenAt q) (seenAt r) false (seen_apart q hlt r hlr)
          have g0 := fun x y => run_guard x y (seenAt q) (seenAt r)
          have c0 := hst.cell q hlt
          have c1 := hst.cell r (by omega)
          have b1 : (0 : Int) ≤ (q : Int) := by omega
          have b2 : (q : Int) < 8 := by omega
          have b3 : (0 : Int) ≤ (r : Int) := by omega
          have b4 : (r : Int) < 8 := by omega
          go_wp2_with fail
          go_region_held3 (fun w' => w'.cell? ⟨w.heap.size, q, none⟩ = some (.int .i64 (seenAt q)) ∧ w'.cell? ⟨w.heap.size, r, none⟩ = some (.int .i64 (seenAt r)) ∧ Still w w') (first | exact ⟨c0, c1, hst.drew⟩ | (refine ⟨?_, ?_, ?_⟩ <;> assumption))
            (first | (go_at_call 8; refine (of_still w q r hlt (by omega) _ _ ?_).mono ?_; (first | assumption | exact hst.drew); rintro e w' ⟨rfl, e1, e2, e3⟩))
          all_goals
            rename_i hst' _
            go_wp2_with fail
            go_roundg (q - (r + 1))
            case measure => have := Hk2.out; omega
            case rel => exact ⟨r + 1, by omega, rfl, by go_num, by assumption⟩
        · have hge : q ≤ r := by omega
          go_wp2_with fail
          go_roundg (8 - (q + 1))
          case measure => have := Hk.out; omega
          case rel => exact ⟨q + 1, by omega, rfl, by go_num, hst⟩
    · have hge : 8 ≤ q := by omega
      have hb := hst.1
      clear hst
      have f1 : 0 ≤ fgOf z := by unfold fgOf; repeat' split <;> omega
      have f2 : fgOf z ≤ 8 := by unfold fgOf; repeat' split <;> omega
      have r0 := run_look 7 8 true (by decide)
      have g0 := fun x y => run_guard x y 7 8
      go_wp2_with fail
      refine (of_call z _).mono ?_
      rintro e w1 ⟨rfl, hb1⟩
      go_wp2_with fail
      refine (of_call z _).mono ?_
      rintro e w2 ⟨rfl, hb2⟩
      go_wp2_with fail
      refine (of_call z _).mono ?_
      rintro e w3 ⟨rfl, hb3⟩
      go_wp2_with fail
      refine (of_any _ _).mono ?_
      rintro e w4 ⟨rfl, hb4⟩
      go_wp2_with fail
      refine (of_any _ _).mono ?_
      rintro e w5 ⟨rfl, hb5⟩
      go_wp2_with fail
      refine (painted_true _).mono ?_
      rintro e w6 ⟨rfl, hb6⟩
      go_wp2_with fail
      go_ret
      have z0 := hb.size
      have z1 := hb1.size
      have z2 := hb2.size
      have z3 := hb3.size
      have z4 := hb4.size
      have z5 := hb5.size
      exact ⟨rfl, (((((hb.trans (hb1.mono (by omega))).trans (hb2.mono (by omega))).trans (hb3.mono (by omega))).trans (hb4.mono (by omega))).trans (hb5.mono (by omega))).trans (hb6.mono (by omega))⟩

end Go.Proofs.Ytidkaekibemagaa
