/- The contract of styles.All. -/
import Derived.Test.YtidkaekibemagaaPlain
namespace Go.Proofs.Ytidkaekibemagaa
open Go.RowKit

theorem sty_info : (Try.prog.info? 28).map (fun i => (i.zero, i.size, i.bytes)) = some (some (.agg #[.int .i64 0, .bool false, .bool false, .bool false]), 4, 16) := by kernel_rfl

theorem make_sty (n : Nat) (hn : n ≤ 1000) (W : World) : (Instr.makeSlice 25 (.int .i64 (n : Int)) (.int .i64 (n : Int))).run Try.prog W =
    .ok (.slice (some ⟨W.heap.size, 0, none⟩) n n) (W.alloc (.cells (madeCells #[.int .i64 0, .bool false, .bool false, .bool false] (n * 4)) 28)) := by
  obtain ⟨i0, hi, hz0, hz1, hz2⟩ := info_parts sty_info
  have h := run_make (P := Try.prog) W 25 28 i0 _ Try.underlying25 hi hz0 .i64 .i64 (n : Int) (n : Int) (by omega) (by omega) (by rw [hz2]; omega) (by omega)
  rw [hz1] at h
  exact h

theorem made_paint (n : Nat) (W : World) : (W.alloc (.cells (madeCells #[.int .i64 0, .bool false, .bool false, .bool false] (n * 4)) 28)).rowIs W.heap.size 28 (n * 4) (paint (tone []) (fun _ => false)) := by
  have h := World.rowIs_alloc W (madeCells #[.int .i64 0, .bool false, .bool false, .bool false] (n * 4)) 28 (paint (tone []) (fun _ => false)) ?_
  · rw [size_madeCells] at h; exact h
  · intro i hi
    rw [size_madeCells] at hi
    have h4 : i % 4 = 0 ∨ i % 4 = 1 ∨ i % 4 = 2 ∨ i % 4 = 3 := by omega
    rcases h4 with h4 | h4 | h4 | h4 <;> simp [madeCells, hi, h4, paint, tone] <;> rfl

theorem paint_at {T T' : Int → Int} {V : Int → Bool} {j : Nat} (h : T (j / 4 : Nat) = T' (j / 4 : Nat)) : paint T V j = paint T' V j := by
  unfold paint; rw [h]

theorem tone_step {l : List Tok} {m : Nat} {t : Tok} (h : l[m]? = some t) (i : Int) : tone (l.take (m + 1)) i = if t.lo ≤ i ∧ i < t.hi then t.kind else tone (l.take m) i := by
  have : l.take (m + 1) = l.take m ++ [t] := by
    rw [List.take_add_one, h]; rfl
  rw [this, tone_snoc]

/-- A place is painted: its four cells are stored. -/
theorem paint_step {w : World} {g N x : Nat} {k : Int} {T T' : Int → Int} {V : Int → Bool} (h : w.rowIs g 28 N (paint T V)) (v3 : Bool) (hv : v3 = V x)
    (hT : ∀ i : Nat, i * 4 < N → T' i = if i = x then k else T i) :
    ((((w.setCell ⟨g, x * 4, none⟩ (.int .i64 (fgOf k))).setCell ⟨g, x * 4 + 1, none⟩ (.bool (boldOf k))).setCell ⟨g, x * 4 + 2, none⟩ (.bool (underOf k))).setCell ⟨g, x * 4 + 3, none⟩ (.bool v3)).rowIs g 28 N (paint T' V) := by
  refine ((((h.set _ _).set _ _).set _ _).set _ _).congr fun j hj => ?_
  have hq := hT (j / 4) (by omega)
  subst hv
  by_cases e : j / 4 = x
  · rw [if_pos e] at hq
    have h4 : j = x * 4 ∨ j = x * 4 + 1 ∨ j = x * 4 + 2 ∨ j = x * 4 + 3 := by omega
    rcases h4 with rfl | rfl | rfl | rfl
    · rw [if_neg (by omega), if_neg (by omega), if_neg (by omega), if_pos rfl]; unfold paint; rw [if_pos (by omega), hq]
    · rw [if_neg (by omega), if_neg (by omega), if_pos rfl]; unfold paint; rw [if_neg (by omega), if_pos (by omega), hq]
    · rw [if_neg (by omega), if_pos rfl]; unfold paint; rw [if_neg (by omega), if_neg (by omega), if_pos (by omega), hq]
    · rw [if_pos rfl]; unfold paint; rw [if_neg (by omega), if_neg (by omega), if_neg (by omega), e]
  · rw [if_neg e] at hq
    rw [if_neg (by omega), if_neg (by omega), if_neg (by omega), if_neg (by omega)]
    exact paint_at hq.symm

theorem meet {a x n i : Nat} {lo hi kd r : Int} (ha1 : lo ≤ a) (ha : lo = a ∨ a = 0) (hin : i < n) (_hax : a ≤ x) (hst : hi ≤ (x : Int) ∨ (n : Int) ≤ x) (hx : x = a ∨ x ≤ n ∧ (x : Int) ≤ hi) :
    (if (a : Int) ≤ (i : Int) ∧ (i : Int) < (x : Int) then kd else r) = (if lo ≤ (i : Int) ∧ (i : Int) < hi then kd else r) := by
  by_cases e : lo ≤ (i : Int) ∧ (i : Int) < hi
  · rw [if_pos e, if_pos (by omega)]
  · rw [if_neg e, if_neg (by omega)]

theorem paint_mark {T : Int → Int} {V V' : Int → Bool} {j : Nat} (h : V (j / 4 : Nat) = V' (j / 4 : Nat)) : paint T V j = paint T V' j := by
  unfold paint; rw [h]

/-- A place is marked. -/
theorem mark_step {w : World} {g N z : Nat} {T : Int → Int} {V V' : Int → Bool} (h : w.rowIs g 28 N (paint T V)) (hV : ∀ i : Nat, i * 4 < N → V' i = if i = z then true else V i) :
    (w.setCell ⟨g, z * 4 + 3, none⟩ (.bool true)).rowIs g 28 N (paint T V') := by
  refine (h.set _ _).congr fun j hj => ?_
  have hq := hV (j / 4) (by omega)
  by_cases e : j = z * 4 + 3
  · rw [if_pos e]
    rw [if_pos (by omega)] at hq
    unfold paint; rw [if_neg (by omega), if_neg (by omega), if_neg (by omega), hq]
  · rw [if_neg e]
    by_cases e3 : j % 4 = 3
    · rw [if_neg (by omega)] at hq
      unfold paint; rw [if_neg (by omega), if_neg (by omega), if_neg (by omega), if_neg (by omega), if_neg (by omega), if_neg (by omega), hq]
    · have h4 : j % 4 = 0 ∨ j % 4 = 1 ∨ j % 4 = 2 := by omega
      rcases h4 with h4 | h4 | h4 <;> simp [paint, h4]

theorem take_mem {l : List Int} {q : Nat} {x : Int} (h : l[q]? = some x) (i : Int) : decide (i ∈ l.take (q + 1)) = if i = x then true else decide (i ∈ l.take q) := by
  have : l.take (q + 1) = l.take q ++ [x] := by
    rw [List.take_add_one, h]; rfl
  rw [this]
  by_cases e : i = x <;> simp [e]

set_option maxHeartbeats 400000 in
theorem all_any (s : ByteArray) (A Ap : Option Addr) (l : List Tok) (c : Nat) (pr : List Int) (cp : Nat) (w : World)
    (hs : s.size ≤ 1000) (hl : l.length ≤ 1000) (hp : pr.length ≤ 1000) (hA : Toks w A l) (hP : Nums w Ap pr) :
    Calls Try.prog 6 #[.string s, .slice A l.length c, .slice Ap pr.length cp] w fun e w' => ∃ g, e = .returned (.slice (some ⟨g, 0, none⟩) s.size s.size) ∧ Below w.heap.size w w' ∧
      w'.rowIs g 28 (s.size * 4) (paint (tone l) (fun i => decide (i ∈ pr))) := by
  have hmk := make_sty s.size hs
  go_enter Try.func6, Try.ntmps6
  go_wp2
  go_loopg [18] l.length (fun k i wr => ∃ m : Nat, m ≤ l.length ∧ k = l.length - m ∧ i = .int .i64 m ∧ Below w.heap.size w wr ∧ w.heap.size < wr.heap.size ∧ wr.rowIs w.heap.size 28 (s.size * 4) (paint (tone (l.take m)) (fun _ => false)))
  case atStart => exact ⟨0, by omega, by omega, rfl, (Below.refl _ _).alloc (Nat.le_refl _) _, by simp, made_paint _ _⟩
  case round =>
    obtain ⟨m, hm, hk, rfl, hb, hz, hrow⟩ := hrel
    have Hk := Lib.hid hk
    clear hk
    by_cases hlt : m < l.length
    · obtain ⟨b, off, rfl, hbs, hcells⟩ := hA (by omega)
      obtain ⟨t, ht⟩ : ∃ t, l[m]? = some t := ⟨l[m], List.getElem?_eq_getElem hlt⟩
      obtain ⟨c0, c1, c2⟩ := hcells m t ht
      have d0 := (hb.cell (p := ⟨b, off + m * 3, none⟩) hbs).trans c0
      have d1 := (hb.cell (p := ⟨b, off + m * 3 + 1, none⟩) hbs).trans c1
      have d2 := (hb.cell (p := ⟨b, off + m * 3 + 2, none⟩) hbs).trans c2
      have HT := Lib.hid ht
      clear ht c0 c1 c2 hcells
      obtain ⟨kd, lo, hi⟩ := t
      obtain ⟨a, ha, ha1, ha2⟩ : ∃ a : Nat, (0 ≤ lo ∧ lo = (a : Int) ∨ lo < 0 ∧ Hid (a = 0)) ∧ lo ≤ a ∧ 0 ≤ a := by
        by_cases h0 : 0 ≤ lo
        · exact ⟨lo.toNat, by omega, by omega, by omega⟩
        · exact ⟨0, .inr ⟨by omega, rfl⟩, by omega, by omega⟩
      dsimp only at d0 d1 d2
      by_cases hmin : hi ≤ (s.size : Int)
      all_goals
        rcases ha with ⟨h0, rfl⟩ | ⟨h0, ha0⟩
        all_goals
          go_wp2
          obtain ⟨wo, rfl⟩ : ∃ wo : World, wo = wr := ⟨_, rfl⟩
          go_loopg [10] (s.size - a) (fun k i wr' => ∃ x : Nat, a ≤ x ∧ (x = a ∨ x ≤ s.size ∧ (x : Int) ≤ hi) ∧ k = s.size - x ∧ i = .int .i64 x ∧ Below w.heap.size w wr' ∧ wo.heap.size < wr'.heap.size ∧
            wr'.cell? ⟨wo.heap.size, 0, none⟩ = some (.int .i64 kd) ∧ wr'.cell? ⟨wo.heap.size, 2, none⟩ = some (.int .i64 hi) ∧
            wr'.rowIs w.heap.size 28 (s.size * 4) (paint (fun i => if (a : Int) ≤ i ∧ i < (x : Int) then kd else tone (l.take m) i) (fun _ => false)))
          case atStart =>
            refine ⟨a, by omega, .inl rfl, rfl, ?_, (hb.alloc (by omega) _), by simp, ?_, ?_, ?_⟩
            · first | go_num | (rw [ha0.out]; go_num)
            · simp
            · simp
            · refine World.rowIs.alloc ?_ _
              refine hrow.congr fun i _ => ?_
              exact paint_at (by rw [if_neg (by omega)])
          case round =>
            obtain ⟨x, hax, hx, hk2, rfl, hb2, hz2, e0, e2, hrow2⟩ := hrel
            have Hk2 := Lib.hid hk2
            clear hk2
            by_cases hx1 : (x : Int) < hi ∧ x < s.size
            · obtain ⟨hx2, hx3⟩ := hx1
              go_wp2_with fail
              refine (of_call _ _).mono ?_
              rintro e w1 ⟨rfl, hb1⟩
              have hrow1 := hrow2.of_block (hb1.block _ (by omega))
              have q0 := hrow1.cell (i := x * 4) (by omega)
              have q1 := hrow1.cell (i := x * 4 + 1) (by omega)
              have q2 := hrow1.cell (i := x * 4 + 2) (by omega)
              have q3 := hrow1.cell (i := x * 4 + 3) (by omega)
              have f0 := hrow1.frozen (x * 4)
              have f1 := hrow1.frozen (x * 4 + 1)
              have f2 := hrow1.frozen (x * 4 + 2)
              have f3 := hrow1.frozen (x * 4 + 3)
              go_wp2_with fail
              go_roundg (s.size - (x + 1))
              case measure => have := Hk2.out; omega
              case rel =>
                refine ⟨x + 1, by omega, .inr ⟨by omega, by omega⟩, rfl, by go_num, ?_, ?_, ?_, ?_, ?_⟩
                · exact ((((hb2.trans (hb1.mono (by omega))).setCell (by simp) _).setCell (by simp) _).setCell (by simp) _).setCell (by simp) _
                · have := hb1.size; simp [World.setCell]; omega
                · simp [World.cell?_setCell_other]; exact (hb1.cell (p := ⟨_, _, _⟩) hz2).trans e0
                · simp [World.cell?_setCell_other]; exact (hb1.cell (p := ⟨_, _, _⟩) hz2).trans e2
                · refine paint_step hrow1 _ rfl fun i _ => ?_
                  by_cases e : i = x
                  · rw [if_pos (by omega), if_pos e]
                  · rw [if_neg e]
                    by_cases e2 : (a : Int) ≤ i ∧ (i : Int) < x
                    · rw [if_pos (by omega), if_pos e2]
                    · rw [if_neg (by omega), if_neg e2]
            · have hst : (hi ≤ (x : Int) ∨ (s.size : Int) ≤ x) := by omega
              have Hst := Lib.hid hst
              first
                | (have hq : hi ≤ (x : Int) := by omega
                   clear hst hx1
                   go_wp2)
                | (have hq : (s.size : Int) ≤ x := by omega
                   clear hst hx1
                   go_wp2)
              go_roundg (l.length - (m + 1))
              case measure => have := Hk.out; omega
              case rel =>
                refine ⟨m + 1, by omega, rfl, by go_num, hb2, by omega, ?_⟩
                refine hrow2.congr fun i hi4 => paint_at ?_
                rw [tone_step HT.out]
                exact meet (n := s.size) ha1 (by first | exact .inl rfl | exact .inr ha0.out) (by omega) hax Hst.out hx
    · have hge : l.length ≤ m := by omega
      go_wp2
      have htl : tone (l.take m) = tone l := by rw [List.take_of_length_le (by omega)]
      rw [htl] at hrow
      clear htl
      go_loopg [43] pr.length (fun k i wr => ∃ q : Nat, q ≤ pr.length ∧ k = pr.length - q ∧ i = .int .i64 q ∧ Below w.heap.size w wr ∧ w.heap.size < wr.heap.size ∧ wr.rowIs w.heap.size 28 (s.size * 4) (paint (tone l) (fun i => decide (i ∈ pr.take q))))
      case atStart => exact ⟨0, by omega, rfl, rfl, hb, hz, by simpa using hrow⟩
      case round =>
        clear hb hz hrow Hk hge hm hA hmk
        obtain ⟨q, hq, hk, rfl, hb, hz, hrow⟩ := hrel
        have Hk := Lib.hid hk
        clear hk
        by_cases hlt : q < pr.length
        · obtain ⟨b, off, rfl, hbs, hcells⟩ := hP (by omega)
          obtain ⟨t, ht⟩ : ∃ t, pr[q]? = some t := ⟨pr[q], List.getElem?_eq_getElem hlt⟩
          have d0 := (hb.cell (p := ⟨b, off + q, none⟩) hbs).trans (hcells q t ht)
          have HT := Lib.hid ht
          clear ht hcells
          by_cases h0 : 0 ≤ t
          · obtain ⟨z, rfl⟩ := Int.eq_ofNat_of_zero_le h0
            by_cases h1 : z < s.size
            · have q3 := hrow.cell (i := z * 4 + 3) (by omega)
              have f3 := hrow.frozen (z * 4 + 3)
              go_wp2
              go_roundg (pr.length - (q + 1))
              case measure => have := Hk.out; omega
              case rel =>
                refine ⟨q + 1, by omega, rfl, by go_num, ?_, ?_, ?_⟩
                · exact hb.setCell (by simp) _
                · simp [World.setCell]; omega
                · refine mark_step hrow fun i _ => ?_
                  rw [take_mem HT.out]
                  by_cases e : i = z
                  · rw [if_pos (by omega), if_pos e]
                  · rw [if_neg (by omega), if_neg e]
            · go_wp2
              go_roundg (pr.length - (q + 1))
              case measure => have := Hk.out; omega
              case rel =>
                refine ⟨q + 1, by omega, rfl, by go_num, hb, hz, ?_⟩
                refine hrow.congr fun i hi => paint_mark ?_
                rw [take_mem HT.out, if_neg (by omega)]
          · go_wp2
            go_roundg (pr.length - (q + 1))
            case measure => have := Hk.out; omega
            case rel =>
              refine ⟨q + 1, by omega, rfl, by go_num, hb, hz, ?_⟩
              refine hrow.congr fun i hi => paint_mark ?_
              rw [take_mem HT.out, if_neg (by omega)]
        · have hge : pr.length ≤ q := by omega
          go_wp2
          go_ret
          exact ⟨_, rfl, hb, by rw [List.take_of_length_le hge] at hrow; exact hrow⟩

end Go.Proofs.Ytidkaekibemagaa
