/- The contract of limnerref17.All. -/
import Derived.Test.YtidkaekibemagaaAll
namespace Go.Proofs.Ytidkaekibemagaa
open Go.RowKit

theorem own_below {w w1 : World} {base : Nat} {e : TypeId} {size n : Nat} {v : Value} {xs : List Value} (h : w.ownsRow base e size v n xs) (hb : Below w.heap.size w w1) : w1.ownsRow base e size v n xs :=
  h.kept (row := none) ⟨hb.os, hb.tape, hb.output, hb.size, fun k hk _ => hb.block k hk⟩ (by cases hv : v.ownBlock <;> simp)

theorem own_far {w : World} {base : Nat} {e : TypeId} {size n : Nat} {v : Value} {xs : List Value} (h : w.ownsRow base e size v n xs) {p : Addr} (hp : ∀ k, v.ownBlock = some k → k < p.block) (u : Value) :
    (w.setCell p u).ownsRow base e size v n xs :=
  h.kept (row := some p.block) ⟨rfl, rfl, rfl, by simp [World.setCell], fun k _ hk => Below.heap_setCell _ _ _ _ (fun e => hk (by rw [e]))⟩ (by
    cases hv : v.ownBlock with
    | none => simp
    | some k => have := hp k hv; simp; omega)

def painted (T : Int → Int) (V : Int → Bool) (n : Nat) : List Value := (List.range (n * 4)).map (paint T V)

theorem painted_succ (T : Int → Int) (V : Int → Bool) (n : Nat) : painted T V (n + 1) = painted T V n ++ [.int .i64 (fgOf (T n)), .bool (boldOf (T n)), .bool (underOf (T n)), .bool (V n)] := by
  unfold painted
  rw [show (n + 1) * 4 = n * 4 + 1 + 1 + 1 + 1 by omega]
  simp only [List.range_succ, List.map_append, List.map_cons, List.map_nil, List.append_assoc, List.cons_append, List.nil_append]
  congr 1
  have e0 : n * 4 % 4 = 0 := by omega
  have e1 : (n * 4 + 1) % 4 = 1 := by omega
  have e2 : (n * 4 + 1 + 1) % 4 = 2 := by omega
  have e3 : (n * 4 + 1 + 1 + 1) % 4 = 3 := by omega
  have d0 : n * 4 / 4 = n := by omega
  have d1 : (n * 4 + 1) / 4 = n := by omega
  have d2 : (n * 4 + 1 + 1) / 4 = n := by omega
  have d3 : (n * 4 + 1 + 1 + 1) / 4 = n := by omega
  simp [paint, e0, e1, e2, e3, d0, d1, d2, d3]

/-- One place alone, in a block of four cells. -/
theorem one_step {w : World} {g : Nat} {k k' : Int} {V : Int → Bool} (h : w.rowIs g 28 4 (paint (fun _ => k) V)) (v3 : Bool) (hv : v3 = V 0) :
    ((((w.setCell ⟨g, 0, none⟩ (.int .i64 (fgOf k'))).setCell ⟨g, 1, none⟩ (.bool (boldOf k'))).setCell ⟨g, 2, none⟩ (.bool (underOf k'))).setCell ⟨g, 3, none⟩ (.bool v3)).rowIs g 28 4 (paint (fun _ => k') V) := by
  have := paint_step (x := 0) (k := k') (T' := fun _ => k') h v3 (by simpa using hv) (fun i hi => by rw [if_pos (by omega)])
  simpa using this

theorem one_mark {w : World} {g : Nat} {T : Int → Int} {V : Int → Bool} (h : w.rowIs g 28 4 (paint T V)) : (w.setCell ⟨g, 3, none⟩ (.bool true)).rowIs g 28 4 (paint T (fun _ => true)) := by
  have := mark_step (z := 0) (V' := fun _ => true) h (fun i hi => by rw [if_pos (by omega)])
  simpa using this

theorem new_cells (W : World) (cs : Array Value) (e : TypeId) : ∀ (j : Nat) (u : Value), cs.toList[j]? = some u → (W.alloc (.cells cs e)).cell? ((⟨W.heap.size, 0, none⟩ : Addr).add j) = some u := by
  intro j u hu
  have hadd : (⟨W.heap.size, 0, none⟩ : Addr).add j = ⟨W.heap.size, j, none⟩ := by unfold Addr.add; split <;> simp_all
  rw [hadd, cell_of_row _ _ j cs e (0, 0) (heap_alloc_new W _)]
  simpa using hu

set_option maxHeartbeats 400000 in
theorem ref_any (s : ByteArray) (A Ap : Option Addr) (l : List Tok) (c : Nat) (pr : List Int) (cp : Nat) (w : World)
    (hs : s.size ≤ 1000) (hl : l.length ≤ 1000) (hp : pr.length ≤ 1000) (hA : Toks w A l) (hP : Nums w Ap pr) :
    Calls Try.prog 7 #[.string s, .slice A l.length c, .slice Ap pr.length cp] w fun e w' => ∃ v, e = .returned v ∧ Below w.heap.size w w' ∧
      w'.ownsRow w.heap.size 28 4 v s.size (painted (tone l) (fun i => decide (i ∈ pr)) s.size) := by
  obtain ⟨i0, hi, hz0, hz1, hz2⟩ := info_parts sty_info
  go_enter Try.func7, Try.ntmps7
  go_wp2
  go_loopg [8, 7] s.size (fun k i v wr => ∃ m : Nat, m ≤ s.size ∧ k = s.size - m ∧ i = .int .i64 m ∧ Below w.heap.size w wr ∧ wr.ownsRow w.heap.size 28 4 v m (painted (tone l) (fun i => decide (i ∈ pr)) m))
  case atStart => exact ⟨0, by omega, by omega, rfl, Below.refl _ _, World.ownsRow_nil _ _ _ _⟩
  case round =>
    obtain ⟨m, hm, hk, rfl, hb, hown⟩ := hrel
    have Hk := Lib.hid hk
    clear hk
    by_cases hlt : m < s.size
    · go_wp2
      obtain ⟨wo, rfl⟩ : ∃ wo : World, wo = wr := ⟨_, rfl⟩
      have hub : ∀ k, u7.ownBlock = some k → k < wo.heap.size := fun k hk => (hown.lt k hk).2
      go_loopg [10] l.length (fun k i wr => ∃ q : Nat, q ≤ l.length ∧ k = l.length - q ∧ i = .int .i64 q ∧ Below w.heap.size w wr ∧ wo.heap.size < wr.heap.size ∧
        wr.ownsRow w.heap.size 28 4 u7 m (painted (tone l) (fun i => decide (i ∈ pr)) m) ∧ wr.rowIs wo.heap.size 28 4 (paint (fun _ => tone (l.take q) m) (fun _ => false)))
      case atStart =>
        refine ⟨0, by omega, by omega, rfl, hb.alloc hb.size _, by simp, hown.alloc _, World.rowIs_alloc _ _ _ _ ?_⟩
        intro i hi
        have h4 : i = 0 ∨ i = 1 ∨ i = 2 ∨ i = 3 := by simp at hi; omega
        rcases h4 with rfl | rfl | rfl | rfl <;> rfl
      case round =>
        have hw := hb.size
        clear hown hb hm
        obtain ⟨q, hq, hk, rfl, hb, hz, hown, hrow⟩ := hrel
        have Hk2 := Lib.hid hk
        clear hk
        by_cases hlq : q < l.length
        · obtain ⟨b, off, rfl, hbs, hcells⟩ := hA (by omega)
          obtain ⟨t, ht⟩ : ∃ t, l[q]? = some t := ⟨l[q], List.getElem?_eq_getElem hlq⟩
          obtain ⟨c0, c1, c2⟩ := hcells q t ht
          obtain ⟨kd, lo, hi'⟩ := t
          have d0 := (hb.cell (p := ⟨b, off + q * 3, none⟩) hbs).trans c0
          have d1 := (hb.cell (p := ⟨b, off + q * 3 + 1, none⟩) hbs).trans c1
          have d2 := (hb.cell (p := ⟨b, off + q * 3 + 2, none⟩) hbs).trans c2
          have HT := Lib.hid ht
          dsimp only at d0 d1 d2
          clear ht c0 c1 c2 hcells
          by_cases hin : lo ≤ (m : Int) ∧ (m : Int) < hi'
          · obtain ⟨h1, h2⟩ := hin
            go_wp2_with fail
            refine (rof_call _ _).mono ?_
            rintro e w1 ⟨rfl, hb1⟩
            have hrow1 := hrow.of_block (hb1.block _ hz)
            have q0 := hrow1.cell (i := 0) (by omega)
            have q1 := hrow1.cell (i := 1) (by omega)
            have q2 := hrow1.cell (i := 2) (by omega)
            have q3 := hrow1.cell (i := 3) (by omega)
            have f0 := hrow1.frozen 0
            have f1 := hrow1.frozen 1
            have f2 := hrow1.frozen 2
            have f3 := hrow1.frozen 3
            go_wp2_with fail
            go_roundg (l.length - (q + 1))
            case measure => have := Hk2.out; omega
            case rel =>
              have ho1 := own_below hown hb1
              refine ⟨q + 1, by omega, rfl, by go_num, ?_, ?_, ?_, ?_⟩
              · exact ((((hb.trans (hb1.mono (by omega))).setCell (by exact hw) _).setCell (by exact hw) _).setCell (by exact hw) _).setCell (by exact hw) _
              · have := hb1.size; simp [World.setCell]; omega
              · exact own_far (own_far (own_far (own_far ho1 hub _) hub _) hub _) hub _
              · refine (one_step (k' := kd) hrow1 _ rfl).congr fun i _ => paint_at ?_
                rw [tone_step HT.out, if_pos ⟨h1, h2⟩]
          · by_cases h1 : lo ≤ (m : Int)
            · have h2 : hi' ≤ (m : Int) := by omega
              clear hin
              go_wp2_with fail
              go_roundg (l.length - (q + 1))
              case measure => have := Hk2.out; omega
              case rel =>
                refine ⟨q + 1, by omega, rfl, by go_num, hb, hz, hown, hrow.congr fun i _ => paint_at ?_⟩
                rw [tone_step HT.out, if_neg (by dsimp only; omega)]
            · clear hin
              go_wp2_with fail
              go_roundg (l.length - (q + 1))
              case measure => have := Hk2.out; omega
              case rel =>
                refine ⟨q + 1, by omega, rfl, by go_num, hb, hz, hown, hrow.congr fun i _ => paint_at ?_⟩
                rw [tone_step HT.out, if_neg (by dsimp only; omega)]
        · have hge : l.length ≤ q := by omega
          go_wp2_with fail
          have htl : tone (l.take q) m = tone l m := by rw [List.take_of_length_le (by omega)]
          rw [htl] at hrow
          clear htl
          go_loopg [11] pr.length (fun k i wr => ∃ q : Nat, q ≤ pr.length ∧ k = pr.length - q ∧ i = .int .i64 q ∧ Below w.heap.size w wr ∧ wo.heap.size < wr.heap.size ∧
            wr.ownsRow w.heap.size 28 4 u7 m (painted (tone l) (fun i => decide (i ∈ pr)) m) ∧ wr.rowIs wo.heap.size 28 4 (paint (fun _ => tone l m) (fun _ => decide ((m : Int) ∈ pr.take q))))
          case atStart => exact ⟨0, by omega, rfl, rfl, hb, hz, hown, by simpa using hrow⟩
          case round =>
            clear hown hb hz hrow hq Hk2 hge hlq
            obtain ⟨q, hq, hk, rfl, hb, hz, hown, hrow⟩ := hrel
            have Hk2 := Lib.hid hk
            clear hk
            by_cases hlq : q < pr.length
            · obtain ⟨b, off, rfl, hbs, hcells⟩ := hP (by omega)
              obtain ⟨t, ht⟩ : ∃ t, pr[q]? = some t := ⟨pr[q], List.getElem?_eq_getElem hlq⟩
              have d0 := (hb.cell (p := ⟨b, off + q, none⟩) hbs).trans (hcells q t ht)
              have HT := Lib.hid ht
              clear ht hcells
              by_cases he : t = (m : Int)
              · have HE := Lib.hid he
                have he2 : (t == (m : Int)) = true := by simpa using he
                clear he
                have q3 := hrow.cell (i := 3) (by omega)
                have f3 := hrow.frozen 3
                go_wp2_with fail
                go_roundg (pr.length - (q + 1))
                case measure => have := Hk2.out; omega
                case rel =>
                  refine ⟨q + 1, by omega, rfl, by go_num, hb.setCell (by exact hw) _, by simp [World.setCell]; omega, own_far hown hub _, ?_⟩
                  refine (one_mark hrow).congr fun i _ => paint_mark ?_
                  rw [take_mem HT.out, if_pos HE.out.symm]
              · have he2 : (t == (m : Int)) = false := by simpa using he
                have HE := Lib.hid he
                clear he
                go_wp2_with fail
                go_roundg (pr.length - (q + 1))
                case measure => have := Hk2.out; omega
                case rel =>
                  refine ⟨q + 1, by omega, rfl, by go_num, hb, hz, hown, hrow.congr fun i _ => paint_mark ?_⟩
                  rw [take_mem HT.out, if_neg (fun e => HE.out e.symm)]
            · have hge : pr.length ≤ q := by omega
              have htl : decide ((m : Int) ∈ pr.take q) = decide ((m : Int) ∈ pr) := by rw [List.take_of_length_le (by omega)]
              rw [htl] at hrow
              clear htl
              have q0 := hrow.cell (i := 0) (by omega)
              have q1 := hrow.cell (i := 1) (by omega)
              have q2 := hrow.cell (i := 2) (by omega)
              have q3 := hrow.cell (i := 3) (by omega)
              have e0 : paint (fun _ => tone l m) (fun _ => decide ((m : Int) ∈ pr)) 0 = .int .i64 (fgOf (tone l m)) := rfl
              have e1 : paint (fun _ => tone l m) (fun _ => decide ((m : Int) ∈ pr)) 1 = .bool (boldOf (tone l m)) := rfl
              have e2 : paint (fun _ => tone l m) (fun _ => decide ((m : Int) ∈ pr)) 2 = .bool (underOf (tone l m)) := rfl
              have e3 : paint (fun _ => tone l m) (fun _ => decide ((m : Int) ∈ pr)) 3 = .bool (decide ((m : Int) ∈ pr)) := rfl
              rw [e0] at q0
              rw [e1] at q1
              rw [e2] at q2
              rw [e3] at q3
              clear e0 e1 e2 e3
              go_wp2_with (at_builtin; (refine wpList_append_own _ rfl _ _ 25 rfl w.heap.size 28 i0 _ 4 16 Try.underlying25 hi hz0 hz1 hz2 rfl (by decide) _ _ _ rfl (hown.alloc _) ⟨wr.heap.size, 0, none⟩ 1 1 [.int .i64 (fgOf (tone l m)), .bool (boldOf (tone l m)), .bool (underOf (tone l m)), .bool (decide ((m : Int) ∈ pr))] rfl rfl ?c1 ?c2 ?c3 ?c4 ?c5 ?_))
              case c1 => exact new_cells _ _ _
              case c2 => intro u hu; simp at hu; rcases hu with rfl | rfl | rfl | rfl <;> rfl
              case c3 => unfold maxLen; omega
              case c4 => omega
              case c5 => have := hb.size; simp; omega
              intro v' w1 hown' hgrow _
              go_wp2_with fail
              go_roundg (s.size - (m + 1))
              case measure => have := Hk.out; omega
              case rel =>
                refine ⟨m + 1, by omega, rfl, by go_num, ?_, ?_⟩
                · exact (hb.alloc hb.size _).grown hgrow (by have := hb.size; simp; omega) (fun k hk => (hown.lt k hk).1)
                · rw [painted_succ]; exact hown'
    · have hge : s.size ≤ m := by omega
      obtain rfl : m = s.size := by omega
      go_wp2
      go_ret
      exact ⟨_, rfl, hb, hown⟩

end Go.Proofs.Ytidkaekibemagaa
