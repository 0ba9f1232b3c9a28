/- The contracts of slices.Grow and slices.Concat at texts, and of the two Merges. -/
import Derived.Test.YtdbcmhcflndggaaOnce
import Derived.Lib.AppendZeros
import Derived.Laws.AppendOwnNone
namespace Go.Proofs.Ytdbcmhcflndggaa
open Go.RowKit

theorem add_at (b off k : Nat) : (⟨b, off, none⟩ : Addr).add k = ⟨b, off + k, none⟩ := by
  unfold Addr.add; split <;> simp_all

/-- Nothing is appended. -/
theorem run_append_nothing {w : World} {base : Nat} {i : TypeInfo} (ty : TypeId) (hi : Try.prog.info? 9 = some i) {v : Value} {n : Nat} {xs : List Value} (hown : w.ownsRow base 9 1 v n xs) (c : Nat) :
    (Builtin.append_ #[22, 22] ty #[v, .slice none 0 c]).run Try.prog w = .ok v w := by
  rcases hown.2 with ⟨rfl, rfl⟩ | ⟨g, cap, cur, rfl, _, _, hnc, _⟩
  · simp [Builtin.append_, run_underlying Try.underlying22, sizeOf, typeInfo, hi, Builtin.lenOf, Builtin.firstCells]
  · simp [Builtin.append_, run_underlying Try.underlying22, sizeOf, typeInfo, hi, Builtin.lenOf, Builtin.firstCells, hnc, storeCells]

/-- Texts are appended, from wherever they lie. -/
theorem wpList_append_strs {w : World} {ops : Array Oper} {rest : List Oper} {o : Oper} {a : Act} {Q : Exit → Act → World → Prop} (hgd : o.guard = none) (s x : Operand)
    (ho : o.op = .call { callee := .builtin .append, args := #[s, x], argTypes := #[22, 22] })
    (base : Nat) (v : Value) (out : List ByteArray) (hs : a.eval s = v) (hown : w.ownsRow base 9 1 v out.length (out.map .string))
    (B : Nat) (A : Option Addr) (c : Nat) (l : List ByteArray) (hx : a.eval x = .slice A l.length c) (hA : Strs w B A l) (hb : (out ++ l).length ≤ 1000000) (hbase : base ≤ w.heap.size)
    (h : ∀ v' w', w'.ownsRow base 9 1 v' (out ++ l).length ((out ++ l).map .string) → w.grownBy w' v.ownBlock → wpList Try.prog ops Q rest (a.put o.dst v') w') : wpList Try.prog ops Q (o :: rest) a w := by
  obtain ⟨i0, hi0, hz0, hz1, hz2⟩ := info_parts str_info
  rw [List.length_append] at hb
  rcases A with _ | ad
  · have hl : l = [] := by
      cases l with
      | nil => rfl
      | cons y r => obtain ⟨_, _, e, _⟩ := hA (by simp); cases e
    subst hl
    refine Lib.wpList_append_run w hgd s x 22 22 ho v (.slice none 0 c) hs hx v w (run_append_nothing o.type hi0 hown c) ?_
    exact h v w (by simpa using hown) (World.grownBy.refl w _)
  · refine wpList_append_own w hgd s x 22 ho base 9 i0 _ 1 16 Try.underlying22 hi0 hz0 hz1 hz2 rfl (by decide) v out.length _ hs hown ad l.length c (l.map .string) hx (by simp) ?_ ?_ (by unfold maxLen; omega) (by omega) hbase ?_
    · intro j u hu
      rw [List.getElem?_map] at hu
      obtain ⟨y, hy, rfl⟩ := Option.map_eq_some_iff.1 hu
      obtain ⟨b, off, e, _, hc⟩ := hA (by have := (List.getElem?_eq_some_iff.1 hy).1; omega)
      injection e with e
      subst e
      rw [add_at]
      exact hc j y hy
    · intro u hu
      obtain ⟨y, _, rfl⟩ := List.mem_map.1 hu
      rfl
    · intro v' w' h1 h2 _
      exact h v' w' (by rw [List.length_append, List.map_append]; exact h1) h2

set_option maxHeartbeats 4000000 in
set_option maxRecDepth 100000 in
theorem grow_nil (n : Nat) (w : World) (hn : n ≤ 100000) :
    Calls Try.prog 33 #[.slice none 0 0, .int .i64 n] w fun e w' => ∃ v, e = .returned v ∧ w'.ownsRow w.heap.size 9 1 v 0 [] ∧ Below w.heap.size w w' := by
  obtain ⟨i0, hi0, hz0, hz1, hz2⟩ := info_parts str_info
  rcases Nat.eq_zero_or_pos n with rfl | h0
  · go_enter Try.func33, Try.ntmps33
    go_wp2_with fail
    go_ret
    exact ⟨_, rfl, World.ownsRow_nil _ _ _ _, Below.refl _ _⟩
  · have hp : (0 : Int) < (n : Int) := by omega
    have hrun := fun ty => Lib.run_append_nil_zeros (P := Try.prog) w 22 3 ty 9 i0 _ .i64 .i64 Try.underlying22 Try.underlying3 hi0 hz0 n h0 (by omega) (by omega) (by rw [hz2]; omega)
    have hcap := grownCap_ge w n 0 9
    have hmax := grownCap_le_maxLen w n 0 9 (by unfold maxLen; omega)
    obtain ⟨cap, hc⟩ : ∃ cap, grownCap w n 0 9 = cap := ⟨_, rfl⟩
    rw [hc] at hrun hcap hmax
    obtain ⟨cells, hcl⟩ : ∃ cells : Array Value, Builtin.zeroCells (Value.string ⟨#[]⟩).cells n ++ Builtin.zeroCells (Value.string ⟨#[]⟩).cells (cap - n) = cells := ⟨_, rfl⟩
    have hsz : cells.size = cap := by rw [← hcl, Array.size_append, size_zeroCells, size_zeroCells]; change n * 1 + (cap - n) * 1 = cap; omega
    rw [hcl] at hrun
    have HS := Lib.hid hsz
    have HM := Lib.hid hmax
    clear hcl hc hsz hmax hz0
    unfold maxLen at HM
    have hm := HM.out
    go_enter Try.func33, Try.ntmps33
    go_wp2_with (at_builtin; refine Lib.wpList_append_run _ rfl _ _ _ _ rfl _ _ rfl rfl _ _ (hrun _) ?_)
    go_ret
    exact ⟨_, rfl, ⟨rfl, .inr ⟨w.heap.size, cap, cells, rfl, Nat.le_refl _, heap_alloc_new w _, Nat.zero_le _, by unfold maxLen; exact HM.out, by rw [HS.out, Nat.mul_one], by simp⟩⟩, ((Below.refl _ w).alloc (Nat.le_refl _) _).drew⟩

def flatF (ps : List (Value × List ByteArray)) : List ByteArray := ps.flatMap (·.2)
theorem flat_snoc {ps : List (Value × List ByteArray)} {m : Nat} {y : Value × List ByteArray} (hy : ps[m]? = some y) : flatF (ps.take (m + 1)) = flatF (ps.take m) ++ y.2 := by
  rw [take_snoc_of hy]; simp [flatF]
theorem flat_le {ps : List (Value × List ByteArray)} (m : Nat) : (flatF (ps.take m)).length ≤ (flatF ps).length := by
  have h : flatF ps = flatF (ps.take m) ++ flatF (ps.drop m) := by
    unfold flatF
    rw [← List.flatMap_append, List.take_append_drop]
  rw [h, List.length_append]
  omega

set_option maxHeartbeats 4000000 in
set_option maxRecDepth 100000 in
theorem concat_any (b c : Nat) (ps : List (Value × List ByteArray)) (w : World) (hn : ps.length ≤ 10) (hf : (flatF ps).length ≤ 10000) (hb : b < w.heap.size)
    (hc : ∀ i y, ps[i]? = some y → w.cell? ⟨b, i, none⟩ = some y.1 ∧ StrsV w y.1 y.2) :
    Calls Try.prog 23 #[.slice (some ⟨b, 0, none⟩) ps.length c] w fun e w' => ∃ v, e = .returned v ∧ w'.ownsRow w.heap.size 9 1 v (flatF ps).length ((flatF ps).map .string) ∧ Below w.heap.size w w' := by
  have HC := Lib.hid hc
  clear hc
  go_enter Try.func23, Try.ntmps23
  go_wp2_with fail
  go_loopg [11, 3] ps.length (fun g i z wr => ∃ m : Nat, m ≤ ps.length ∧ g = ps.length - m ∧ i = .int .i64 m ∧ z = .int .i64 (flatF (ps.take m)).length ∧ w = wr)
  case atStart => exact ⟨0, by omega, by omega, rfl, rfl, rfl⟩
  case round =>
    obtain ⟨m, hm0, hg, rfl, rfl, rfl⟩ := hrel
    have Hg := Lib.hid hg
    clear hg
    have hle := flat_le (ps := ps) m
    by_cases hlt : m < ps.length
    · obtain ⟨y, hy⟩ : ∃ y, ps[m]? = some y := ⟨ps[m], List.getElem?_eq_getElem hlt⟩
      obtain ⟨c0, A, cc, hv, hcc, hA⟩ := HC.out m y hy
      obtain ⟨v, l⟩ := y
      simp only at c0 hv hcc hA
      subst hv
      have hsn := flat_snoc hy
      have hle2 := flat_le (ps := ps) (m + 1)
      rw [hsn, List.length_append] at hle2
      simp only at hle2
      have HS := Lib.hid hsn
      clear hsn hy
      have hnn : ¬ (((flatF (ps.take m)).length : Int) + (l.length : Int) < 0) := by omega
      go_wp2_with fail
      go_roundg (ps.length - (m + 1))
      case measure => have := Hg.out; omega
      case rel => exact ⟨m + 1, by omega, rfl, by go_num, by rw [HS.out, List.length_append]; go_num, rfl⟩
    · obtain rfl : m = ps.length := by omega
      clear Hg
      rw [List.take_length]
      go_wp2_with fail
      refine (grow_nil (flatF ps).length w (by omega)).mono ?_
      rintro e w1 ⟨v1, rfl, hrow1, hb1⟩
      go_wp2_with fail
      go_loopg [27, 6] ps.length (fun g i v wx => ∃ m : Nat, m ≤ ps.length ∧ g = ps.length - m ∧ i = .int .i64 m ∧ wx.ownsRow w.heap.size 9 1 v (flatF (ps.take m)).length ((flatF (ps.take m)).map .string) ∧ Below w.heap.size w wx)
      case atStart => exact ⟨0, by omega, by omega, rfl, hrow1, hb1⟩
      case round =>
        clear hrow1 hb1
        obtain ⟨m, hm0, hg, rfl, hrow, hbw⟩ := hrel
        have Hg := Lib.hid hg
        clear hg
        have hle := flat_le (ps := ps) m
        by_cases hlt : m < ps.length
        · obtain ⟨y, hy⟩ : ∃ y, ps[m]? = some y := ⟨ps[m], List.getElem?_eq_getElem hlt⟩
          obtain ⟨c0', A, cc, hv, hcc, hA⟩ := HC.out m y hy
          obtain ⟨v, l⟩ := y
          simp only at c0' hv hcc hA
          subst hv
          have c0 := (hbw.cell (p := ⟨b, m, none⟩) hb).trans c0'
          have hsn := flat_snoc hy
          have hle2 := flat_le (ps := ps) (m + 1)
          rw [hsn] at hle2
          simp only at hle2
          have hA1 := hA.next hbw
          have HS := Lib.hid hsn
          clear hsn hy c0' hA
          go_wp2_with (at_builtin; refine wpList_append_strs rfl _ _ rfl w.heap.size _ _ rfl hrow _ _ _ l rfl hA1 (by omega) hbw.size ?_)
          intro v' w2 hrow2 hgrow
          have R2 := hbw.grown hgrow hbw.size (fun k hk => (hrow.lt k hk).1)
          clear hgrow
          go_wp2_with fail
          go_roundg (ps.length - (m + 1))
          case measure => have := Hg.out; omega
          case rel => exact ⟨m + 1, by omega, rfl, by go_num, by rw [HS.out, List.length_append, List.map_append]; exact hrow2, R2⟩
        · obtain rfl : m = ps.length := by omega
          rw [List.take_length] at hrow
          go_wp2_with fail
          go_ret
          exact ⟨_, rfl, hrow, hbw⟩

theorem clone_any (A : Option Addr) (l : List ByteArray) (n c : Nat) (w : World) (hn : l.length = n) (hm : l.length ≤ 10000) (hA : Strs w w.heap.size A l) :
    Calls Try.prog 25 #[.slice A n c] w fun e w' => ∃ v, e = .returned v ∧ StrsV w' v l ∧ Below w.heap.size w w' := by
  subst hn
  rcases A with _ | ad
  · have hl : l = [] := by
      cases l with
      | nil => rfl
      | cons y r => obtain ⟨_, _, e, _⟩ := hA (by simp); cases e
    subst hl
    refine (Try.slices_Clone_string_nil 0 c w).mono ?_
    rintro e w' ⟨rfl, rfl⟩
    exact ⟨_, rfl, ⟨none, 0, rfl, Nat.le_refl _, fun h => absurd h (by simp)⟩, Below.refl _ _⟩
  · rcases Nat.eq_zero_or_pos l.length with h0 | h0
    · have hl : l = [] := List.eq_nil_of_length_eq_zero h0
      subst hl
      refine (Try.slices_Clone_string_zero ad c w).mono ?_
      rintro e w' ⟨v, rfl, hrow, _, hb⟩
      exact ⟨v, rfl, strsV_own (l := []) hrow, hb⟩
    · obtain ⟨b, off, e, _, hc⟩ := hA h0
      injection e with e
      subst e
      refine (Try.slices_Clone_string b off l.length c l w (Nat.le_refl _) (by omega) (fun j hj => hc j _ (getD_some hj))).mono ?_
      rintro e w' ⟨v, rfl, hrow, _, hb⟩
      rw [List.take_length] at hrow
      exact ⟨v, rfl, strsV_own hrow, hb⟩

theorem last_length (l : List ByteArray) : (lastF l).length = l.length - (l.length - 100) := by unfold lastF; rw [List.length_drop]
theorem strs_last {w : World} {B : Nat} {A : Option Addr} {l : List ByteArray} (h : Strs w B A l) : Strs w B (Option.map (fun x => x.add (l.length - 100)) A) (lastF l) := by
  rcases Nat.eq_zero_or_pos l.length with h0 | h0
  · have hl : l = [] := List.eq_nil_of_length_eq_zero h0
    subst hl
    exact fun h => absurd h (by simp [lastF])
  · obtain ⟨b, off, rfl, _, _⟩ := h h0
    have := strs_drop h (l.length - 100) (by omega)
    rw [Option.map_some, add_at]
    exact this

theorem onesizes {l : List ByteArray} {K : Nat} (h : ∀ x ∈ l, x.size ≤ K) : ∀ x ∈ onceF l, x.size ≤ K := fun x hx => h x ((mem_once l x).1 hx)
theorem behind_sub {base l : List ByteArray} {x : ByteArray} (h : x ∈ behindF base l) : x ∈ l := by
  unfold behindF at h
  split at h
  · exact List.mem_of_mem_drop h
  · exact h

set_option maxHeartbeats 4000000 in
set_option maxRecDepth 100000 in
theorem merge_any (A : Option Addr) (base : List ByteArray) (c : Nat) (A1 : Option Addr) (a : List ByteArray) (c1 : Nat) (A2 : Option Addr) (b : List ByteArray) (c2 : Nat) (w : World)
    (hm : base.length ≤ 1000) (hm1 : a.length ≤ 1000) (hm2 : b.length ≤ 1000) (hc : base.length ≤ c) (hc1 : a.length ≤ c1) (hc2 : b.length ≤ c2) (hcm1 : c1 ≤ maxLen) (hcm2 : c2 ≤ maxLen)
    (hs : ∀ x ∈ base, x.size ≤ 1000) (hs1 : ∀ x ∈ a, x.size ≤ 1000) (hs2 : ∀ x ∈ b, x.size ≤ 1000)
    (hA : Strs w w.heap.size A base) (hA1 : Strs w w.heap.size A1 a) (hA2 : Strs w w.heap.size A2 b) :
    Calls Try.prog 14 #[.slice A base.length c, .slice A1 a.length c1, .slice A2 b.length c2] w fun e w' => ∃ v, e = .returned v ∧ StrsV w' v (mergeF base a b) ∧ Below w.heap.size w w' := by
  have H1 := Lib.hid hs1
  have H2 := Lib.hid hs2
  have H0 := Lib.hid hs
  clear hs hs1 hs2
  go_enter Try.func14, Try.ntmps14
  go_wp2_with fail
  refine (behind_any A base c A1 a c1 w hm hm1 hc hc1 hcm1 hA hA1).mono ?_
  rintro e w1 ⟨v1, rfl, ⟨B1, d1, rfl, hd1, hB1⟩, hb1⟩
  have hA' := hA.next hb1
  have hA2' := hA2.next hb1
  go_wp2_with fail
  refine (behind_any A base c A2 b c2 w1 hm hm2 hc hc2 hcm2 hA' hA2').mono ?_
  rintro e w2 ⟨v2, rfl, ⟨B2, d2, rfl, hd2, hB2⟩, hb2⟩
  have hA'' := hA'.next hb2
  have hB1' := hB1.next hb2
  have hbb := hb1.trans (hb2.mono hb1.size)
  have l1 := behind_len base a
  have l2 := behind_len base b
  go_wp2_with fail
  obtain ⟨w3, hw3⟩ : ∃ w3, w3 = w2.alloc (.cells #[.slice A base.length c, .slice B1 (behindF base a).length d1, .slice B2 (behindF base b).length d2] 22) := ⟨_, rfl⟩
  have hal : Below w2.heap.size w2 w3 := by rw [hw3]; exact (Below.refl _ _).alloc (Nat.le_refl _) _
  have hcl : w3.heap[w2.heap.size]? = some (.cells #[.slice A base.length c, .slice B1 (behindF base a).length d1, .slice B2 (behindF base b).length d2] 22) := by rw [hw3]; exact heap_alloc_new w2 _
  rw [← hw3]
  refine (concat_any w2.heap.size _ [(.slice A base.length c, base), (.slice B1 (behindF base a).length d1, behindF base a), (.slice B2 (behindF base b).length d2, behindF base b)] w3 (by simp) ?_ (lt_of hcl) ?_).mono ?_
  · simp [flatF]; omega
  · intro i y hy
    have hcell := cell_of_row w3 _ i _ 22 (0, 0) hcl
    rcases i with _ | _ | _ | i
    · simp at hy; subst hy; exact ⟨hcell, _, _, rfl, hc, (hA''.next hal)⟩
    · simp at hy; subst hy; exact ⟨hcell, _, _, rfl, hd1, (hB1'.next hal)⟩
    · simp at hy; subst hy; exact ⟨hcell, _, _, rfl, hd2, (hB2.next hal)⟩
    · simp at hy
  rintro e w4 ⟨v4, rfl, hrow4, hb4⟩
  have hflat : flatF [(Value.slice A base.length c, base), (.slice B1 (behindF base a).length d1, behindF base a), (.slice B2 (behindF base b).length d2, behindF base b)] = base ++ behindF base a ++ behindF base b := by simp [flatF]
  rw [hflat] at hrow4
  obtain ⟨B4, d4, rfl, hd4, hB4⟩ := strsV_own hrow4
  have hbb4 : Below w.heap.size w w4 := (hbb.trans (hal.mono hbb.size)).trans (hb4.mono (by have := hbb.size; have := hal.size; omega))
  obtain ⟨L, hL⟩ : ∃ L, base ++ behindF base a ++ behindF base b = L := ⟨_, rfl⟩
  have hLl : L.length ≤ 3000 := by rw [← hL]; simp; omega
  have hLs : ∀ x ∈ L, x.size ≤ 1000 := by
    intro x hx
    rw [← hL, List.mem_append, List.mem_append] at hx
    rcases hx with (h | h) | h
    · exact H0.out x h
    · exact H1.out x (behind_sub h)
    · exact H2.out x (behind_sub h)
  rw [hL] at hB4 hd4 ⊢
  have HL := Lib.hid hL
  have HLS := Lib.hid hLs
  clear hrow4 hflat hcl hal hb4 hb2 hb1 hL hLs hw3 hB1 hB2 hB1' hA hA' hA'' hA1 hA2 hA2' hd1 hd2 l1 l2
  go_wp2_with fail
  refine (once_any B4 L d4 w4 (by omega) HLS.out hB4).mono ?_
  rintro e w5 ⟨v5, rfl, hrow5, hb5⟩
  obtain ⟨B5, d5, rfl, hd5, hB5⟩ := strsV_own hrow5
  have hbb5 := hbb4.trans (hb5.mono hbb4.size)
  have hol := once_len L
  obtain ⟨O, hO⟩ : ∃ O, onceF L = O := ⟨_, rfl⟩
  rw [hO] at hB5 hd5 hol ⊢
  have HO := Lib.hid hO
  clear hrow5 hO hB4 hd4 hb5 hbb4
  have hk : (max 0 ((O.length : Int) - 100)).toNat = O.length - 100 := by omega
  have HK := Lib.hid hk
  clear hk
  go_wp2_with fail
  · rw [HK.out] at h ⊢
    have h0 : O = [] := List.eq_nil_of_length_eq_zero (by omega)
    refine (clone_any _ (lastF O) _ _ w5 (last_length O) (by have := last_len O; omega) (by rw [h0]; exact fun h => absurd h (by simp [lastF]))).mono ?_
    rintro e w6 ⟨v6, rfl, hv6, hb6⟩
    go_wp2_with fail
    go_ret
    refine ⟨_, rfl, ?_, hbb5.trans (hb6.mono hbb5.size)⟩
    unfold mergeF
    rw [HL.out, HO.out]
    exact hv6
  · rw [HK.out]
    refine (clone_any _ (lastF O) _ _ w5 (last_length O) (by have := last_len O; omega) (strs_last hB5)).mono ?_
    rintro e w6 ⟨v6, rfl, hv6, hb6⟩
    go_wp2_with fail
    go_ret
    refine ⟨_, rfl, ?_, hbb5.trans (hb6.mono hbb5.size)⟩
    unfold mergeF
    rw [HL.out, HO.out]
    exact hv6
end Go.Proofs.Ytdbcmhcflndggaa
