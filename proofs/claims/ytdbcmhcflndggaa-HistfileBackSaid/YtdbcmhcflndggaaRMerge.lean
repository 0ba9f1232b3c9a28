/- The contract of the reference's Merge, and of filed. -/
import Derived.Test.YtdbcmhcflndggaaMerge
namespace Go.Proofs.Ytdbcmhcflndggaa
open Go.RowKit

theorem own_next {w w1 : World} {base : Nat} {e : TypeId} {size n : Nat} {v : Value} {xs : List Value} (h : w.ownsRow base e size v n xs) (hb : Below w.heap.size w w1) : w1.ownsRow base e size v n xs :=
  h.kept (row := none) ⟨hb.os, hb.tape, hb.output, hb.size, fun k hk _ => hb.block k hk⟩ (by cases hv : v.ownBlock <;> simp)

set_option maxHeartbeats 4000000 in
set_option maxRecDepth 100000 in
theorem rmerge_any (A : Option Addr) (base : List ByteArray) (c : Nat) (A1 : Option Addr) (a : List ByteArray) (c1 : Nat) (A2 : Option Addr) (b : List ByteArray) (c2 : Nat) (w : World)
    (hm : base.length ≤ 1000) (hm1 : a.length ≤ 1000) (hm2 : b.length ≤ 1000) (hc1 : a.length ≤ c1) (hc2 : b.length ≤ c2)
    (hA : Strs w w.heap.size A base) (hA1 : Strs w w.heap.size A1 a) (hA2 : Strs w w.heap.size A2 b) :
    Calls Try.prog 15 #[.slice A base.length c, .slice A1 a.length c1, .slice A2 b.length c2] w fun e w' => ∃ v, e = .returned v ∧ StrsV w' v (mergeF base a b) ∧ Below w.heap.size w w' := by
  have l1 := behind_len base a
  have l2 := behind_len base b
  go_enter Try.func15, Try.ntmps15
  go_wp2_with (at_builtin; refine wpList_append_strs rfl _ _ rfl w.heap.size _ [] rfl (World.ownsRow_nil _ _ _ _) _ _ _ base rfl hA (by simp; omega) (Nat.le_refl _) ?_)
  intro v1 w1 hrow1 hg1
  have hb1 : Below w.heap.size w w1 := (Below.refl _ w).grown hg1 (Nat.le_refl _) (fun k hk => by simp [Value.ownBlock] at hk)
  have hA' := hA.next hb1
  have hA1' := hA1.next hb1
  have hA2' := hA2.next hb1
  clear hg1
  go_wp2_with fail
  refine (rbehind_any A base c A1 a c1 w1 hm hm1 hc1 hA' hA1').mono ?_
  rintro e w2 ⟨v2, rfl, ⟨B2, d2, rfl, hd2, hB2⟩, hb2⟩
  have hrow2 := own_next hrow1 hb2
  have hbb2 := hb1.trans (hb2.mono hb1.size)
  have hA'' := hA'.next hb2
  have hA2'' := hA2'.next hb2
  clear hb2
  go_wp2_with (at_builtin; refine wpList_append_strs rfl _ _ rfl w.heap.size _ base rfl hrow2 _ _ _ (behindF base a) rfl hB2 (by simp; omega) hbb2.size ?_)
  intro v3 w3 hrow3 hg3
  have hbb3 : Below w.heap.size w w3 := hbb2.grown hg3 hbb2.size (fun k hk => (hrow2.lt k hk).1)
  have hA3 := hA.next hbb3
  have hA23 := hA2.next hbb3
  clear hg3 hrow1 hrow2
  go_wp2_with fail
  refine (rbehind_any A base c A2 b c2 w3 hm hm2 hc2 hA3 hA23).mono ?_
  rintro e w4 ⟨v4, rfl, ⟨B4, d4, rfl, hd4, hB4⟩, hb4⟩
  have hrow4 : w4.ownsRow w.heap.size 9 1 v3 (base ++ behindF base a).length ((base ++ behindF base a).map .string) := by rw [List.length_append, List.map_append]; exact own_next hrow3 hb4
  have hbb4 := hbb3.trans (hb4.mono hbb3.size)
  clear hb4
  go_wp2_with (at_builtin; refine wpList_append_strs rfl _ _ rfl w.heap.size _ (base ++ behindF base a) rfl hrow4 _ _ _ (behindF base b) rfl hB4 (by simp; omega) hbb4.size ?_)
  intro v5 w5 hrow5 hg5
  have hbb5 : Below w.heap.size w w5 := hbb4.grown hg5 hbb4.size (fun k hk => (hrow4.lt k hk).1)
  have hrow5' : w5.ownsRow w.heap.size 9 1 v5 (base ++ behindF base a ++ behindF base b).length ((base ++ behindF base a ++ behindF base b).map .string) := by
    first | exact hrow5 | simpa [List.length_append, List.map_append] using hrow5
  obtain ⟨L, hL⟩ : ∃ L, base ++ behindF base a ++ behindF base b = L := ⟨_, rfl⟩
  have hLl : L.length ≤ 3000 := by rw [← hL]; simp; omega
  rw [hL] at hrow5'
  obtain ⟨B5, d5, rfl, hd5, hB5⟩ := strsV_own hrow5'
  have HL := Lib.hid hL
  clear hrow5 hrow5' hg5 hrow4 hrow3 hL hB4 hB2 hA hA' hA'' hA1 hA1' hA2 hA2' hA2'' hA3 hA23 hbb2 hbb3 hbb4 hb1 l1 l2 hd2 hd4 hd5
  go_wp2_with fail
  refine (ronce_any B5 L d5 w5 (by omega) hB5).mono ?_
  rintro e w6 ⟨v6, rfl, hrow6, hb6⟩
  obtain ⟨B6, d6, rfl, hd6, hB6⟩ := strsV_own hrow6
  have hbb6 := hbb5.trans (hb6.mono hbb5.size)
  have hol := once_len L
  obtain ⟨O, hO⟩ : ∃ O, onceF L = O := ⟨_, rfl⟩
  rw [hO] at hB6 hd6 hol ⊢
  have HO := Lib.hid hO
  clear hrow6 hO hb6 hbb5 hB5
  by_cases h : 100 < O.length
  · have hi : (100 : Int) < (O.length : Int) := by omega
    have hne : ¬ d6 = O.length - 100 := by omega
    have hk : ((O.length : Int) - 100).toNat = O.length - 100 := by omega
    have hk2 : ¬ d6 = ((O.length : Int) - 100).toNat := by omega
    obtain ⟨bb, off, rfl, _, _⟩ := hB6 (by omega)
    have HK := Lib.hid hk
    clear hk
    go_wp2_with fail
    go_ret
    refine ⟨_, rfl, ?_, hbb6⟩
    unfold mergeF
    rw [HL.out, HO.out]
    refine ⟨some ⟨bb, off + (O.length - 100), none⟩, d6 - (O.length - 100), ?_, by rw [last_length]; omega, ?_⟩
    · rw [last_length]
      first | rfl | (simp only [HK.out]; rfl)
    · have := strs_last hB6
      rw [Option.map_some, add_at] at this
      exact this
  · have hi : ¬ (100 : Int) < (O.length : Int) := by omega
    go_wp2_with fail
    go_ret
    refine ⟨_, rfl, ?_, hbb6⟩
    unfold mergeF
    rw [HL.out, HO.out]
    have : lastF O = O := by unfold lastF; rw [show O.length - 100 = 0 by omega, List.drop_zero]
    rw [this]
    exact ⟨_, _, rfl, hd6, hB6⟩
end Go.Proofs.Ytdbcmhcflndggaa
