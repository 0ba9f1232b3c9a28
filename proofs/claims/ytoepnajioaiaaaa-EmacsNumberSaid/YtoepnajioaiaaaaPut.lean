/- The contracts of codes.Put and limnerref01.Put: a rune's bytes. -/
import Derived.Test.YtoepnajioaiaaaaFind
namespace Go.Proofs.Ytoepnajioaiaaaa
open Go.RowKit

/-- Is a number a rune? -/
def isRune (r : Int) : Bool := decide (0 ≤ r ∧ r < 55296) || decide (57343 < r ∧ r ≤ 1114111)
/-- A rune's bytes; of what is none: none. -/
def putF (r : Int) : ByteArray := if isRune r then Utf8.encode r else ⟨#[]⟩

set_option maxHeartbeats 4000000 in
theorem put_any (r : Int) (w : World) : Calls Try.prog 17 #[.int .i32 r] w fun e w' => e = .returned (.string (putF r)) ∧ w = w' := by
  have h5 : (0 ≤ r ∧ r < 55296) ∨ (57343 < r ∧ r ≤ 1114111) ∨ r < 0 ∨ (55296 ≤ r ∧ r ≤ 57343) ∨ 1114111 < r := by omega
  rcases h5 with ⟨h0, h1⟩ | ⟨h0, h1⟩ | h0 | ⟨h0, h1⟩ | h0
  all_goals
    have hp : putF r = putF r := rfl
    conv at hp => rhs; unfold putF isRune
    simp only [decide_eq_true_eq, Bool.or_eq_true] at hp
    first
      | rw [if_pos (by omega)] at hp
      | rw [if_neg (by omega)] at hp
    have Hp := Lib.hid hp
    clear hp
    go_enter Try.func17, Try.ntmps17
    go_wp2
    go_ret
    rw [Hp.out]
    exact ⟨rfl, rfl⟩

theorem conv_cells (l : List UInt8) (W : World) : (convert 22 9 (.slice (some ⟨W.heap.size, 0, none⟩) l.length l.length)).run Try.prog (W.alloc (.cells (l.map fun b => Value.int .u8 b.toNat).toArray 5)) =
    .ok (.string ⟨l.toArray⟩) (W.alloc (.cells (l.map fun b => Value.int .u8 b.toNat).toArray 5)) := by
  refine run_convert_bytes_back _ 22 9 5 ⟨W.heap.size, 0, none⟩ l.length l Try.underlying22 Try.underlying5 Try.underlying9 ?_
  intro j hj
  have hadd : (⟨W.heap.size, 0, none⟩ : Addr).add j = ⟨W.heap.size, j, none⟩ := by unfold Addr.add; split <;> simp_all
  rw [hadd, cell_of_row _ _ j _ 5 (0, 0) (heap_alloc_new W _)]
  simp [hj]

theorem u8_nat (x : Int) (h0 : 0 ≤ x) (h1 : x < 256) : ((UInt8.ofNat x.toNat).toNat : Int) = x := by
  rw [UInt8.toNat_ofNat']; omega

/-- A rune's bytes by its size. -/
theorem enc1 (r : Int) (h0 : 0 ≤ r) (h1 : r < 128) : putF r = ⟨#[UInt8.ofNat r.toNat]⟩ := by
  unfold putF isRune Utf8.encode Utf8.valid
  rw [if_pos (by simp; omega)]
  have hv : (decide (0 ≤ r) && decide (r < 55296) || decide (57344 ≤ r) && decide (r ≤ 1114111)) = true := by simp; omega
  simp only [hv, if_true]
  rw [if_pos (by omega)]
theorem enc2 (r : Int) (h0 : 128 ≤ r) (h1 : r < 2048) : putF r = ⟨#[UInt8.ofNat (192 + r / 64).toNat, UInt8.ofNat (128 + r % 64).toNat]⟩ := by
  unfold putF isRune Utf8.encode Utf8.valid
  rw [if_pos (by simp; omega)]
  have hv : (decide (0 ≤ r) && decide (r < 55296) || decide (57344 ≤ r) && decide (r ≤ 1114111)) = true := by simp; omega
  simp only [hv, if_true]
  rw [if_neg (by omega), if_pos (by omega), show (192 + r / 64).toNat = 192 + r.toNat / 64 by omega, show (128 + r % 64).toNat = 128 + r.toNat % 64 by omega]
theorem enc3 (r : Int) (h0 : 2048 ≤ r) (h1 : r < 65536) (h2 : r < 55296 ∨ 57343 < r) : putF r = ⟨#[UInt8.ofNat (224 + r / 4096).toNat, UInt8.ofNat (128 + r / 64 % 64).toNat, UInt8.ofNat (128 + r % 64).toNat]⟩ := by
  unfold putF isRune Utf8.encode Utf8.valid
  rw [if_pos (by simp; omega)]
  have hv : (decide (0 ≤ r) && decide (r < 55296) || decide (57344 ≤ r) && decide (r ≤ 1114111)) = true := by simp; omega
  simp only [hv, if_true]
  rw [if_neg (by omega), if_neg (by omega), if_pos (by omega), show (224 + r / 4096).toNat = 224 + r.toNat / 4096 by omega, show (128 + r / 64 % 64).toNat = 128 + r.toNat / 64 % 64 by omega, show (128 + r % 64).toNat = 128 + r.toNat % 64 by omega]
theorem enc4 (r : Int) (h0 : 65536 ≤ r) (h1 : r ≤ 1114111) : putF r = ⟨#[UInt8.ofNat (240 + r / 262144).toNat, UInt8.ofNat (128 + r / 4096 % 64).toNat, UInt8.ofNat (128 + r / 64 % 64).toNat, UInt8.ofNat (128 + r % 64).toNat]⟩ := by
  unfold putF isRune Utf8.encode Utf8.valid
  rw [if_pos (by simp; omega)]
  have hv : (decide (0 ≤ r) && decide (r < 55296) || decide (57344 ≤ r) && decide (r ≤ 1114111)) = true := by simp; omega
  simp only [hv, if_true]
  rw [if_neg (by omega), if_neg (by omega), if_neg (by omega), show (240 + r / 262144).toNat = 240 + r.toNat / 262144 by omega, show (128 + r / 4096 % 64).toNat = 128 + r.toNat / 4096 % 64 by omega,
    show (128 + r / 64 % 64).toNat = 128 + r.toNat / 64 % 64 by omega, show (128 + r % 64).toNat = 128 + r.toNat % 64 by omega]
theorem enc0 (r : Int) (h : r < 0 ∨ (55296 ≤ r ∧ r ≤ 57343) ∨ 1114111 < r) : putF r = ⟨#[]⟩ := by
  unfold putF isRune
  rw [if_neg (by simp; omega)]

theorem cv1 (a : Int) (ha : 0 ≤ a ∧ a < 256) (W : World) : (convert 22 9 (.slice (some ⟨W.heap.size, 0, none⟩) 1 1)).run Try.prog (W.alloc (.cells #[.int .u8 a] 5)) = .ok (.string ⟨#[UInt8.ofNat a.toNat]⟩) (W.alloc (.cells #[.int .u8 a] 5)) := by
  have := conv_cells [UInt8.ofNat a.toNat] W
  simpa only [List.length_cons, List.length_nil, Nat.zero_add, Nat.reduceAdd, List.map_cons, List.map_nil, u8_nat a ha.1 ha.2] using this
theorem cv2 (a b : Int) (ha : 0 ≤ a ∧ a < 256) (hb : 0 ≤ b ∧ b < 256) (W : World) : (convert 22 9 (.slice (some ⟨W.heap.size, 0, none⟩) 2 2)).run Try.prog (W.alloc (.cells #[.int .u8 a, .int .u8 b] 5)) =
    .ok (.string ⟨#[UInt8.ofNat a.toNat, UInt8.ofNat b.toNat]⟩) (W.alloc (.cells #[.int .u8 a, .int .u8 b] 5)) := by
  have := conv_cells [UInt8.ofNat a.toNat, UInt8.ofNat b.toNat] W
  simpa only [List.length_cons, List.length_nil, Nat.zero_add, Nat.reduceAdd, List.map_cons, List.map_nil, u8_nat a ha.1 ha.2, u8_nat b hb.1 hb.2] using this
theorem cv3 (a b c : Int) (ha : 0 ≤ a ∧ a < 256) (hb : 0 ≤ b ∧ b < 256) (hc : 0 ≤ c ∧ c < 256) (W : World) : (convert 22 9 (.slice (some ⟨W.heap.size, 0, none⟩) 3 3)).run Try.prog (W.alloc (.cells #[.int .u8 a, .int .u8 b, .int .u8 c] 5)) =
    .ok (.string ⟨#[UInt8.ofNat a.toNat, UInt8.ofNat b.toNat, UInt8.ofNat c.toNat]⟩) (W.alloc (.cells #[.int .u8 a, .int .u8 b, .int .u8 c] 5)) := by
  have := conv_cells [UInt8.ofNat a.toNat, UInt8.ofNat b.toNat, UInt8.ofNat c.toNat] W
  simpa only [List.length_cons, List.length_nil, Nat.zero_add, Nat.reduceAdd, List.map_cons, List.map_nil, u8_nat a ha.1 ha.2, u8_nat b hb.1 hb.2, u8_nat c hc.1 hc.2] using this
theorem cv4 (a b c d : Int) (ha : 0 ≤ a ∧ a < 256) (hb : 0 ≤ b ∧ b < 256) (hc : 0 ≤ c ∧ c < 256) (hd : 0 ≤ d ∧ d < 256) (W : World) : (convert 22 9 (.slice (some ⟨W.heap.size, 0, none⟩) 4 4)).run Try.prog (W.alloc (.cells #[.int .u8 a, .int .u8 b, .int .u8 c, .int .u8 d] 5)) =
    .ok (.string ⟨#[UInt8.ofNat a.toNat, UInt8.ofNat b.toNat, UInt8.ofNat c.toNat, UInt8.ofNat d.toNat]⟩) (W.alloc (.cells #[.int .u8 a, .int .u8 b, .int .u8 c, .int .u8 d] 5)) := by
  have := conv_cells [UInt8.ofNat a.toNat, UInt8.ofNat b.toNat, UInt8.ofNat c.toNat, UInt8.ofNat d.toNat] W
  simpa only [List.length_cons, List.length_nil, Nat.zero_add, Nat.reduceAdd, List.map_cons, List.map_nil, u8_nat a ha.1 ha.2, u8_nat b hb.1 hb.2, u8_nat c hc.1 hc.2, u8_nat d hd.1 hd.2] using this

set_option maxHeartbeats 4000000 in
theorem rput_any (r : Int) (w : World) : Calls Try.prog 19 #[.int .i32 r] w fun e w' => e = .returned (.string (putF r)) ∧ Below w.heap.size w w' := by
  have h5 : (r < 0 ∨ (55296 ≤ r ∧ r ≤ 57343) ∨ 1114111 < r) ∨ (0 ≤ r ∧ r < 128) ∨ (128 ≤ r ∧ r < 2048) ∨ (2048 ≤ r ∧ r < 65536 ∧ (r < 55296 ∨ 57343 < r)) ∨ (65536 ≤ r ∧ r ≤ 1114111) := by omega
  rcases h5 with h0 | ⟨h0, h1⟩ | ⟨h0, h1⟩ | ⟨h0, h1, h2⟩ | ⟨h0, h1⟩
  · rw [enc0 r h0]
    rcases h0 with h0 | ⟨h0, h1⟩ | h0
    all_goals
      go_enter Try.func19, Try.ntmps19
      go_wp2
      go_ret
      exact ⟨rfl, Below.refl _ _⟩
  · rw [enc1 r h0 h1]
    have hc := cv1 r ⟨h0, by omega⟩
    go_enter Try.func19, Try.ntmps19
    go_wp2
    go_ret
    exact ⟨rfl, (Below.refl _ _).alloc (Nat.le_refl _) _⟩
  · rw [enc2 r h0 h1]
    have hc := cv2 (192 + r / 64) (128 + r % 64) ⟨by omega, by omega⟩ ⟨by omega, by omega⟩
    go_enter Try.func19, Try.ntmps19
    go_wp2
    go_ret
    exact ⟨rfl, (Below.refl _ _).alloc (Nat.le_refl _) _⟩
  · rw [enc3 r h0 h1 h2]
    have hc := cv3 (224 + r / 4096) (128 + r / 64 % 64) (128 + r % 64) ⟨by omega, by omega⟩ ⟨by omega, by omega⟩ ⟨by omega, by omega⟩
    rcases h2 with h2 | h2
    all_goals
      go_enter Try.func19, Try.ntmps19
      go_wp2
      go_ret
      exact ⟨rfl, (Below.refl _ _).alloc (Nat.le_refl _) _⟩
  · rw [enc4 r h0 h1]
    have hc := cv4 (240 + r / 262144) (128 + r / 4096 % 64) (128 + r / 64 % 64) (128 + r % 64) ⟨by omega, by omega⟩ ⟨by omega, by omega⟩ ⟨by omega, by omega⟩ ⟨by omega, by omega⟩
    go_enter Try.func19, Try.ntmps19
    go_wp2
    go_ret
    exact ⟨rfl, (Below.refl _ _).alloc (Nat.le_refl _) _⟩

end Go.Proofs.Ytoepnajioaiaaaa
