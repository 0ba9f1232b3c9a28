/- ViNumber, where the digits are read: NOT YET BUILT CLEAN (see NOTES.md). -/
import Derived.Test.YtpjlpbammgoieaaNum
namespace Go.Proofs.Ytpjlpbammgoieaa
open Go.ChangeShapes Go.WideShapes Go.RowKit

theorem conv1 (a : Int) (ha : 0 ≤ a ∧ a < 256) (W : World) : (convert 31 9 (.slice (some ⟨W.heap.size, 0, none⟩) 1 1)).run Try.prog (W.alloc (.cells #[.int .u8 a] 5)) = .ok (.string ⟨#[UInt8.ofNat a.toNat]⟩) (W.alloc (.cells #[.int .u8 a] 5)) := by
  refine run_convert_bytes_back _ 31 9 5 ⟨W.heap.size, 0, none⟩ 1 [UInt8.ofNat a.toNat] Try.underlying31 Try.underlying5 Try.underlying9 ?_
  intro j hj
  have hadd : (⟨W.heap.size, 0, none⟩ : Addr).add j = ⟨W.heap.size, j, none⟩ := by unfold Addr.add; split <;> simp_all
  rw [hadd, cell_of_row _ _ j _ 5 (0, 0) (heap_alloc_new W _)]
  obtain rfl : j = 0 := by simp at hj; omega
  simp
  omega

def wayCells : Array Value := #[.int .i64 0, .int .i64 1, .int .i64 8, .int .i64 9, .int .i64 11, .int .i64 3, .int .i64 13]
def letters : ByteArray := ⟨#[104, 108, 119, 98, 94, 36, 71]⟩

theorem motion_at (p : Nat) (hp : p < 7) : ∃ b y, (letters.extract p (p + 1)).data.toList = [b] ∧ (b, y) ∈ motions ∧ wayCells[p]? = some (.int .i64 y) := by
  have h7 : p = 0 ∨ p = 1 ∨ p = 2 ∨ p = 3 ∨ p = 4 ∨ p = 5 ∨ p = 6 := by omega
  rcases h7 with rfl | rfl | rfl | rfl | rfl | rfl | rfl
  · exact ⟨104, 0, by decide, by simp [motions], rfl⟩
  · exact ⟨108, 1, by decide, by simp [motions], rfl⟩
  · exact ⟨119, 8, by decide, by simp [motions], rfl⟩
  · exact ⟨98, 9, by decide, by simp [motions], rfl⟩
  · exact ⟨94, 11, by decide, by simp [motions], rfl⟩
  · exact ⟨36, 3, by decide, by simp [motions], rfl⟩
  · exact ⟨71, 13, by decide, by simp [motions], rfl⟩

theorem numF_take {l : List Int} {m : Nat} {x : Int} (hx : l[m]? = some x) : numF 0 (l.take (m + 1)) = min (10 * numF 0 (l.take m) + x % 10) 999 := by
  rw [List.take_add_one, hx, Option.toList_some, numF_append]
  rfl

theorem far5 (w : World) (P g : Nat) (h : g ≠ P) (u0 u1 u2 u3 u4 : Value) {o : Obj} (hg : w.heap[g]? = some o) :
    (((((w.setCell ⟨P, 0, none⟩ u0).setCell ⟨P, 1, none⟩ u1).setCell ⟨P, 2, none⟩ u2).setCell ⟨P, 3, none⟩ u3).setCell ⟨P, 4, none⟩ u4).heap[g]? = some o := by
  rw [Below.heap_setCell _ ⟨P, 4, none⟩ _ _ h, Below.heap_setCell _ ⟨P, 3, none⟩ _ _ h, Below.heap_setCell _ ⟨P, 2, none⟩ _ _ h, Below.heap_setCell _ ⟨P, 1, none⟩ _ _ h, Below.heap_setCell _ ⟨P, 0, none⟩ _ _ h]
  exact hg
theorem lt_of {w : World} {g : Nat} {o : Obj} (h : w.heap[g]? = some o) : g < w.heap.size := (Array.getElem?_eq_some_iff.1 h).1

set_option maxRecDepth 100000 in
set_option maxHeartbeats 16000000 in
theorem num_in (A : Option Addr) (l : List Int) (c : Nat) (q : Int) (w : World) (h0 : 0 < l.length) (hl : l.length ≤ 6) (hA : U8s w A l) (hz : ∀ x, l[0]? = some x → x % 10 ≠ 0) (hq0 : 0 ≤ q) (hq1 : q ≤ 255) :
    Calls Try.prog 4 #[.slice A l.length c, .int .u8 q] w fun e w' => e = .returned (.bool true) ∧ Below w.heap.size w w' := by
  obtain ⟨b, off, rfl, hbs, hcells⟩ := hA h0
  have HC := Lib.hid hcells
  obtain ⟨x, hx⟩ : ∃ x, l[0]? = some x := ⟨l[0], List.getElem?_eq_getElem h0⟩
  obtain ⟨c0, x0, x1⟩ := hcells 0 x hx
  have hz0 := hz x hx
  have hmod : (x % 10 == 0) = false := by rw [beq_eq_false_iff_ne]; exact hz0
  have h6 : decide (6 < (l.length : Int)) = false := by rw [decide_eq_false_iff_not]; omega
  have hne : ((l.length : Int) == 0) = false := by rw [beq_eq_false_iff_ne]; omega
  rw [Nat.add_zero] at c0
  have HZ := Lib.hid hz
  clear hcells hx hz hz0 hA
  go_enter Try.func4, Try.ntmps4
  go_wp2_with fail
  go_loopg [8, 6, 7] l.length (fun g i n s wr => ∃ (m : Nat) (z : Int) (sb : ByteArray), m ≤ l.length ∧ g = l.length - m ∧ i = .int .i64 m ∧ n = .int .i64 z ∧ s = .string sb ∧ z = numF 0 (l.take m) ∧ sb.data.toList = (l.take m).map digitB ∧
    wr.heap[w.heap.size]? = some (.cells wayCells 32 (0, 0)) ∧ Below w.heap.size w wr)
  case atStart => exact ⟨0, 0, ⟨#[]⟩, by omega, by omega, rfl, rfl, rfl, rfl, rfl, heap_alloc_new w _, (Below.refl _ _).alloc (Nat.le_refl _) _⟩
  case round =>
    clear c0 hmod hne h6
    obtain ⟨m, z, sb, hm, hg, rfl, rfl, rfl, hzm, hsb, hway, hb⟩ := hrel
    have Hg := Lib.hid hg
    have HZM := Lib.hid hzm
    have HSB := Lib.hid hsb
    have hz9 : 0 ≤ z ∧ z ≤ 999 := by rw [hzm]; exact numF_range _ 0 (by omega) (by omega)
    obtain ⟨hz0, hz1⟩ := hz9
    have hss : sb.size = m := by
      have := congrArg List.length hsb
      rw [List.length_map, List.length_take] at this
      simp at this
      omega
    have hs6 : sb.size ≤ 6 := by omega
    have HSS := Lib.hid hss
    clear hg hzm hsb hss
    by_cases hlt : m < l.length
    · obtain ⟨y, hx⟩ : ∃ y, l[m]? = some y := ⟨l[m], List.getElem?_eq_getElem hlt⟩
      obtain ⟨c0, y0, y1⟩ := HC.out m y hx
      have d0 := (hb.cell (p := ⟨b, off + m, none⟩) hbs).trans c0
      have HX := Lib.hid hx
      have hc := conv1 (48 + y % 10) ⟨by omega, by omega⟩
      clear c0 hx
      rcases (by omega : 10 * z + y % 10 ≤ 999 ∨ 999 < 10 * z + y % 10) with hy | hy
      · go_wp2_with fail
        go_roundg (l.length - (m + 1))
        case measure => have := Hg.out; omega
        case rel =>
          refine ⟨m + 1, _, sb ++ ⟨#[UInt8.ofNat (48 + y % 10).toNat]⟩, by omega, rfl, by go_num, rfl, rfl, ?_, ?_, (Below.heap_alloc _ _ _ (Array.getElem?_eq_some_iff.1 hway).1).trans hway, hb.alloc hb.size _⟩
          · rw [numF_take HX.out, ← HZM.out]; omega
          · rw [ByteArray.data_append, Array.toList_append, HSB.out, List.take_add_one, HX.out, Option.toList_some, List.map_append]; rfl
      · go_wp2_with fail
        go_roundg (l.length - (m + 1))
        case measure => have := Hg.out; omega
        case rel =>
          refine ⟨m + 1, _, sb ++ ⟨#[UInt8.ofNat (48 + y % 10).toNat]⟩, by omega, rfl, by go_num, rfl, rfl, ?_, ?_, (Below.heap_alloc _ _ _ (Array.getElem?_eq_some_iff.1 hway).1).trans hway, hb.alloc hb.size _⟩
          · rw [numF_take HX.out, ← HZM.out]; omega
          · rw [ByteArray.data_append, Array.toList_append, HSB.out, List.take_add_one, HX.out, Option.toList_some, List.map_append]; rfl
    · obtain rfl : m = l.length := by omega
      have hzN : z = numF 0 l := by rw [HZM.out, List.take_length]
      have hsl : sb.data.toList = l.map digitB := by rw [HSB.out, List.take_length]
      obtain ⟨p, hp⟩ : ∃ p : Nat, q % 7 = (p : Int) := ⟨(q % 7).toNat, by omega⟩
      have hp7 : p < 7 := by omega
      obtain ⟨mb, my, hmb, hmm, hmc⟩ := motion_at p hp7
      have HZN := Lib.hid hzN
      have HSL := Lib.hid hsl
      have HMB := Lib.hid hmb
      have HMM := Lib.hid hmm
      have hpw : IntKind.u8.wrap ((p : Int) + 1) = (p : Int) + 1 := by rw [IntKind.wrap_u8]; omega
      have hway' := cell_of_row wr _ p _ 32 (0, 0) hway
      rw [hmc] at hway'
      have HMC := Lib.hid hmc
      clear HZM HSB hzN hsl hmb hmm hmc Hg
      have hne0 : l ≠ [] := by intro h; rw [h] at h0; simp at h0
      have hh0 : ∀ x, l.head? = some x → x % 10 ≠ 0 := fun x hx => HZ.out x (by rw [← List.head?_eq_getElem?]; exact hx)
      go_upto_region 13 with fail
      obtain ⟨rs, hrs⟩ : ∃ rs, rs = (ByteArray.mk #[104, 108, 119, 98, 94, 36, 71]).extract p (p + 1) := ⟨_, rfl⟩
      rw [← hrs]
      have hrl : rs.data.toList = [mb] := by rw [hrs]; exact HMB.out
      have hrz : rs.size = 1 := by have := congrArg List.length hrl; simpa using this
      have hr1 : rs.size ≤ 1 := by omega
      have k1 : keysF 0 0 (sb ++ rs).data.toList = some ⟨3, my, z, ⟨#[]⟩, false⟩ := by
        rw [ByteArray.data_append, Array.toList_append, HSL.out, hrl, HZN.out]; exact keys_move hne0 hh0 HMM.out
      have k2 : keysF 0 0 (sb ++ ⟨#[100]⟩ ++ rs).data.toList = some ⟨5, my, z, ⟨#[]⟩, false⟩ := by
        rw [ByteArray.data_append, ByteArray.data_append, Array.toList_append, Array.toList_append, HSL.out, hrl, HZN.out, List.append_assoc]; exact keys_kill hne0 hh0 HMM.out
      have hhalf : sb.size / 2 < l.length := by have := HSS.out; omega
      have x1 : (sb.extract 0 (sb.size / 2)).data.toList = (l.map digitB).take (sb.size / 2) := by
        rw [← HSL.out]; simp [ByteArray.data_extract, Array.toList_extract]
      have x2 : (sb.extract (sb.size / 2) sb.size).data.toList = (l.map digitB).drop (sb.size / 2) := by
        rw [← HSL.out]; simp only [ByteArray.data_extract, Array.toList_extract]
        exact List.take_of_length_le (by rw [List.length_drop]; simp)
      have k3 : keysF 0 0 (sb.extract 0 (sb.size / 2) ++ ⟨#[121]⟩ ++ sb.extract (sb.size / 2) sb.size ++ rs).data.toList = some ⟨6, my, z, ⟨#[]⟩, false⟩ := by
        rw [ByteArray.data_append, ByteArray.data_append, ByteArray.data_append, Array.toList_append, Array.toList_append, Array.toList_append, x1, x2, hrl, HZN.out, ← List.map_take, ← List.map_drop]
        have := keys_copy hne0 hh0 HMM.out (sb.size / 2) hhalf
        simpa [List.append_assoc, cmd] using this
      have K3 := Lib.hid k3
      clear k3 x1 x2 hhalf
      have K1 := Lib.hid k1
      have K2 := Lib.hid k2
      have HRL := Lib.hid hrl
      have HRS := Lib.hid hrs
      have HRZ := Lib.hid hrz
      have HH := Lib.hid hh0
      have HN := Lib.hid hne0
      clear k1 k2 hrl hrs hrz hh0 hne0 HMB
      have hold := hb
      go_wp2_with fail
      refine (keys_any _ _ _ (by rw [ByteArray.size_append]; omega) K1.out).mono ?_
      rintro e w1 ⟨rfl, hb1⟩
      have way1 := (hb1.block _ (Array.getElem?_eq_some_iff.1 hway).1).trans hway
      have old1 := hold.trans (hb1.mono hold.size)
      clear hway hb hold hb1 hway'
      have a1 := heap_alloc_new w1 (.cells #[.int .i64 3, .int .i64 my, .int .i64 z, .string ⟨#[]⟩, .bool false] 34)
      have way1' := (Below.heap_alloc w1 (.cells #[.int .i64 3, .int .i64 my, .int .i64 z, .string ⟨#[]⟩, .bool false] 34) _ (Array.getElem?_eq_some_iff.1 way1).1).trans way1
      have old1' := old1.alloc old1.size (.cells #[.int .i64 3, .int .i64 my, .int .i64 z, .string ⟨#[]⟩, .bool false] 34)
      clear way1 old1
      go_upto_region 15 with fail
      refine (keys_any _ _ _ (by rw [ByteArray.size_append, ByteArray.size_append]; change sb.size + 1 + rs.size ≤ 1000; omega) K2.out).mono ?_
      rintro e w2 ⟨rfl, hb2⟩
      have way2 := (hb2.block _ (Array.getElem?_eq_some_iff.1 way1').1).trans way1'
      have a2 := (hb2.block _ (Array.getElem?_eq_some_iff.1 a1).1).trans a1
      have old2 := old1'.trans (hb2.mono old1'.size)
      clear way1' old1' a1 hb2
      have b2 := heap_alloc_new w2 (.cells #[.int .i64 5, .int .i64 my, .int .i64 z, .string ⟨#[]⟩, .bool false] 34)
      have way2' := (Below.heap_alloc w2 (.cells #[.int .i64 5, .int .i64 my, .int .i64 z, .string ⟨#[]⟩, .bool false] 34) _ (Array.getElem?_eq_some_iff.1 way2).1).trans way2
      have a2' := (Below.heap_alloc w2 (.cells #[.int .i64 5, .int .i64 my, .int .i64 z, .string ⟨#[]⟩, .bool false] 34) _ (Array.getElem?_eq_some_iff.1 a2).1).trans a2
      have old2' := old2.alloc old2.size (.cells #[.int .i64 5, .int .i64 my, .int .i64 z, .string ⟨#[]⟩, .bool false] 34)
      clear way2 a2 old2
      go_upto_region 15 with fail
      obtain ⟨ws, hws⟩ : ∃ ws, ws = w2.alloc (.cells #[.int .i64 5, .int .i64 my, .int .i64 z, .string ⟨#[]⟩, .bool false] 34) := ⟨_, rfl⟩
      rw [← hws] at b2 way2' a2' old2' ⊢
      clear hws
      have j0 : (0 : Int) ≤ (sb.size : Int) / 2 := by omega
      have j1 : (sb.size : Int) / 2 ≤ (sb.size : Int) := by omega
      have j2 : ((sb.size : Int) / 2).toNat = sb.size / 2 := by omega
      have f1 : ¬9223372036854775807 < min (sb.size / 2) sb.size + 1 := by omega
      have f2 : ¬9223372036854775807 < min (sb.size / 2) sb.size + 1 + (sb.size - sb.size / 2) := by omega
      have f3 : ¬9223372036854775807 < min (sb.size / 2) sb.size + 1 + (sb.size - sb.size / 2) + rs.size := by omega
      have f4 : (sb.extract 0 (sb.size / 2) ++ ⟨#[121]⟩ ++ sb.extract (sb.size / 2) sb.size ++ rs).size ≤ 1000 := by
        rw [ByteArray.size_append, ByteArray.size_append, ByteArray.size_append, ByteArray.size_extract, ByteArray.size_extract]
        change min (sb.size / 2) sb.size - 0 + 1 + (min sb.size sb.size - sb.size / 2) + rs.size ≤ 1000
        omega
      have F4 := Lib.hid f4
      clear f4
      go_cut [15, 16] (fun s15 s16 wx => ∃ P : Nat, s15 = .pointer (some ⟨P, 0, none⟩) ∧ s16 = .bool true ∧ wx.heap[P]? = some (.cells #[.int .i64 6, .int .i64 my, .int .i64 z, .string ⟨#[]⟩, .bool false] 34 (0, 0)) ∧
        wx.heap[w1.heap.size]? = some (.cells #[.int .i64 3, .int .i64 my, .int .i64 z, .string ⟨#[]⟩, .bool false] 34 (0, 0)) ∧ wx.heap[w2.heap.size]? = some (.cells #[.int .i64 5, .int .i64 my, .int .i64 z, .string ⟨#[]⟩, .bool false] 34 (0, 0)) ∧
        wx.heap[w.heap.size]? = some (.cells wayCells 32 (0, 0)) ∧ Below w.heap.size w wx)
      case first =>
        go_region_held3 (fun _ => True) (exact trivial)
          (first
            | (go_at_call 7; (with_reducible refine (keys_any _ _ (ws.alloc (.cells #[.int .i64 0, .int .i64 0, .int .i64 0, .string ⟨#[]⟩, .bool false] 34)).drew F4.out K3.out).mono ?_); rintro e w3 ⟨rfl, hb⟩; have hbx := (hb.block ws.heap.size (by simp)).trans (heap_alloc_new ws _); obtain ⟨o0, o1, o2, o3, o4⟩ := cmd_cells (c := ⟨0, 0, 0, ⟨#[]⟩, false⟩) hbx; have y0 := frozen_of_row w3 _ 0 _ 34 hbx; have y1 := frozen_of_row w3 _ 1 _ 34 hbx; have y2 := frozen_of_row w3 _ 2 _ 34 hbx; have y3 := frozen_of_row w3 _ 3 _ 34 hbx; have y4 := frozen_of_row w3 _ 4 _ 34 hbx)
            | (go_at_call 7; (with_reducible refine (keys_any _ _ _ F4.out K3.out).mono ?_); rintro e w3 ⟨rfl, hb⟩))
        all_goals
          go_wp2_with fail
          go_meet
        all_goals
          first
            | (have gd := hbx
               have ka := (hb.block w1.heap.size (by have := lt_of a2'; simp; omega)).trans ((Below.heap_alloc ws _ _ (lt_of a2')).trans a2')
               have kb := (hb.block w2.heap.size (by have := lt_of b2; simp; omega)).trans ((Below.heap_alloc ws _ _ (lt_of b2)).trans b2)
               have kw := (hb.block w.heap.size (by have := lt_of way2'; simp; omega)).trans ((Below.heap_alloc ws _ _ (lt_of way2')).trans way2')
               have ko := ((old2'.alloc old2'.size (.cells #[.int .i64 0, .int .i64 0, .int .i64 0, .string ⟨#[]⟩, .bool false] 34)).drew).trans (hb.mono (by have := old2'.size; simp; omega))
               exact ⟨_, rfl, rfl, heap_setCell_same _ _ 4 _ 34 _ (heap_setCell_same _ _ 3 _ 34 _ (heap_setCell_same _ _ 2 _ 34 _ (heap_setCell_same _ _ 1 _ 34 _ (heap_setCell_same w3 _ 0 _ 34 _ gd)))),
                 far5 w3 _ _ (Nat.ne_of_lt (lt_of a2')) _ _ _ _ _ ka, far5 w3 _ _ (Nat.ne_of_lt (lt_of b2)) _ _ _ _ _ kb, far5 w3 _ _ (Nat.ne_of_lt (lt_of way2')) _ _ _ _ _ kw,
                 ((((ko.setCell old2'.size _).setCell old2'.size _).setCell old2'.size _).setCell old2'.size _).setCell old2'.size _⟩)
            | (have ka := (hb.block _ (lt_of a2')).trans a2'
               have kb := (hb.block _ (lt_of b2)).trans b2
               have kw := (hb.block _ (lt_of way2')).trans way2'
               have ko := (old2'.drew).trans (hb.mono old2'.size)
               exact ⟨_, rfl, rfl, heap_alloc_new w3 _, (Below.heap_alloc w3 _ _ (lt_of ka)).trans ka, (Below.heap_alloc w3 _ _ (lt_of kb)).trans kb, (Below.heap_alloc w3 _ _ (lt_of kw)).trans kw, ko.alloc ko.size _⟩)
      case rest =>
        obtain ⟨P, rfl, rfl, c3, a3, b3, way3, old3⟩ := hcut
        obtain ⟨d0, d1, d2, d3, d4⟩ := cmd_cells (c := ⟨6, my, z, ⟨#[]⟩, false⟩) c3
        obtain ⟨e0, e1, e2, e3, e4⟩ := cmd_cells (c := ⟨3, my, z, ⟨#[]⟩, false⟩) a3
        obtain ⟨g0, g1, g2, g3, g4⟩ := cmd_cells (c := ⟨5, my, z, ⟨#[]⟩, false⟩) b3
        have v0 := cell_of_row wc _ p _ 32 (0, 0) way3
        rw [HMC.out] at v0
        have l1 := lt_of c3
        have l2 := lt_of a3
        have l3 := lt_of b3
        have l4 := lt_of way3
        have p0 : (0 : Int) ≤ (p : Int) := by omega
        have p1 : (p : Int) < 7 := by omega
        clear c3 a3 b3 way3 old2' a2' b2 way2' HRS HRL HRZ HMM HSL HSS HZN HC HZ HH HN K1 K2 K3 F4 f1 f2 f3 j0 j1 j2 hs6 hr1 HMC
        go_wp2_with fail
        refine (typed_true _).mono ?_
        rintro e w4 ⟨rfl, hb4⟩
        go_wp2_with fail
        go_ret
        exact ⟨rfl, (old3.alloc old3.size _).trans (hb4.mono (by have := old3.size; simp; omega))⟩

theorem num_any (A : Option Addr) (l : List Int) (c : Nat) (q : Int) (w : World) (hm : l.length ≤ maxLen) (hA : U8s w A l) (hq0 : 0 ≤ q) (hq1 : q ≤ 255) :
    Calls Try.prog 4 #[.slice A l.length c, .int .u8 q] w fun e w' => e = .returned (.bool true) ∧ Below w.heap.size w w' := by
  by_cases h : l.length = 0 ∨ 6 < l.length
  · exact num_out A _ c q w h hm
  · by_cases hz : ∀ x, l[0]? = some x → x % 10 = 0
    · exact num_zero A l c q w (by omega) (by omega) hA hz
    · refine num_in A l c q w (by omega) (by omega) hA (fun x hx h0 => hz fun y hy => ?_) hq0 hq1
      rw [hx] at hy
      cases hy
      exact h0

end Go.Proofs.Ytpjlpbammgoieaa
