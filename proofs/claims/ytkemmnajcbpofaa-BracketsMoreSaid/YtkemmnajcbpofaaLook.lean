/- The contracts of walk.step in one form, of brackets.Look, Match, Depth and Indent over the row of a text. -/
import Derived.Test.YtkemmnajcbpofaaStep
import Derived.Test.YtkemmnajcbpofaaPlain
namespace Go.Proofs.Ytkemmnajcbpofaa
open Go.RowKit

/-- The bytes of a text, as numbers. -/
def bytesOf (s : ByteArray) : List Nat := s.data.toList.map UInt8.toNat
theorem bytesOf_length (s : ByteArray) : (bytesOf s).length = s.size := by simp [bytesOf]
theorem bytesOf_get (s : ByteArray) (i : Nat) (hi : i < s.size) : (bytesOf s)[i]? = some (s[i]).toNat := by
  unfold bytesOf
  rw [List.getElem?_map, List.getElem?_eq_getElem (by simpa using hi)]
  rfl

def stepOut : Option (List (Nat × Nat) × Option Nat) → Value
  | none => .tuple #[.int .i64 (-1), .bool false]
  | some (_, none) => .tuple #[.int .i64 (-1), .bool true]
  | some (_, some p) => .tuple #[.int .i64 p, .bool true]

theorem kind_cases (b : Nat) : (kindB b = 3 ∧ b ≠ 40 ∧ b ≠ 91 ∧ b ≠ 123 ∧ b ≠ 41 ∧ b ≠ 93 ∧ b ≠ 125) ∨ (kindB b = 7 ∧ (b = 40 ∨ b = 91 ∨ b = 123)) ∨ (kindB b = 8 ∧ (b = 41 ∨ b = 93 ∨ b = 125)) := by
  unfold kindB
  by_cases h1 : b = 40 ∨ b = 91 ∨ b = 123
  · rw [if_pos h1]; exact .inr (.inl ⟨rfl, h1⟩)
  · rw [if_neg h1]
    by_cases h2 : b = 41 ∨ b = 93 ∨ b = 125
    · rw [if_pos h2]; exact .inr (.inr ⟨rfl, h2⟩)
    · rw [if_neg h2]; exact .inl ⟨rfl, by omega, by omega, by omega, by omega, by omega, by omega⟩

theorem close_cast (b : Nat) : closeOf (b : Int) = (closeN b : Int) := by
  unfold closeOf closeN
  by_cases h1 : b = 40
  · subst h1; rfl
  · by_cases h2 : b = 91
    · subst h2; rfl
    · by_cases h3 : b = 123
      · subst h3; rfl
      · rw [if_neg (by omega), if_neg (by omega), if_neg (by omega), if_neg h1, if_neg h2, if_neg h3]; rfl

theorem step_any (s : ByteArray) (i : Nat) (hi : i < s.size) (hs : s.size ≤ 1000) (P : Nat) (v : Value) (st : List (Nat × Nat)) (w : World) (h : Wk w P s v (st.map Prod.fst)) (hg : GoodB (bytesOf s) i st) :
    Calls Try.prog 12 #[.pointer (some ⟨P, 0, none⟩), .agg #[.int .i64 (kindB (s[i]).toNat), .int .i64 i, .int .i64 (i + 1)]] w fun e w' =>
      e = .returned (stepOut (stepB st i (s[i]).toNat)) ∧ (∃ v', Wk w' P s v' ((stepS st i (s[i]).toNat).map Prod.fst)) ∧ Only P v w w' := by
  have hl : st.length ≤ 1000 := by have := hg.1; omega
  rcases kind_cases (s[i]).toNat with ⟨hk, hb⟩ | ⟨hk, hb⟩ | ⟨hk, hb⟩
  · have hs3 : stepB st i (s[i]).toNat = some (st, none) := by unfold stepB; rw [hk, if_neg (by omega), if_neg (by omega)]
    unfold stepS
    rw [hs3, hk]
    exact (step_name s i hi hs P v _ w h).mono fun _ _ ⟨h1, h2, h3⟩ => ⟨h1, ⟨_, h2⟩, h3⟩
  · have hs3 : stepB st i (s[i]).toNat = some ((i, (s[i]).toNat) :: st, none) := by unfold stepB; rw [hk, if_pos rfl]
    unfold stepS
    rw [hs3, hk]
    refine (step_push s i hi hs P v _ w h ?_ (by simpa using hl)).mono fun _ _ ⟨h1, h2, h3⟩ => ⟨h1, h2, h3⟩
    unfold markOf
    rw [if_neg (by decide), beq_eq_false_iff_ne]
    omega
  · have hz : (markOf 8 (s[i]).toNat == 0) = false := by
      unfold markOf
      rw [if_neg (by decide), beq_eq_false_iff_ne]
      omega
    match st, h, hg, hl with
    | [], h, hg, hl =>
      have hs3 : stepB [] i (s[i]).toNat = none := by unfold stepB; rw [hk, if_neg (by omega), if_pos rfl]
      unfold stepS
      rw [hs3, hk]
      exact (step_none s i hi hs P v w h hz).mono fun _ _ ⟨h1, h2, h3⟩ => ⟨h1, ⟨_, h2⟩, h3⟩
    | (p, b) :: r, h, hg, hl =>
      obtain ⟨hpi, hpb, hb7⟩ := hg.2 (p, b) (by simp)
      simp only at hpi hpb hb7
      have hp : p < s.size := by omega
      have hpb' : (s[p]).toNat = b := by
        have := bytesOf_get s p hp
        rw [this] at hpb
        exact Option.some.inj hpb
      have hr : (r.map Prod.fst).length ≤ 1000 := by simp at hl ⊢; omega
      by_cases he : closeN b = (s[i]).toNat
      · have hs3 : stepB ((p, b) :: r) i (s[i]).toNat = some (r, some p) := by unfold stepB; rw [hk, if_neg (by omega), if_pos rfl]; simp only; rw [if_pos he]
        unfold stepS
        rw [hs3, hk]
        refine (step_pop s i hi hs P v p (r.map Prod.fst) w h hz hp hr ?_).mono fun _ _ ⟨h1, h2, h3⟩ => ⟨h1, h2, h3⟩
        rw [hpb', close_cast, he]
        unfold markOf
        rw [if_neg (by decide)]
        simp
      · have hs3 : stepB ((p, b) :: r) i (s[i]).toNat = none := by unfold stepB; rw [hk, if_neg (by omega), if_pos rfl]; simp only; rw [if_neg he]
        unfold stepS
        rw [hs3, hk]
        refine (step_wrong s i hi hs P v p (r.map Prod.fst) w h hz hp hr ?_).mono fun _ _ ⟨h1, h2, h3⟩ => ⟨h1, ⟨_, h2⟩, h3⟩
        rw [hpb', close_cast]
        unfold markOf
        rw [if_neg (by decide), bne_iff_ne]
        omega

/-- A slice that reads as the row of a text. -/
def RowOf (w : World) (A : Option Addr) (s : ByteArray) : Prop :=
  0 < s.size → ∃ b, A = some ⟨b, 0, none⟩ ∧ b < w.heap.size ∧ ∀ (i : Nat) (h : i < s.size),
    w.cell? ⟨b, i * 3, none⟩ = some (.int .i64 (kindB (s[i]).toNat)) ∧ w.cell? ⟨b, i * 3 + 1, none⟩ = some (.int .i64 i) ∧ w.cell? ⟨b, i * 3 + 2, none⟩ = some (.int .i64 (i + 1))

theorem RowOf.next {w w' : World} {A : Option Addr} {s : ByteArray} (h : RowOf w A s) (hb : Below w.heap.size w w') : RowOf w' A s := fun hp => by
  obtain ⟨b, e, hl, hc⟩ := h hp
  refine ⟨b, e, Nat.lt_of_lt_of_le hl hb.size, fun i hi => ?_⟩
  obtain ⟨c0, c1, c2⟩ := hc i hi
  exact ⟨(hb.cell (p := ⟨b, _, none⟩) hl).trans c0, (hb.cell (p := ⟨b, _, none⟩) hl).trans c1, (hb.cell (p := ⟨b, _, none⟩) hl).trans c2⟩

theorem new_walk (w : World) (s : ByteArray) : Wk (w.alloc (.cells #[.string s, .slice none 0 0] 42)) w.heap.size s (.slice none 0 0) [] :=
  ⟨heap_alloc_new w _, World.ownsRow_nil _ _ _ _⟩

section
variable {s : ByteArray} {i : Nat} (hi : i < s.size) (hs : s.size ≤ 1000) {P : Nat} {v : Value} {st st' : List (Nat × Nat)} {w : World} (h : Wk w P s v (st.map Prod.fst)) (hg : GoodB (bytesOf s) i st)
include h hg hs
theorem step_bad (he : stepB st i (s[i]).toNat = none) :
    Calls Try.prog 12 #[.pointer (some ⟨P, 0, none⟩), .agg #[.int .i64 (kindB (s[i]).toNat), .int .i64 i, .int .i64 (i + 1)]] w fun e w' =>
      e = .returned (.tuple #[.int .i64 (-1), .bool false]) ∧ (∃ v', Wk w' P s v' (st.map Prod.fst)) ∧ Only P v w w' := by
  have := step_any s i hi hs P v st w h hg
  unfold stepS at this
  rw [he] at this
  exact this
theorem step_on (he : stepB st i (s[i]).toNat = some (st', none)) :
    Calls Try.prog 12 #[.pointer (some ⟨P, 0, none⟩), .agg #[.int .i64 (kindB (s[i]).toNat), .int .i64 i, .int .i64 (i + 1)]] w fun e w' =>
      e = .returned (.tuple #[.int .i64 (-1), .bool true]) ∧ (∃ v', Wk w' P s v' (st'.map Prod.fst)) ∧ Only P v w w' := by
  have := step_any s i hi hs P v st w h hg
  unfold stepS at this
  rw [he] at this
  exact this
theorem step_shut {p : Nat} (he : stepB st i (s[i]).toNat = some (st', some p)) :
    Calls Try.prog 12 #[.pointer (some ⟨P, 0, none⟩), .agg #[.int .i64 (kindB (s[i]).toNat), .int .i64 i, .int .i64 (i + 1)]] w fun e w' =>
      e = .returned (.tuple #[.int .i64 p, .bool true]) ∧ (∃ v', Wk w' P s v' (st'.map Prod.fst)) ∧ Only P v w w' := by
  have := step_any s i hi hs P v st w h hg
  unfold stepS at this
  rw [he] at this
  exact this
end

theorem Wk.form {w : World} {P : Nat} {s : ByteArray} {v : Value} {st : List Nat} (h : Wk w P s v st) : ∃ A cap, v = .slice A st.length cap := by
  rcases h.2.2 with ⟨rfl, h0⟩ | ⟨g, cap, cur, rfl, _⟩
  · exact ⟨none, 0, by rw [h0]⟩
  · exact ⟨_, _, rfl⟩

theorem drop_at (s : ByteArray) (m : Nat) (hm : m < s.size) : (bytesOf s).drop m = (s[m]).toNat :: (bytesOf s).drop (m + 1) := by
  have hl : m < (bytesOf s).length := by rw [bytesOf_length]; exact hm
  rw [List.drop_eq_getElem_cons hl]
  congr 1
  have := bytesOf_get s m hm
  rw [List.getElem?_eq_getElem hl] at this
  exact Option.some.inj this

theorem ret_two {a b a' b' : Int} (h1 : a = a') (h2 : b = b') : Ending.returned (.tuple #[.int .i64 a, .int .i64 b]) = .returned (.tuple #[.int .i64 a', .int .i64 b']) := by rw [h1, h2]

theorem lookF_end (s : ByteArray) {m : Nat} {st : List (Nat × Nat)} (h : lookF ((bytesOf s).drop m) m st = lookF (bytesOf s) 0 []) (hm : s.size ≤ m) : lookF (bytesOf s) 0 [] = if st.length = 0 then (0, 0) else (1, st.length) := by
  rw [← h, List.drop_eq_nil_of_le (by rw [bytesOf_length]; exact hm)]; rfl
theorem lookF_bad (s : ByteArray) {m : Nat} {st : List (Nat × Nat)} (h : lookF ((bytesOf s).drop m) m st = lookF (bytesOf s) 0 []) (hm : m < s.size) (he : stepB st m (s[m]).toNat = none) : lookF (bytesOf s) 0 [] = (2, st.length) := by
  rw [← h, drop_at s m hm, lookF, he]
theorem lookF_on (s : ByteArray) {m : Nat} {st st' : List (Nat × Nat)} {o : Option Nat} (h : lookF ((bytesOf s).drop m) m st = lookF (bytesOf s) 0 []) (hm : m < s.size) (he : stepB st m (s[m]).toNat = some (st', o)) :
    lookF ((bytesOf s).drop (m + 1)) (m + 1) st' = lookF (bytesOf s) 0 [] := by
  rw [← h, drop_at s m hm, lookF, he]

set_option maxHeartbeats 400000 in
theorem look_any (s : ByteArray) (A : Option Addr) (c : Nat) (w : World) (hs : s.size ≤ 1000) (hA : RowOf w A s) :
    Calls Try.prog 10 #[.string s, .slice A s.size c, .agg #[.int .i64 0, .int .i64 0]] w fun e w' =>
      e = .returned (.tuple #[.int .i64 (lookF (bytesOf s) 0 []).1, .int .i64 (lookF (bytesOf s) 0 []).2]) ∧ Below w.heap.size w w' := by
  go_enter Try.func10, Try.ntmps10
  go_wp2_with fail
  go_loopg [18] s.size (fun k i wr => ∃ (m : Nat) (v : Value) (st : List (Nat × Nat)), m ≤ s.size ∧ k = s.size - m ∧ i = .int .i64 m ∧ Wk wr (w.heap.size + 1) s v (st.map Prod.fst) ∧ GoodB (bytesOf s) m st ∧
    lookF ((bytesOf s).drop m) m st = lookF (bytesOf s) 0 [] ∧ Below w.heap.size w wr ∧ wr.cell? ⟨w.heap.size, 0, none⟩ = some (.int .i64 0))
  case atStart =>
    refine ⟨0, .slice none 0 0, [], by omega, by omega, rfl, ?_, GoodB.zero _, rfl, ((Below.refl _ _).alloc (Nat.le_refl _) _).alloc (by simp) _, ?_⟩
    · have := new_walk (w.alloc (.cells #[.int .i64 0, .int .i64 0] 36)) s
      simpa using this
    · simp
  case round =>
    obtain ⟨m, v, st, hm, hk, rfl, hwk, hg, hlook, hb, hmode⟩ := hrel
    have Hk := Lib.hid hk
    have Hl := Lib.hid hlook
    clear hk hlook
    by_cases hlt : m < s.size
    · obtain ⟨b, rfl, hbs, hcells⟩ := hA (by omega)
      obtain ⟨c0, c1, c2⟩ := hcells m hlt
      have d0 := (hb.cell (p := ⟨b, m * 3, none⟩) hbs).trans c0
      have d1 := (hb.cell (p := ⟨b, m * 3 + 1, none⟩) hbs).trans c1
      have d2 := (hb.cell (p := ⟨b, m * 3 + 2, none⟩) hbs).trans c2
      clear c0 c1 c2 hcells
      have hwk1 := hwk.alloc (.cells #[.int .i64 (kindB (s[m]).toNat), .int .i64 m, .int .i64 (m + 1)] 31)
      have hb1 := hb.alloc hb.size (.cells #[.int .i64 (kindB (s[m]).toNat), .int .i64 m, .int .i64 (m + 1)] 31)
      have hm1 : (wr.alloc (.cells #[.int .i64 (kindB (s[m]).toNat), .int .i64 m, .int .i64 (m + 1)] 31)).cell? ⟨w.heap.size, 0, none⟩ = some (.int .i64 0) :=
        (World.cell?_alloc_lt wr _ _ (by have := hwk.lt; show w.heap.size < _; omega)).trans hmode
      rcases he : stepB st m (s[m]).toNat with _ | ⟨st', _ | p⟩
      · have He := Lib.hid he
        clear he
        go_wp2_with fail
        refine (step_bad hlt hs hwk1 hg He.out).mono ?_
        rintro e w2 ⟨rfl, ⟨v2, hwk2⟩, ⟨hb2, _⟩⟩
        obtain ⟨A2, cap2, rfl⟩ := hwk2.form
        have l2 := hwk2.list
        have hbb : Below w.heap.size w w2 := hb1.trans (hb2.mono (by omega))
        clear hwk hwk1 hb hb1 hm1 hmode d0 d1 d2
        go_wp2_with fail
        go_quiet (fail)
        go_wp2_with fail
        go_ret2
        have hf := lookF_bad s Hl.out hlt He.out
        exact ⟨ret_two (by rw [hf]; rfl) (by rw [hf]), below_drewN hbb _⟩
      · have He := Lib.hid he
        clear he
        go_wp2_with fail
        refine (step_on hlt hs hwk1 hg He.out).mono ?_
        rintro e w2 ⟨rfl, ⟨v2, hwk2⟩, ⟨hb2, _⟩⟩
        go_wp2_with fail
        go_roundg (s.size - (m + 1))
        case measure => have := Hk.out; omega
        case rel => exact ⟨m + 1, v2, st', by omega, rfl, by go_num, hwk2, hg.step (bytesOf_get s m hlt) He.out, lookF_on s Hl.out hlt He.out, hb1.trans (hb2.mono (by omega)), (hb2.cell (p := ⟨w.heap.size, 0, none⟩) (by simp)).trans hm1⟩
      · have He := Lib.hid he
        clear he
        go_wp2_with fail
        refine (step_shut hlt hs hwk1 hg He.out).mono ?_
        rintro e w2 ⟨rfl, ⟨v2, hwk2⟩, ⟨hb2, _⟩⟩
        go_wp2_with fail
        go_roundg (s.size - (m + 1))
        case measure => have := Hk.out; omega
        case rel => exact ⟨m + 1, v2, st', by omega, rfl, by go_num, hwk2, hg.step (bytesOf_get s m hlt) He.out, lookF_on s Hl.out hlt He.out, hb1.trans (hb2.mono (by omega)), (hb2.cell (p := ⟨w.heap.size, 0, none⟩) (by simp)).trans hm1⟩
    · have hge : s.size ≤ m := by omega
      have Hf := Lib.hid (lookF_end s Hl.out hge)
      obtain ⟨A2, cap2, rfl⟩ := hwk.form
      have l2 := hwk.list
      clear Hl
      by_cases hst : st.length = 0
      · have e1 : (st.map Prod.fst).length = 0 := by simpa using hst
        rw [e1] at l2 hwk
        have Hst := Lib.hid hst
        clear hst e1
        go_wp2_with fail
        go_ret2
        rw [Hf.out, if_pos Hst.out]
        exact ⟨rfl, hb⟩
      · obtain ⟨n, hn⟩ : ∃ n, (st.map Prod.fst).length = n := ⟨_, rfl⟩
        rw [hn] at l2
        have e1 : 0 < n := by rw [← hn]; simp; omega
        have e2 : (0 : Int) < (n : Int) := by omega
        have Hn := Lib.hid hn
        have Hst := Lib.hid hst
        clear hst hn hwk
        go_wp2_with fail
        go_quiet (fail)
        go_wp2_with fail
        go_ret2
        rw [Hf.out, if_neg Hst.out]
        exact ⟨ret_two rfl (by rw [← Hn.out]; simp), below_drewN hb _⟩

end Go.Proofs.Ytkemmnajcbpofaa
