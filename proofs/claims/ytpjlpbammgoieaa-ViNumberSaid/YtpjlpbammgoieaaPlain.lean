/- Plain words for keys as emacs has them: commands, rows of letters, and what a key is to do. No program. -/
namespace Go.Proofs.Ytpjlpbammgoieaa

/-- A command. -/
structure CmdD where
  kind : Int
  way : Int
  n : Int
  text : ByteArray
  incl : Bool

def cmd (kind way n : Int) : CmdD := ⟨kind, way, n, ⟨#[]⟩, false⟩

/-- A letter, and its command; n below 0: as often as was said. -/
structure Row4 where
  r : Int
  kind : Int
  way : Int
  n : Int

def findF : List Row4 → Int → Int → CmdD
  | [], _, _ => cmd 1 0 1
  | x :: l, r, n => if x.r = r then cmd x.kind x.way (if x.n < 0 then n else x.n) else findF l r n

def ctrlRows : List Row4 := [⟨97, 3, 2, 1⟩, ⟨101, 3, 3, 1⟩, ⟨98, 3, 0, -1⟩, ⟨102, 3, 1, -1⟩, ⟨112, 19, 0, 1⟩, ⟨110, 20, 0, 1⟩, ⟨100, 4, 1, -1⟩, ⟨107, 5, 3, 1⟩, ⟨117, 5, 2, 1⟩, ⟨119, 5, 7, -1⟩, ⟨121, 9, 0, -1⟩, ⟨116, 21, 0, 1⟩, ⟨122, 12, 0, -1⟩, ⟨114, 28, 0, 1⟩, ⟨103, 33, 0, 1⟩]
def altRows : List Row4 := [⟨102, 3, 6, -1⟩, ⟨98, 3, 7, -1⟩, ⟨100, 5, 6, -1⟩, ⟨108, 22, 0, 0⟩, ⟨117, 22, 0, 1⟩, ⟨99, 22, 0, 2⟩, ⟨121, 11, 0, 1⟩, ⟨122, 13, 0, -1⟩, ⟨112, 17, 0, 1⟩, ⟨110, 18, 0, 1⟩, ⟨60, 3, 12, 1⟩, ⟨62, 3, 13, 1⟩, ⟨118, 25, 0, 1⟩]

theorem findF_none {l : List Row4} {r n : Int} (h : ∀ x ∈ l, x.r ≠ r) : findF l r n = cmd 1 0 1 := by
  induction l with
  | nil => rfl
  | cons x l ih =>
    rw [findF, if_neg (h x (by simp))]
    exact ih fun y hy => h y (by simp [hy])

/-- What keys with names do, and runes; the rune's bytes: put. -/
def namedF (kind : Int) (put text : ByteArray) (n : Int) : Option CmdD :=
  if kind = 1 then some ⟨2, 0, n, put, false⟩
  else if kind = 15 then some ⟨2, 0, 1, text, false⟩
  else if kind = 3 then some ⟨2, 0, n, ⟨#[9]⟩, false⟩
  else if kind = 2 then some (cmd 14 0 1)
  else if kind = 4 then some (cmd 4 0 n)
  else if kind = 14 then some (cmd 4 1 n)
  else if kind = 10 then some (cmd 3 0 n)
  else if kind = 11 then some (cmd 3 1 n)
  else if kind = 12 then some (cmd 3 2 1)
  else if kind = 13 then some (cmd 3 3 1)
  else if kind = 8 then some (cmd 19 0 1)
  else if kind = 9 then some (cmd 20 0 1)
  else none
/-- Has a kind of key a name, or is it none? -/
def namedB (kind : Int) : Bool := decide (0 ≤ kind ∧ kind ≤ 5) || decide (8 ≤ kind ∧ kind ≤ 15)

theorem namedF_none {kind : Int} (put text : ByteArray) (n : Int) (h : kind = 0 ∨ kind = 5 ∨ kind = 6 ∨ kind = 7 ∨ kind < 0 ∨ 15 < kind) : namedF kind put text n = none := by
  unfold namedF
  repeat rw [if_neg (by omega)]

/-- What any key is to do, with n. -/
def keyF (kind r : Int) (put text : ByteArray) (n : Int) : Option CmdD :=
  if kind = 6 then some (findF ctrlRows r n) else if kind = 7 then some (findF altRows r n) else namedF kind put text n

/-- The number behind a digit. -/
def digitF (a r : Int) : Int := min (min (max a 0) 999 * 10 + (r - 48)) 999

/-- What any key is to do in the mode InEmacs: the number that is left, and the command. -/
def mapF (a : Int) (h : Bool) (kind r : Int) (put text : ByteArray) : (Int × Bool) × Option CmdD :=
  if kind = 7 ∧ 48 ≤ r ∧ r ≤ 57 then ((digitF a r, true), none)
  else if kind = 0 then ((a, h), none)
  else ((0, false), keyF kind r put text (if h then a else 1))

/-- What any key is to do while a text is searched for. -/
def seekF (kind r : Int) (put : ByteArray) : Option CmdD :=
  if kind = 0 then none
  else if kind = 1 then some ⟨29, 0, 1, put, false⟩
  else if kind = 4 then some (cmd 30 0 1)
  else if kind = 6 ∧ r = 114 then some (cmd 31 0 1)
  else if kind = 2 then some (cmd 32 0 1)
  else some (cmd 33 0 1)

end Go.Proofs.Ytpjlpbammgoieaa
