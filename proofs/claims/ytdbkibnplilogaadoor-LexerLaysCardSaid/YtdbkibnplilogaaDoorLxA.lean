/-
  Plain: what a lexer answers, as a machine over the source's bytes.
-/
import Derived.Test.YtdbkibnplilogaaDoorLtB
set_option linter.unusedVariables false
namespace Go.Lx
open Go.Lib Go.Lt

def isLet (c : UInt8) : Bool := (decide (97 ≤ c.toNat) && decide (c.toNat ≤ 122)) || (decide (65 ≤ c.toNat) && decide (c.toNat ≤ 90)) || decide (c.toNat = 95)
def isDig (c : UInt8) : Bool := decide (48 ≤ c.toNat) && decide (c.toNat ≤ 57)
def isRun (c : UInt8) : Bool := isLet c || isDig c

def bs (l : List UInt8) : ByteArray := ⟨l.toArray⟩

/-- The words, in the order of the document's list. -/
def words : List (List UInt8) := [[97, 110, 100], [97, 115], [98, 114, 101, 97, 107], [99, 108, 97, 115, 115], [99, 111, 110, 116, 105, 110, 117, 101], [100, 101, 102], [100, 101, 108], [101, 108, 105, 102], [101, 108, 115, 101], [101, 120, 99, 101, 112, 116], [70, 97, 108, 115, 101], [102, 111, 114], [103, 108, 111, 98, 97, 108], [105, 102], [105, 110], [105, 115], [78, 111, 110, 101], [110, 111, 110, 108, 111, 99, 97, 108], [110, 111, 116], [111, 114], [112, 97, 115, 115], [114, 97, 105, 115, 101], [114, 101, 116, 117, 114, 110], [84, 114, 117, 101], [116, 114, 121], [119, 104, 105, 108, 101]]
def isWord (l : List UInt8) : Bool := words.contains l

/-- The signs, in the order of the document's list. -/
def signs : List (List UInt8) := [[61, 61], [33, 61], [60, 61], [62, 61], [43, 61], [45, 61], [42, 61], [42, 42], [47, 47, 61], [47, 47], [37, 61], [38, 61], [124, 61], [94, 61], [40], [41], [91], [93], [123], [125], [44], [58], [46], [61], [60], [62], [43], [45], [42], [37], [38], [124], [94]]
/-- The first of them that begins a text; empty: none does. -/
def signOf (l : List UInt8) : List UInt8 := (signs.find? (·.isPrefixOf l)).getD []

/-- A token: kind, text, place. -/
structure Tok where
  kind : Nat
  text : List UInt8
  at_ : Nat
deriving DecidableEq

/-- Where the bytes have been read up to, what is laid, how many brackets are open, the depths of blocks, the last first. -/
structure St where
  pos : Nat
  toks : List Tok
  opn : Nat
  deep : List Nat

abbrev Res (α : Type) := Except (Nat × Nat) α

def pops (n : Nat) (at_ : Nat) : List Nat → List Tok → List Nat × List Tok
  | [], t => ([], t)
  | d :: ds, t => if n < d then pops n at_ ds (t ++ [⟨8, [], at_⟩]) else (d :: ds, t)

/-- What a line's blanks at its beginning mean. -/
def indent (n : Nat) (st : St) : Res St :=
  if st.deep.headD 0 < n then
    if 40 < st.deep.length then .error (107, st.pos) else .ok { st with toks := st.toks ++ [⟨7, [], st.pos⟩], deep := n :: st.deep }
  else
    let (d, t) := pops n st.pos st.deep st.toks
    if d.headD 0 = n then .ok { st with toks := t, deep := d } else .error (103, st.pos)

/-- As many letters, digits and _ as begin a text. -/
def runOf (l : List UInt8) : List UInt8 := l.takeWhile isRun
def numOk (t : List UInt8) : Bool := t.all isDig && !(t.headD 0 == 48 && decide (1 < t.length)) && !decide (1000 < t.length)

/-- A token at a place where one begins: l the rest of the source from there on. -/
def token (l : List UInt8) (st : St) : Res St :=
  match l with
  | [] => .ok st
  | c :: _ =>
    if isLet c then .ok { st with pos := st.pos + (runOf l).length, toks := st.toks ++ [⟨if isWord (runOf l) then 2 else 1, runOf l, st.pos⟩] }
    else if isDig c then
      if numOk (runOf l) then .ok { st with pos := st.pos + (runOf l).length, toks := st.toks ++ [⟨3, runOf l, st.pos⟩] } else .error (105, st.pos)
    else if c.toNat = 39 ∨ c.toNat = 34 then
      match unq l with
      | some (t, n) => .ok { st with pos := st.pos + n, toks := st.toks ++ [⟨4, t, st.pos⟩] }
      | none => .error (104, st.pos)
    else
      let s := signOf l
      if s = [] then .error (102, st.pos)
      else if s = [40] ∨ s = [91] ∨ s = [123] then
        if st.opn = 60 then .error (107, st.pos) else .ok { st with pos := st.pos + s.length, toks := st.toks ++ [⟨5, s, st.pos⟩], opn := st.opn + 1 }
      else if s = [41] ∨ s = [93] ∨ s = [125] then .ok { st with pos := st.pos + s.length, toks := st.toks ++ [⟨5, s, st.pos⟩], opn := st.opn - 1 }
      else .ok { st with pos := st.pos + s.length, toks := st.toks ++ [⟨5, s, st.pos⟩] }

/-- What stands at the source's end. -/
def finish (N : Nat) (st : St) : List Tok :=
  let t1 := match st.toks.getLast? with
    | some k => if k.kind < 6 ∨ 8 < k.kind then st.toks ++ [⟨6, [], N⟩] else st.toks
    | none => st.toks
  t1 ++ List.replicate (st.deep.length - 1) ⟨8, [], N⟩ ++ [⟨9, [], N⟩]

/-- Bytes to the line's end. -/
def remark (l : List UInt8) : Nat := (l.takeWhile (· != 10)).length

/-- The whole: head: no token of the line has been read yet; bl: blanks of the line so far. -/
def go (src : List UInt8) : Nat → St → Bool → Nat → Res (List Tok)
  | 0, st, _, _ => .ok (finish src.length st)
  | f + 1, st, head, bl =>
    match src.drop st.pos with
    | [] => .ok (finish src.length st)
    | c :: t =>
      if c = 35 then go src f { st with pos := st.pos + remark (c :: t) } head bl
      else if c = 32 then go src f { st with pos := st.pos + 1 } head (bl + 1)
      else if c = 10 then
        go src f { st with pos := st.pos + 1, toks := if st.opn = 0 ∧ head = false then st.toks ++ [⟨6, [], st.pos⟩] else st.toks } (head || decide (st.opn = 0)) 0
      else
        match (if head then indent bl st else .ok st) with
        | .error e => .error e
        | .ok st1 =>
          match token (c :: t) st1 with
          | .error e => .error e
          | .ok st2 => go src f st2 false bl

def lex (src : List UInt8) : Res (List Tok) :=
  if 65536 < src.length then .error (101, 65536) else go src (src.length + 1) ⟨0, [], 0, [0]⟩ true 0
end Go.Lx
