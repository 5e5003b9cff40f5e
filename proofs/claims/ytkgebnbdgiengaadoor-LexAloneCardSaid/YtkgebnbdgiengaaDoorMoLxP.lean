/- The lexer as plain functions on lists of bytes: of no program. -/
import Derived.Lib.DecodeN
import Derived.Lib.MapLaws
import Derived.Lib.RuneCount
import Derived.Lib.ValidU
namespace Go.Proofs.YtkgebnbdgiengaaDoor.Lx

def isBlank (c : UInt8) : Bool := c == 32 || c == 9 || c == 10 || c == 12 || c == 13
def isDelim (c : UInt8) : Bool := isBlank c || c == 40 || c == 41 || c == 91 || c == 93 || c == 34 || c == 59 || c == 39 || c == 96 || c == 44
/-- Where a run of bytes ends: at a delimiter, or at one byte more (0: none). -/
def goes (more c : UInt8) : Bool := !isDelim c && (more == 0 || c != more)
def spanN (more : UInt8) (l : List UInt8) : Nat := (l.takeWhile (goes more)).length

/-- Between tokens: nothing open; in a line's comment; in so many comments, the outermost begun at a place. -/
inductive Sk where
  | base
  | line
  | deep (d p : Nat)

/-- Behind blanks and comments. -/
def skp : Sk → Nat → List UInt8 → Except Nat Nat
  | .base, n, [] => .ok n
  | .base, n, [c] => if isBlank c then skp .base (n + 1) [] else if c = 59 then skp .line (n + 1) [] else .ok n
  | .base, n, c :: b :: l =>
    if isBlank c then skp .base (n + 1) (b :: l) else if c = 59 then skp .line (n + 1) (b :: l)
    else if c = 35 ∧ b = 124 then skp (.deep 1 n) (n + 2) l else .ok n
  | .line, n, [] => .ok n
  | .line, n, c :: l => if c = 10 then skp .base (n + 1) l else skp .line (n + 1) l
  | .deep _ p, _, [] => .error p
  | .deep _ p, _, [_] => .error p
  | .deep d p, n, c :: b :: l =>
    if c = 35 ∧ b = 124 then skp (.deep (d + 1) p) (n + 2) l
    else if c = 124 ∧ b = 35 then (if d = 1 then skp .base (n + 2) l else skp (.deep (d - 1) p) (n + 2) l)
    else skp (.deep d p) (n + 1) (b :: l)

/-- A digit to the base 16. -/
def hexD (c : UInt8) : Option Nat :=
  if 48 ≤ c ∧ c ≤ 57 then some (c.toNat - 48) else if 97 ≤ c ∧ c ≤ 102 then some (c.toNat - 87) else if 65 ≤ c ∧ c ≤ 70 then some (c.toNat - 55) else none
def hexGo : Nat → List UInt8 → Option Nat
  | n, [] => some n
  | n, c :: l => match hexD c with | some d => hexGo (n * 16 + d) l | none => none
def okRune (n : Nat) : Bool := decide (n < 55296) || decide (57344 ≤ n ∧ n ≤ 1114111)
/-- One to six digits to the base 16, as a char. -/
def hexV (l : List UInt8) : Option Nat :=
  if l.length < 1 ∨ 6 < l.length then none else match hexGo 0 l with | some n => if okRune n then some n else none | none => none

/-- In a text between two bytes: nothing open; behind a backslash; in an escape by a number, begun at a place. -/
inductive Qs where
  | plain
  | bs
  | hex (p : Nat) (hs : List UInt8)

def esc1 (by' c : UInt8) : Option UInt8 :=
  if c = 92 ∨ c = 34 then some c else if c = 110 then some 10 else if c = 116 then some 9 else if c = 114 then some 13 else if c = 124 ∧ by' = 124 then some 124 else none
/-- The text between two bytes, and where it ends. -/
def qtd (by' : UInt8) (at' : Nat) : Qs → Nat → List UInt8 → List UInt8 → Except (Nat × Nat) (List UInt8 × Nat)
  | .plain, n, acc, c :: l => if c = by' then .ok (acc, n + 1) else if c = 92 then qtd by' at' .bs (n + 1) acc l else qtd by' at' .plain (n + 1) (acc ++ [c]) l
  | .bs, n, acc, c :: l => if c = 120 then qtd by' at' (.hex (n - 1) []) (n + 1) acc l else match esc1 by' c with | some x => qtd by' at' .plain (n + 1) (acc ++ [x]) l | none => .error (n - 1, 9)
  | .hex p hs, n, acc, c :: l => if c = 59 then match hexV hs with | some r => qtd by' at' .plain (n + 1) (acc ++ Lib.encodeRune (r : Int)) l | none => .error (p, 9) else qtd by' at' (.hex p (hs ++ [c])) (n + 1) acc l
  | .plain, _, _, [] => .error (at', 11)
  | .bs, _, _, [] => .error (at', 11)
  | .hex p _, _, _, [] => .error (p, 9)

/-- A token: its kind, its place, its end, is it square; its datum's kind, char, sign, limbs, text. -/
structure Tk where
  kind : Nat
  a : Nat
  e : Nat
  sq : Bool
  dk : Nat
  c : Int
  neg : Bool
  mag : List Int
  t : List UInt8
  deriving DecidableEq

def tk0 (kind a e : Nat) (sq : Bool) : Tk := ⟨kind, a, e, sq, 0, 0, false, [], []⟩
def tkD (dk a e : Nat) : Tk := ⟨9, a, e, false, dk, 0, false, [], []⟩

abbrev Got := Except (Nat × Nat) Tk

/-- A string, or a symbol, that may be. -/
def txd (dk : Nat) (x : List UInt8) (a e : Nat) : Got :=
  if Lib.validD x = false ∨ dk = 6 ∧ x = [] then .error (a, 9) else if 62 < Lib.runeCountL x then .error (a, 6) else .ok { tkD dk a e with t := x }

/-- The char of a name. -/
def nameV (w : List UInt8) : Option Nat :=
  if w = [110, 117, 108] then some 0
  else if w = [97, 108, 97, 114, 109] then some 7
  else if w = [98, 97, 99, 107, 115, 112, 97, 99, 101] then some 8
  else if w = [116, 97, 98] then some 9
  else if w = [110, 101, 119, 108, 105, 110, 101] then some 10
  else if w = [114, 101, 116, 117, 114, 110] then some 13
  else if w = [101, 115, 99, 97, 112, 101] then some 27
  else if w = [115, 112, 97, 99, 101] then some 32
  else if w = [100, 101, 108, 101, 116, 101] then some 127
  else none

/-- Behind #\ : 'l' begins behind these two. -/
def chr (a : Nat) (l : List UInt8) : Got :=
  if l = [] then .error (a, 11)
  else
    let d := Lib.decodeL l
    if d.1 = 65533 ∧ d.2 < 2 then .error (a, 9)
    else
      let k := spanN 0 (l.drop d.2)
      let w := l.take (d.2 + k)
      if k = 0 then .ok { tkD 3 a (a + 2 + d.2) with c := d.1 }
      else match nameV w with
        | some r => .ok { tkD 3 a (a + 2 + d.2 + k) with c := r }
        | none => match (if d.1 = 120 then hexV (w.drop d.2) else none) with
          | some r => .ok { tkD 3 a (a + 2 + d.2 + k) with c := r }
          | none => .error (a, 9)

def isDig (c : UInt8) : Bool := decide (48 ≤ c ∧ c ≤ 57)
def signed (w : List UInt8) : List UInt8 := match w with | c :: r => if c = 43 ∨ c = 45 then r else w | [] => []
def isNum (w : List UInt8) : Bool := !(signed w).isEmpty && (signed w).all isDig
def decV (w : List UInt8) : Nat := w.foldl (fun n c => 10 * n + (c.toNat - 48)) 0
/-- Limbs of 32 bits, the lowest first, without noughts at the end. -/
def limbs : Nat → Nat → List Int
  | 0, _ => []
  | f + 1, n => if n = 0 then [] else ((n % 4294967296 : Nat) : Int) :: limbs f (n / 4294967296)
def limbsOf (n : Nat) : List Int := limbs n n

def numV (w : List UInt8) (a e : Nat) : Got :=
  let v := decV (signed w)
  if 48 < (limbsOf v).length then .error (a, 6) else .ok { tkD 4 a e with neg := decide (w.head? = some 45) && decide (0 < v), mag := limbsOf v }

/-- All else: 'l' begins with the token. -/
def wrd (a : Nat) (l : List UInt8) : Got :=
  let k := spanN 124 l
  let w := l.take k
  if w = [46] then .ok (tk0 8 a (a + k) false)
  else if w = [35, 116] ∨ w = [35, 116, 114, 117, 101] then .ok (tkD 1 a (a + k))
  else if w = [35, 102] ∨ w = [35, 102, 97, 108, 115, 101] then .ok (tkD 2 a (a + k))
  else if w.head? = some 35 then .error (a, 9)
  else if isNum w then numV w a (a + k)
  else txd 6 w a (a + k)

/-- The token that begins at a place: a byte, and those behind it. -/
def tkn (a : Nat) (c : UInt8) (l : List UInt8) : Got :=
  if c = 40 ∨ c = 91 then .ok (tk0 1 a (a + 1) (decide (c = 91)))
  else if c = 41 ∨ c = 93 then .ok (tk0 2 a (a + 1) (decide (c = 93)))
  else if c = 39 then .ok (tk0 4 a (a + 1) false)
  else if c = 96 then .ok (tk0 5 a (a + 1) false)
  else if c = 44 then (if l.head? = some 64 then .ok (tk0 7 a (a + 2) false) else .ok (tk0 6 a (a + 1) false))
  else if c = 34 ∨ c = 124 then
    match qtd c a .plain (a + 1) [] l with
    | .error p => .error p
    | .ok (x, e) => txd (if c = 124 then 6 else 5) x a e
  else if c = 35 ∧ l.head? = some 40 then .ok (tk0 3 a (a + 2) false)
  else if c = 35 ∧ l.head? = some 92 then chr a l.tail
  else wrd a (c :: l)

/-- Next, of a text that is not too long, at a place in it. -/
def nxt (l : List UInt8) (at' : Nat) : Got :=
  match skp .base at' (l.drop at') with
  | .error p => .error (p, 11)
  | .ok n => match l.drop n with
    | [] => .ok (tk0 0 n n false)
    | c :: r => tkn n c r

def nextG (l : List UInt8) (at' : Int) : Got :=
  if 4096 < l.length then .error (0, 12) else if at' < 0 ∨ (l.length : Int) < at' then .error (0, 1) else nxt l at'.toNat

def allGo (l : List UInt8) : Nat → Nat → List Tk × Nat × Nat
  | 0, _ => ([], 0, 0)
  | f + 1, at' => match nextG l at' with
    | .error (p, c) => ([], p, c)
    | .ok t => if t.kind = 0 then ([], 0, 0) else (t :: (allGo l f t.e).1, (allGo l f t.e).2)
def lexAll (l : List UInt8) : List Tk × Nat × Nat := allGo l (l.length + 1) 0
end Go.Proofs.YtkgebnbdgiengaaDoor.Lx
