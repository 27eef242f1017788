/- Words: what the chapter's functions compute, on lists of bytes. No program in sight. -/
namespace Wd
abbrev Str := List UInt8
/-- a byte of words -/
def isL (b : UInt8) : Bool := decide ((97 ≤ b.toNat ∧ b.toNat ≤ 122) ∨ (65 ≤ b.toNat ∧ b.toNat ≤ 90) ∨ (48 ≤ b.toNat ∧ b.toNat ≤ 57) ∨ 128 ≤ b.toNat)
def isU (b : UInt8) : Bool := decide (65 ≤ b.toNat ∧ b.toNat ≤ 90)
def low (b : UInt8) : UInt8 := if isU b then b + 32 else b
def lower (l : Str) : Str := l.map low
/-- the words of a text: cur has been read of a word (m: a minus sign stood before it), pm: a minus sign stands directly before -/
def wordsG : Str → Bool → Bool → Str → List (Str × Bool)
  | cur, m, _, [] => if cur = [] then [] else [(lower cur, m)]
  | cur, m, pm, c :: t =>
    if isL c then wordsG (cur ++ [c]) (if cur = [] then pm else m) (c == 45) t
    else (if cur = [] then [] else [(lower cur, m)]) ++ wordsG [] false (c == 45) t
def words (s : Str) : List (Str × Bool) := wordsG [] false false s
def tokens (s : Str) : List Str := (words s).map (·.1)
def ends (w e : Str) (n : Nat) : Bool := decide (n < w.length) && e.isSuffixOf w
def sSses : Str := [115, 115, 101, 115]
def sIes : Str := [105, 101, 115]
def sIng : Str := [105, 110, 103]
def sEd : Str := [101, 100]
def sS : Str := [115]
def sSs : Str := [115, 115]
def stem (w : Str) : Str :=
  if ends w sSses 3 then w.take (w.length - 2)
  else if ends w sIes 4 then w.take (w.length - 3) ++ [121]
  else if ends w sIng 5 then w.take (w.length - 3)
  else if ends w sEd 4 then w.take (w.length - 2)
  else if ends w sS 3 && !ends w sSs 3 then w.take (w.length - 1)
  else w
def stops : List Str := [[97], [97, 110], [97, 110, 100], [97, 114, 101], [97, 115], [97, 116], [98, 101], [98, 121], [102, 111, 114], [102, 114, 111, 109], [105, 110], [105, 115], [105, 116], [111, 102], [111, 110], [111, 114], [116, 104, 97, 116], [116, 104, 101], [116, 111], [119, 105, 116, 104]]
def stop (w : Str) : Bool := stops.contains w
/-- the stems of words, without stop words -/
def stemsOf (ws : List Str) : List Str := (ws.filter (fun w => !stop w)).map stem
/-- a string into an ascending list -/
def ins (l : List Str) (x : Str) : List Str := if x ∈ l then l else l.takeWhile (fun y => decide (y ≤ x)) ++ [x] ++ l.dropWhile (fun y => decide (y ≤ x))
def addAll (l : List Str) (xs : List Str) : List Str := xs.foldl ins l
def uniq (xs : List Str) : List Str := addAll [] xs
def index (s : Str) : List Str := (uniq (stemsOf (tokens s))).take 128
def blank (b : UInt8) : Bool := decide (b.toNat = 9 ∨ b.toNat = 10 ∨ b.toNat = 13 ∨ b.toNat = 32)
def trim (l : Str) : Str := ((l.dropWhile blank).reverse.dropWhile blank).reverse
/-- the parts between quotation marks -/
def parts (q : UInt8) : Str → Str → List Str
  | cur, [] => [cur]
  | cur, c :: t => if c = q then cur :: parts q [] t else parts q (cur ++ [c]) t
/-- what Parse has gathered: needed stems, phrases, negated stems (not yet sorted) -/
structure Q where
  need : List Str
  phr : List Str
  neg : List Str
def phrase (p : Str) : Str := lower (trim p)
def Q.part (q : Q) (inside : Bool) (p : Str) : Q :=
  if inside then { need := q.need ++ stemsOf (tokens p), phr := if phrase p = [] ∨ phrase p ∈ q.phr then q.phr else q.phr ++ [phrase p], neg := q.neg }
  else { need := q.need ++ stemsOf (((words p).filter (fun x => !x.2)).map (·.1)), phr := q.phr, neg := q.neg ++ stemsOf (((words p).filter (·.2)).map (·.1)) }
def Q.all : Q → Bool → List Str → Q
  | q, _, [] => q
  | q, b, p :: ps => (q.part b p).all (!b) ps
def parseQ (s : Str) : Q := (Q.mk [] [] []).all false (parts 34 [] s)
def need (s : Str) : List Str := uniq (parseQ s).need
def phr (s : Str) : List Str := (parseQ s).phr
def neg (s : Str) : List Str := uniq (parseQ s).neg
def within (p s : Str) : Bool := decide (p <:+: s)
def foundQ (n p g : List Str) (text : Str) : Bool :=
  !(n.isEmpty && p.isEmpty) && (n.isEmpty || n.any (fun x => (index text).contains x)) && p.all (fun x => within x (lower text)) && !g.any (fun x => (index text).contains x)
def found (s t : Str) : Bool := foundQ (need s) (phr s) (neg s) t
def hits (n : List Str) (ws : List Str) : Nat := (ws.filter (fun w => n.contains (stem w) && !stop w)).length
def score (s t : Str) : Nat := if found s t then 5 * (phr s).length + 10 * hits (need s) (tokens t) else 0
end Wd
