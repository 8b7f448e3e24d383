/-
  Trees, which of them are whole (as the document's answer has it), and their text: plain, no program in sight.
-/
import Derived.Lib.ItoaNum
namespace Go.Proofs.YtpmlmpibpmoclaaGreatDoor
set_option linter.all false
abbrev Bs := List UInt8

theorem lA {α : Type} {a b : List α} : (a ++ b).length = a.length + b.length := List.length_append
theorem lC {α : Type} {a : α} {l : List α} : (a :: l).length = l.length + 1 := rfl
theorem lN {α : Type} : ([] : List α).length = 0 := rfl
theorem lM {α β : Type} {l : List α} (f : α → β) : (l.map f).length = l.length := List.length_map f
theorem mC {α β : Type} {f : α → β} {a : α} {l : List α} : (a :: l).map f = f a :: l.map f := rfl
theorem mN {α β : Type} {f : α → β} : ([] : List α).map f = [] := rfl
theorem zA (n : Nat) : 0 + n = n := Nat.zero_add n
theorem zM (n : Nat) : 0 * n = 0 := Nat.zero_mul n
theorem oM (n : Nat) : 1 * n = n := Nat.one_mul n
theorem aZ (n : Nat) : n + 0 = n := rfl
theorem gZ {α : Type} {a : α} {l : List α} (h : 0 < (a :: l).length) : (a :: l)[0]'h = a := rfl
theorem gS {α : Type} {a : α} {l : List α} {i : Nat} (h : i + 1 < (a :: l).length) : (a :: l)[i + 1]'h = l[i]'(Nat.lt_of_succ_lt_succ h) := rfl
theorem lo {a b n : Nat} (h : a ≤ n) (e : b ≤ a := by first | (simp only [lA, lC, lN, lM, mC, mN]; omega) | omega | simp) : b ≤ n := Nat.le_trans e h

/-- A tree: kind, text, number, kids. -/
inductive Tr where
 | mk (k : Int) (t : Bs) (n : Int) (l : List Tr)

namespace Tr
def k : Tr → Int | .mk k _ _ _ => k
def t : Tr → Bs | .mk _ t _ _ => t
def n : Tr → Int | .mk _ _ n _ => n
def l : Tr → List Tr | .mk _ _ _ l => l
end Tr

/-! ### runes -/

/-- How many bytes the rune at the beginning has, and which it is; 1 and -1: the byte belongs to none. -/
def cont (c : UInt8) : Bool := 128 ≤ c.toNat && c.toNat < 192
def more : Nat → Nat → Bs → Option Nat
 | 0, v, _ => some v
 | _ + 1, _, [] => none
 | m + 1, v, c :: r => if cont c then more m (v * 64 + (c.toNat - 128)) r else none
def rune : Bs → Nat × Int
 | [] => (1, -1)
 | c :: r =>
  let x := c.toNat
  if x < 128 then (1, x)
  else
   let p : Option (Nat × Nat × Nat) := if 192 ≤ x ∧ x < 224 then some (2, 128, x - 192) else if 224 ≤ x ∧ x < 240 then some (3, 2048, x - 224) else if 240 ≤ x ∧ x < 248 then some (4, 65536, x - 240) else none
   match p with
   | none => (1, -1)
   | some (m, least, v) =>
    match more (m - 1) v r with
    | none => (1, -1)
    | some v => if v < least ∨ 1114111 < v ∨ (55296 ≤ v ∧ v < 57344) then (1, -1) else (m, v)

/-- The runes of a text, -1 for a byte that belongs to none. -/
def runesF : Nat → Bs → List Int
 | 0, _ => []
 | _ + 1, [] => []
 | f + 1, c :: r => (rune (c :: r)).2 :: runesF f ((c :: r).drop (rune (c :: r)).1)
def runes (s : Bs) : List Int := runesF s.length s
def valid (s : Bs) : Bool := (runes s).all fun v => decide (0 ≤ v)

def letter (v : Int) : Bool :=
 if (97 ≤ v ∧ v ≤ 122) ∨ (65 ≤ v ∧ v ≤ 90) then true
 else if 192 ≤ v ∧ v ≤ 591 then decide (v ≠ 215 ∧ v ≠ 247)
 else if 913 ≤ v ∧ v ≤ 969 then decide (v ≠ 930)
 else decide (1040 ≤ v ∧ v ≤ 1103)

/-- A letter, a digit, _ or $. -/
def sign (v : Int) : Bool := letter v || v == 95 || v == 36 || (decide (48 ≤ v) && decide (v ≤ 57))

/-- A property name. -/
def signs (s : Bs) : Bool := match s with
 | [] => false
 | c :: _ => !(48 ≤ c.toNat && c.toNat ≤ 57) && (runes s).all sign

def words : List Bs := [[108, 101, 116], [99, 111, 110, 115, 116], [102, 117, 110, 99, 116, 105, 111, 110], [99, 108, 97, 115, 115], [105, 102], [101, 108, 115, 101], [119, 104, 105, 108, 101], [114, 101, 116, 117, 114, 110], [116, 104, 114, 111, 119], [110, 101, 119], [116, 104, 105, 115], [110, 117, 108, 108], [117, 110, 100, 101, 102, 105, 110, 101, 100], [116, 114, 117, 101], [102, 97, 108, 115, 101], [116, 121, 112, 101, 111, 102], [105, 109, 112, 111, 114, 116], [101, 120, 112, 111, 114, 116], [100, 101, 102, 97, 117, 108, 116]]

/-- An identifier. -/
def isId (s : Bs) : Bool := signs s && !words.contains s

/-! ### whole trees -/

def plainT (x : Tr) : Bool := x.t == [] && x.n == 0
def bare (x : Tr) : Bool := x.l.isEmpty
def isNone (x : Tr) : Bool := x.k == 14 && plainT x && bare x

mutual
/-- Is a tree a type? -/
def isT : Tr → Bool
 | .mk k t n l =>
  if k = 30 then n == 0 && l.isEmpty && (isId t || t == [110, 117, 108, 108] || t == [117, 110, 100, 101, 102, 105, 110, 101, 100])
  else if k = 31 then t == [] && n == 0 && (match l with | [x] => isT x | _ => false)
  else if k = 32 then unionOk l && (t == [] && n == 0) && decide (2 ≤ l.length)
  else if k = 33 then tpropsOk [] l && (t == [] && n == 0)
  else if k = 35 then t == [] && n == 0 && (match l with | [.mk pk pt pn pl, r] => (pk == 12 && (pt == [] && pn == 0)) && pms true [] pl && isT r | _ => false)
  else false
def unionOk : List Tr → Bool
 | [] => true
 | x :: r => isT x && x.k != 32 && unionOk r
def tpropsOk : List Bs → List Tr → Bool
 | _, [] => true
 | names, .mk k t n l :: r => k == 34 && n == 0 && signs t && (match l with | [x] => isT x | _ => false) && !names.contains t && tpropsOk (t :: names) r
/-- Parameters; typed: each has a type. -/
def pms : Bool → List Bs → List Tr → Bool
 | _, _, [] => true
 | typed, names, .mk k t n l :: r => k == 13 && n == 0 && isId t && (match l with | [x] => ((!typed && isNone x) || isT x) | _ => false) && !names.contains t && pms typed (t :: names) r
end

def isTyOr (x : Tr) : Bool := isNone x || isT x
def isPms (typed : Bool) (x : Tr) : Bool := x.k == 12 && plainT x && pms typed [] x.l

def binOps : List Bs := [[43], [45], [42], [47], [37], [61, 61, 61], [33, 61, 61], [60], [60, 61], [62], [62, 61], [38, 38], [124, 124]]
def unOps : List Bs := [[45], [33], [116, 121, 112, 101, 111, 102]]
def target (x : Tr) : Bool := x.k == 6 || x.k == 21 || x.k == 22

mutual
/-- Is a tree an expression? -/
def isE : Tr → Bool
 | .mk k t n l =>
  if k = 1 then t == [] && decide (0 ≤ n) && decide (n ≤ 9007199254740991) && l.isEmpty
  else if k = 2 then n == 0 && valid t && l.isEmpty
  else if k = 3 then t == [] && (n == 0 || n == 1) && l.isEmpty
  else if k = 4 ∨ k = 5 ∨ k = 7 then (t == [] && n == 0) && l.isEmpty
  else if k = 6 then n == 0 && isId t && l.isEmpty
  else if k = 8 then (t == [] && n == 0) && allE l
  else if k = 9 then propsE l && (t == [] && n == 0)
  else if k = 11 then (t == [] && n == 0) && (match l with | [p, ty, .mk bk bt bn bl] => isPms false p && isTyOr ty && (bk == 52 && (allS bl && (bt == [] && bn == 0))) | _ => false)
  else if k = 15 then n == 0 && unOps.contains t && (match l with | [x] => isE x | _ => false)
  else if k = 16 then n == 0 && binOps.contains t && (match l with | [x, y] => isE x && isE y | _ => false)
  else if k = 17 then (t == [] && n == 0) && (match l with | [x, y, z] => isE x && isE y && isE z | _ => false)
  else if k = 18 then (t == [] && n == 0) && (match l with | [x, y] => isE x && isE y && target x | _ => false)
  else if k = 19 then (t == [] && n == 0) && !l.isEmpty && allE l
  else if k = 20 then n == 0 && isId t && allE l
  else if k = 21 then n == 0 && signs t && (match l with | [x] => isE x | _ => false)
  else if k = 22 then (t == [] && n == 0) && (match l with | [x, y] => isE x && isE y | _ => false)
  else false
def allE : List Tr → Bool
 | [] => true
 | x :: r => isE x && allE r
def propsE : List Tr → Bool
 | [] => true
 | .mk k t n l :: r => k == 10 && n == 0 && signs t && (match l with | [x] => isE x | _ => false) && propsE r
/-- Is a tree a statement? -/
def isS : Tr → Bool
 | .mk k t n l =>
  if k = 40 then isId t && (n == 0 || n == 1) && (match l with | [ty, x] => isTyOr ty && isE x | _ => false)
  else if k = 41 then isId t && n == 0 && (match l with | [p, ty, .mk bk bt bn bl] => isPms false p && isTyOr ty && (bk == 52 && (allS bl && (bt == [] && bn == 0))) | _ => false)
  else if k = 47 ∨ k = 51 then (t == [] && n == 0) && (match l with | [x] => isE x | _ => false)
  else if k = 48 then (t == [] && n == 0) && (match l with
   | [x, .mk bk bt bn bl, .mk ck ct cn cl] => isE x && (bk == 52 && (allS bl && (bt == [] && bn == 0))) && (isNone (.mk ck ct cn cl) || (ck == 52 && (allS cl && (ct == [] && cn == 0)))) | _ => false)
  else if k = 49 then (t == [] && n == 0) && (match l with | [x, .mk bk bt bn bl] => isE x && (bk == 52 && (allS bl && (bt == [] && bn == 0))) | _ => false)
  else if k = 50 then (t == [] && n == 0) && (match l with | [x] => isNone x || isE x | _ => false)
  else if k = 52 then allS l && (t == [] && n == 0)
  else false
def allS : List Tr → Bool
 | [] => true
 | x :: r => isS x && allS r
end

def isBlk (x : Tr) : Bool := x.k == 52 && isS x
def isBody : List Tr → Bool
 | [p, ty, b] => isPms false p && isTyOr ty && isBlk b
 | _ => false

/-- The members of a class: fields, a constructor or none, methods. -/
def memsOk : Nat → List Bs → List Tr → Bool
 | _, _, [] => true
 | stage, names, .mk k t n l :: r =>
  let p : Nat × Bool :=
   if k = 43 then (0, signs t && (match l with | [ty, x] => isTyOr ty && isE x | _ => false))
   else if k = 44 then (1, t == [] && decide (stage < 1) && (match l with | [p, b] => isPms false p && isBlk b | _ => false))
   else if k = 45 then (2, signs t && isBody l)
   else (0, false)
  p.2 && n == 0 && decide (stage ≤ p.1) && (k == 44 || (!names.contains t && t != [99, 111, 110, 115, 116, 114, 117, 99, 116, 111, 114])) && memsOk p.1 (if k = 44 then names else t :: names) r
def isClass (x : Tr) : Bool := x.k == 42 && isId x.t && x.n == 0 && memsOk 0 [] x.l

/-- A Name that is an identifier (or, loose, a property name). -/
def isName (loose : Bool) (x : Tr) : Bool := x.k == 6 && x.n == 0 && bare x && (isId x.t || (loose && signs x.t))

def star : Bs := [42]

/-- The kids of an Import, from place i on, the first kid's text being f. -/
def impsOk (f : Bs) : Nat → List Tr → Bool
 | _, [] => true
 | i, .mk k t n l :: r => k == 61 && n == 0 && (match l with | [o] => isName false o | _ => false) && (t == star || signs t) &&
   (t != star || (decide (i ≤ 1) && (i == 0 || f == [100, 101, 102, 97, 117, 108, 116]) && r.isEmpty)) && impsOk f (i + 1) r
def hasStar (l : List Tr) : Bool := l.any fun x => x.t == star
def isImport (x : Tr) : Bool := valid x.t && (x.n == 0 || x.n == 1) && impsOk (match x.l with | [] => [] | y :: _ => y.t) 0 x.l && (x.n == 0 || (!x.l.isEmpty && !hasStar x.l))

def oneOk (req : Bs) (num : Int) (many : Bool) (o : Tr) : Bool :=
 o.k == 65 && o.n == 0 && (match o.l with | [y] => isNone y || (isName true y && y.t != o.t) | _ => false) &&
 (if o.t = star then !many && req != [] && num == 0 else signs o.t && (req != [] || isId o.t))
def isFrom (x : Tr) : Bool := valid x.t && (x.n == 0 || x.n == 1) && !x.l.isEmpty && x.l.all (oneOk x.t x.n (decide (1 < x.l.length)))

/-- Is a tree an item, but an Export, a Default, a statement? -/
def isIt (x : Tr) : Bool :=
 if x.k = 42 then isClass x
 else if x.k = 46 then isId x.t && x.n == 0 && (match x.l with | [y] => isT y | _ => false)
 else if x.k = 60 then isImport x
 else if x.k = 64 then isFrom x
 else isS x
def isItem (x : Tr) : Bool :=
 if x.k = 62 then plainT x && (match x.l with | [y] => (y.k == 40 || y.k == 41 || y.k == 42 || y.k == 46) && isIt y | _ => false)
 else if x.k = 63 then plainT x && (match x.l with | [y] => isE y || ((y.k == 41 || y.k == 42) && isIt y) | _ => false)
 else isIt x

def isSpace (x : Tr) : Bool := x.k == 66 && isId x.t && x.n == 0 && x.l.all fun o => o.k == 67 && o.n == 0 && signs o.t && (match o.l with | [y] => isName false y | _ => false)

mutual
/-- Does a name in a tree have a $? -/
def dollar : Tr → Bool
 | .mk k t _ l => ((k != 2 && k != 60 && k != 64) && t.contains 36) || dollars l
def dollars : List Tr → Bool
 | [] => false
 | x :: r => dollar x || dollars r
end

/-- A tree's form. -/
def form (x : Tr) : Int :=
 if isE x then 1 else if isT x then 2 else if isS x then 3 else if isItem x then 4
 else if x.k = 68 ∧ plainT x = true then (if x.l.all fun y => isItem y && !dollar y then 5 else 0)
 else if x.k = 69 ∧ plainT x = true then (if x.l.all fun y => isS y || isClass y || isSpace y then 6 else 0)
 else 0

/-! ### the text -/

def binRank (t : Bs) : Nat :=
 if t = [124, 124] then 3 else if t = [38, 38] then 4 else if t = [61, 61, 61] ∨ t = [33, 61, 61] then 5
 else if t = [60] ∨ t = [60, 61] ∨ t = [62] ∨ t = [62, 61] then 6 else if t = [43] ∨ t = [45] then 7 else 8
def rankK (k : Int) (t : Bs) : Nat :=
 if k = 18 then 1 else if k = 17 then 2 else if k = 16 then binRank t else if k = 15 then 9 else if k = 19 ∨ k = 21 ∨ k = 22 then 10 else 11
def rank (x : Tr) : Nat := rankK x.k x.t

/-- A byte in quotes. -/
def hexD (n : Nat) : UInt8 := if n < 10 then UInt8.ofNat (48 + n) else UInt8.ofNat (87 + n)
def hex (n : Nat) : Bs := if n < 16 then [hexD n] else [hexD (n / 16), hexD (n % 16)]
def escB (c : UInt8) : Bs :=
 if c = 34 ∨ c = 92 then [92, c] else if c = 10 then [92, 110] else if c = 9 then [92, 116]
 else if c.toNat < 32 ∨ c = 127 then [92, 117, 123] ++ hex c.toNat ++ [125] else [c]
def quote (t : Bs) : Bs := 34 :: (t.flatMap escB ++ [34])

def ind (d : Nat) : Bs := List.replicate (2 * d) 32

mutual
/-- A type's text. -/
def outT : Tr → Bs
 | .mk k t _ l =>
  if k = 30 then t
  else if k = 31 then (match l with | [x] => (if x.k = 32 ∨ x.k = 35 then [40] ++ outT x ++ [41] else outT x) ++ [91, 93] | _ => [])
  else if k = 32 then unionT true l
  else if k = 33 then (if l.isEmpty then [123, 125] else [123, 32] ++ tpropsT l ++ [125])
  else if k = 35 then (match l with | [.mk _ _ _ pl, r] => [40] ++ parsT true pl ++ [41, 32, 61, 62, 32] ++ outT r | _ => [])
  else []
def unionT : Bool → List Tr → Bs
 | _, [] => []
 | first, x :: r => (if first then [] else [32, 124, 32]) ++ (if x.k = 35 then [40] ++ outT x ++ [41] else outT x) ++ unionT false r
def tpropsT : List Tr → Bs
 | [] => []
 | .mk _ t _ l :: r => (match l with | [x] => t ++ [58, 32] ++ outT x ++ [59, 32] | _ => []) ++ tpropsT r
def parsT : Bool → List Tr → Bs
 | _, [] => []
 | first, .mk _ t _ l :: r => (if first then [] else [44, 32]) ++ (match l with | [x] => t ++ (if x.k = 14 then [] else [58, 32] ++ outT x) | _ => []) ++ parsT false r
end
def tyOr (x : Tr) : Bs := if x.k = 14 then [] else [58, 32] ++ outT x
def pmsT (x : Tr) : Bs := [40] ++ parsT true x.l ++ [41]

def startsB (p s : Bs) : Bool := p.isPrefixOf s
def firstB (s : Bs) : Bool := startsB [123] s || startsB [102, 117, 110, 99, 116, 105, 111, 110, 32] s

mutual
/-- An expression's text at depth d, where a rank is asked for. -/
def outE (d r : Nat) : Tr → Bs
 | .mk k t n l =>
  let s : Bs :=
   if k = 1 then Lib.itoa n
   else if k = 2 then quote t
   else if k = 3 then (if n = 1 then [116, 114, 117, 101] else [102, 97, 108, 115, 101])
   else if k = 4 then [110, 117, 108, 108]
   else if k = 5 then [117, 110, 100, 101, 102, 105, 110, 101, 100]
   else if k = 6 then t
   else if k = 7 then [116, 104, 105, 115]
   else if k = 8 then [91] ++ listE d true l ++ [93]
   else if k = 9 then (if l.isEmpty then [123, 125] else [123, 32] ++ propsT d true l ++ [32, 125])
   else if k = 11 then (match l with | [p, ty, .mk _ _ _ bl] => [102, 117, 110, 99, 116, 105, 111, 110, 32] ++ (pmsT p ++ tyOr ty ++ [32] ++ ([123] ++ linesS (d + 1) bl ++ (if bl.isEmpty then [] else 10 :: ind d) ++ [125])) | _ => [])
   else if k = 15 then (match l with | [x] => t ++ (if t = [116, 121, 112, 101, 111, 102] then [32] else []) ++ outE d 9 x | _ => [])
   else if k = 16 then (match l with | [x, y] => outE d (binRank t) x ++ ([32] ++ t ++ [32]) ++ outE d (binRank t + 1) y | _ => [])
   else if k = 17 then (match l with | [x, y, z] => outE d 3 x ++ [32, 63, 32] ++ outE d 1 y ++ [32, 58, 32] ++ outE d 1 z | _ => [])
   else if k = 18 then (match l with | [x, y] => outE d 10 x ++ [32, 61, 32] ++ outE d 1 y | _ => [])
   else if k = 19 then (match l with | x :: r => outE d 10 x ++ [40] ++ listE d true r ++ [41] | _ => [])
   else if k = 20 then [110, 101, 119, 32] ++ t ++ [40] ++ listE d true l ++ [41]
   else if k = 21 then (match l with | [x] => outE d 10 x ++ [46] ++ t | _ => [])
   else if k = 22 then (match l with | [x, y] => outE d 10 x ++ [91] ++ outE d 1 y ++ [93] | _ => [])
   else []
  if rankK k t < r then [40] ++ s ++ [41] else s
def listE (d : Nat) : Bool → List Tr → Bs
 | _, [] => []
 | first, x :: r => (if first then [] else [44, 32]) ++ outE d 1 x ++ listE d false r
def propsT (d : Nat) : Bool → List Tr → Bs
 | _, [] => []
 | first, .mk _ t _ l :: r => (if first then [] else [44, 32]) ++ (match l with | [x] => t ++ [58, 32] ++ outE d 1 x | _ => []) ++ propsT d false r
/-- A statement's text. -/
def outS (d : Nat) : Tr → Bs
 | .mk k t n l =>
  if k = 40 then (match l with | [ty, x] => (if n = 0 then [108, 101, 116, 32] else [99, 111, 110, 115, 116, 32]) ++ t ++ tyOr ty ++ [32, 61, 32] ++ outE d 1 x ++ [59] | _ => [])
  else if k = 41 then (match l with | [p, ty, .mk _ _ _ bl] => [102, 117, 110, 99, 116, 105, 111, 110, 32] ++ t ++ (pmsT p ++ tyOr ty ++ [32] ++ ([123] ++ linesS (d + 1) bl ++ (if bl.isEmpty then [] else 10 :: ind d) ++ [125])) | _ => [])
  else if k = 47 then (match l with | [x] => if firstB (outE 0 1 x) then [40] ++ outE d 1 x ++ [41, 59] else outE d 1 x ++ [59] | _ => [])
  else if k = 48 then (match l with
   | [x, .mk _ _ _ bl, .mk ck _ _ cl] => [105, 102, 32, 40] ++ outE d 1 x ++ [41, 32] ++ ([123] ++ linesS (d + 1) bl ++ (if bl.isEmpty then [] else 10 :: ind d) ++ [125]) ++
     (if ck = 14 then [] else [32, 101, 108, 115, 101, 32] ++ ([123] ++ linesS (d + 1) cl ++ (if cl.isEmpty then [] else 10 :: ind d) ++ [125]))
   | _ => [])
  else if k = 49 then (match l with | [x, .mk _ _ _ bl] => [119, 104, 105, 108, 101, 32, 40] ++ outE d 1 x ++ [41, 32] ++ ([123] ++ linesS (d + 1) bl ++ (if bl.isEmpty then [] else 10 :: ind d) ++ [125]) | _ => [])
  else if k = 50 then (match l with | [x] => [114, 101, 116, 117, 114, 110] ++ (if x.k = 14 then [] else [32] ++ outE d 1 x) ++ [59] | _ => [])
  else if k = 51 then (match l with | [x] => [116, 104, 114, 111, 119, 32] ++ outE d 1 x ++ [59] | _ => [])
  else if k = 52 then [123] ++ linesS (d + 1) l ++ (if l.isEmpty then [] else 10 :: ind d) ++ [125]
  else []
def linesS (d : Nat) : List Tr → Bs
 | [] => []
 | x :: r => 10 :: (ind d ++ outS d x) ++ linesS d r
end

def blk (d : Nat) (l : List Tr) : Bs := [123] ++ linesS (d + 1) l ++ (if l.isEmpty then [] else 10 :: ind d) ++ [125]
def bodyT (d : Nat) : List Tr → Bs
 | [p, ty, b] => pmsT p ++ tyOr ty ++ [32] ++ blk d b.l
 | _ => []
def alone (d : Nat) (x : Tr) : Bs := if firstB (outE 0 1 x) then [40] ++ outE d 1 x ++ [41, 59] else outE d 1 x ++ [59]

def outM (d : Nat) (x : Tr) : Bs :=
 if x.k = 43 then (match x.l with | [ty, y] => x.t ++ tyOr ty ++ [32, 61, 32] ++ outE d 1 y ++ [59] | _ => [])
 else if x.k = 44 then (match x.l with | [p, b] => [99, 111, 110, 115, 116, 114, 117, 99, 116, 111, 114] ++ pmsT p ++ [32] ++ blk d b.l | _ => [])
 else if x.k = 45 then x.t ++ bodyT d x.l
 else []
def linesM (d : Nat) : List Tr → Bs
 | [] => []
 | x :: r => 10 :: (ind d ++ outM d x) ++ linesM d r
def oneT (o : Tr) : Bs := match o.l with
 | [y] => o.t ++ (if y.k = 14 ∨ (o.k = 61 ∧ y.t = o.t) then [] else [32, 97, 115, 32] ++ y.t)
 | _ => []
def namesT : Bool → List Tr → Bs
 | _, [] => []
 | first, o :: r => (if first then [] else [44, 32]) ++ oneT o ++ namesT false r
def kid0 (o : Tr) : Tr := match o.l with | y :: _ => y | [] => o
def restI (l : List Tr) : Bs := match l with
 | [] => []
 | y :: _ => if y.t = star then [42, 32, 97, 115, 32] ++ (kid0 y).t else [123, 32] ++ namesT true l ++ [32, 125]
def importT (x : Tr) : Bs :=
 [105, 109, 112, 111, 114, 116, 32] ++ (match x.l with
  | [] => []
  | y :: r => (if x.n = 1 then [116, 121, 112, 101, 32] else []) ++ (if y.t = [100, 101, 102, 97, 117, 108, 116] then (kid0 y).t ++ (if r.isEmpty then [] else [44, 32]) ++ restI r else restI (y :: r)) ++ [32, 102, 114, 111, 109, 32]) ++ quote x.t ++ [59]
def exportT (x : Tr) : Bs :=
 [101, 120, 112, 111, 114, 116, 32] ++ (if x.n = 1 then [116, 121, 112, 101, 32] else []) ++ (match x.l with
  | [] => []
  | y :: r => if y.t = star then [42] ++ (if (kid0 y).k = 14 then [] else [32, 97, 115, 32] ++ (kid0 y).t) else [123, 32] ++ namesT true (y :: r) ++ [32, 125]) ++
 (if x.t = [] then [] else [32, 102, 114, 111, 109, 32] ++ quote x.t) ++ [59]
def linesN (d : Nat) : List Tr → Bs
 | [] => []
 | x :: r => 10 :: (ind d ++ (x.t ++ [32, 61, 32] ++ (kid0 x).t ++ [59])) ++ linesN d r
def closeL (d : Nat) (l : List Tr) : Bs := (if l.isEmpty then [] else 10 :: ind d) ++ [125]
/-- An item's text, but of an Export or a Default. -/
def outIt (d : Nat) (x : Tr) : Bs :=
 if x.k = 42 then [99, 108, 97, 115, 115, 32] ++ x.t ++ [32] ++ [123] ++ linesM (d + 1) x.l ++ closeL d x.l
 else if x.k = 46 then (match x.l with | [y] => [116, 121, 112, 101, 32] ++ x.t ++ [32, 61, 32] ++ outT y ++ [59] | _ => [])
 else if x.k = 60 then importT x
 else if x.k = 64 then exportT x
 else if x.k = 66 then [110, 97, 109, 101, 115, 112, 97, 99, 101, 32] ++ x.t ++ [32] ++ [123] ++ linesN (d + 1) x.l ++ closeL d x.l
 else outS d x
def outI (d : Nat) (x : Tr) : Bs :=
 if x.k = 62 then (match x.l with | [y] => [101, 120, 112, 111, 114, 116, 32] ++ outIt d y | _ => [])
 else if x.k = 63 then (match x.l with | [y] => [101, 120, 112, 111, 114, 116, 32, 100, 101, 102, 97, 117, 108, 116, 32] ++ (if y.k = 41 ∨ y.k = 42 then outIt d y else alone d y) | _ => [])
 else outIt d x

/-- What Show answers, the tree being of that form. -/
def text (x : Tr) : Bs :=
 if form x = 1 then outE 0 1 x else if form x = 2 then outT x else if form x = 3 ∨ form x = 4 then outI 0 x
 else if form x = 5 ∨ form x = 6 then x.l.flatMap fun y => outI 0 y ++ [10]
 else []

end Go.Proofs.YtpmlmpibpmoclaaGreatDoor
