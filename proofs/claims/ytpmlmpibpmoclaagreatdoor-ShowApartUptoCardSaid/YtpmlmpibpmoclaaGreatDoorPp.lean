/-
  The pieces that show gathers for a tree, and that they are laid out to the tree's text: plain.
-/
import Derived.Test.YtpmlmpibpmoclaaGreatDoorPc
namespace Go.Proofs.YtpmlmpibpmoclaaGreatDoor
set_option linter.all false
set_option maxHeartbeats 1000000

abbrev wd (s : Bs) : Pc := .word s

mutual
/-- A type's pieces. -/
def qT : Tr → List Pc
 | .mk k t _ l =>
  if k = 30 then [wd t]
  else if k = 31 then (match l with | [x] => (if x.k = 32 ∨ x.k = 35 then [wd [40]] ++ qT x ++ [wd [41]] else qT x) ++ [wd [91, 93]] | _ => [])
  else if k = 32 then unionP true l
  else if k = 33 then (if l.isEmpty then [wd [123, 125]] else [wd [123, 32]] ++ tpropsP l ++ [wd [125]])
  else if k = 35 then (match l with | [.mk _ _ _ pl, r] => [wd [40]] ++ parsP true pl ++ [wd [41]] ++ [wd [32, 61, 62, 32]] ++ qT r | _ => [])
  else []
def unionP : Bool → List Tr → List Pc
 | _, [] => []
 | first, x :: r => (if first then [] else [wd [32, 124, 32]]) ++ (if x.k = 35 then [wd [40]] ++ qT x ++ [wd [41]] else qT x) ++ unionP false r
def tpropsP : List Tr → List Pc
 | [] => []
 | .mk _ t _ l :: r => (match l with | [x] => [wd t, wd [58, 32]] ++ qT x ++ [wd [59, 32]] | _ => []) ++ tpropsP r
def parsP : Bool → List Tr → List Pc
 | _, [] => []
 | first, .mk _ t _ l :: r => (if first then [] else [wd [44, 32]]) ++ (match l with | [x] => [wd t] ++ (if x.k = 14 then [] else [wd [58, 32]] ++ qT x) | _ => []) ++ parsP false r
end
def tyOrP (x : Tr) : List Pc := if x.k = 14 then [] else [wd [58, 32]] ++ qT x
def pmsP (x : Tr) : List Pc := [wd [40]] ++ parsP true x.l ++ [wd [41]]

mutual
/-- An expression's pieces, where a rank is asked for. -/
def qE (r : Nat) : Tr → List Pc
 | .mk k t n l =>
  let s : List Pc :=
   if k = 1 then [wd (Lib.itoa n)]
   else if k = 2 then [wd (quote t)]
   else if k = 3 then [wd (if n = 1 then [116, 114, 117, 101] else [102, 97, 108, 115, 101])]
   else if k = 4 then [wd [110, 117, 108, 108]]
   else if k = 5 then [wd [117, 110, 100, 101, 102, 105, 110, 101, 100]]
   else if k = 6 then [wd t]
   else if k = 7 then [wd [116, 104, 105, 115]]
   else if k = 8 then [wd [91]] ++ listP true l ++ [wd [93]]
   else if k = 9 then (if l.isEmpty then [wd [123, 125]] else [wd [123, 32]] ++ propsP true l ++ [wd [32, 125]])
   else if k = 11 then (match l with | [p, ty, .mk _ _ _ bl] => [wd [102, 117, 110, 99, 116, 105, 111, 110, 32]] ++ (pmsP p ++ tyOrP ty ++ [wd [32]] ++ (.opn :: (linesP bl ++ [.shut]))) | _ => [])
   else if k = 15 then (match l with | [x] => [wd t] ++ (if t = [116, 121, 112, 101, 111, 102] then [wd [32]] else []) ++ qE 9 x | _ => [])
   else if k = 16 then (match l with | [x, y] => qE (binRank t) x ++ [wd [32], wd t, wd [32]] ++ qE (binRank t + 1) y | _ => [])
   else if k = 17 then (match l with | [x, y, z] => qE 3 x ++ [wd [32, 63, 32]] ++ qE 1 y ++ [wd [32, 58, 32]] ++ qE 1 z | _ => [])
   else if k = 18 then (match l with | [x, y] => qE 10 x ++ [wd [32, 61, 32]] ++ qE 1 y | _ => [])
   else if k = 19 then (match l with | x :: r => qE 10 x ++ [wd [40]] ++ listP true r ++ [wd [41]] | _ => [])
   else if k = 20 then [wd [110, 101, 119, 32], wd t, wd [40]] ++ listP true l ++ [wd [41]]
   else if k = 21 then (match l with | [x] => qE 10 x ++ [wd [46], wd t] | _ => [])
   else if k = 22 then (match l with | [x, y] => qE 10 x ++ [wd [91]] ++ qE 1 y ++ [wd [93]] | _ => [])
   else []
  if rankK k t < r then [wd [40]] ++ s ++ [wd [41]] else s
def listP : Bool → List Tr → List Pc
 | _, [] => []
 | first, x :: r => (if first then [] else [wd [44, 32]]) ++ qE 1 x ++ listP false r
def propsP : Bool → List Tr → List Pc
 | _, [] => []
 | first, .mk _ t _ l :: r => (if first then [] else [wd [44, 32]]) ++ (match l with | [x] => [wd t, wd [58, 32]] ++ qE 1 x | _ => []) ++ propsP false r
/-- A statement's pieces. -/
def qS : Tr → List Pc
 | .mk k t n l =>
  if k = 40 then (match l with | [ty, x] => [wd (if n = 0 then [108, 101, 116, 32] else [99, 111, 110, 115, 116, 32]), wd t] ++ tyOrP ty ++ [wd [32, 61, 32]] ++ qE 1 x ++ [wd [59]] | _ => [])
  else if k = 41 then (match l with | [p, ty, .mk _ _ _ bl] => [wd [102, 117, 110, 99, 116, 105, 111, 110, 32], wd t] ++ (pmsP p ++ tyOrP ty ++ [wd [32]] ++ (.opn :: (linesP bl ++ [.shut]))) | _ => [])
  else if k = 47 then (match l with | [x] => if firstB (lay 0 false (qE 1 x)) then [wd [40]] ++ qE 1 x ++ [wd [41, 59]] else qE 1 x ++ [wd [59]] | _ => [])
  else if k = 48 then (match l with
   | [x, .mk _ _ _ bl, .mk ck _ _ cl] => [wd [105, 102, 32, 40]] ++ qE 1 x ++ [wd [41, 32]] ++ (.opn :: (linesP bl ++ [.shut])) ++
     (if ck = 14 then [] else [wd [32, 101, 108, 115, 101, 32]] ++ (.opn :: (linesP cl ++ [.shut])))
   | _ => [])
  else if k = 49 then (match l with | [x, .mk _ _ _ bl] => [wd [119, 104, 105, 108, 101, 32, 40]] ++ qE 1 x ++ [wd [41, 32]] ++ (.opn :: (linesP bl ++ [.shut])) | _ => [])
  else if k = 50 then (match l with | [x] => [wd [114, 101, 116, 117, 114, 110]] ++ (if x.k = 14 then [] else [wd [32]] ++ qE 1 x) ++ [wd [59]] | _ => [])
  else if k = 51 then (match l with | [x] => [wd [116, 104, 114, 111, 119, 32]] ++ qE 1 x ++ [wd [59]] | _ => [])
  else if k = 52 then .opn :: (linesP l ++ [.shut])
  else []
def linesP : List Tr → List Pc
 | [] => []
 | x :: r => .line :: qS x ++ linesP r
end

def blkP (l : List Tr) : List Pc := .opn :: (linesP l ++ [.shut])
def bodyP : List Tr → List Pc
 | [p, ty, b] => pmsP p ++ tyOrP ty ++ [wd [32]] ++ blkP b.l
 | _ => []
def aloneP (x : Tr) : List Pc := if firstB (lay 0 false (qE 1 x)) then [wd [40]] ++ qE 1 x ++ [wd [41, 59]] else qE 1 x ++ [wd [59]]

def qM (x : Tr) : List Pc :=
 if x.k = 43 then (match x.l with | [ty, y] => [wd x.t] ++ tyOrP ty ++ [wd [32, 61, 32]] ++ qE 1 y ++ [wd [59]] | _ => [])
 else if x.k = 44 then (match x.l with | [p, b] => [wd [99, 111, 110, 115, 116, 114, 117, 99, 116, 111, 114]] ++ pmsP p ++ [wd [32]] ++ blkP b.l | _ => [])
 else if x.k = 45 then [wd x.t] ++ bodyP x.l
 else []
def linesMP : List Tr → List Pc
 | [] => []
 | x :: r => .line :: qM x ++ linesMP r
def oneP (o : Tr) : List Pc := match o.l with
 | [y] => [wd o.t] ++ (if y.k = 14 ∨ (o.k = 61 ∧ y.t = o.t) then [] else [wd [32, 97, 115, 32], wd y.t])
 | _ => []
def namesP : Bool → List Tr → List Pc
 | _, [] => []
 | first, o :: r => (if first then [] else [wd [44, 32]]) ++ oneP o ++ namesP false r
def restP (l : List Tr) : List Pc := match l with
 | [] => []
 | y :: _ => if y.t = star then [wd [42, 32, 97, 115, 32], wd (kid0 y).t] else [wd [123, 32]] ++ namesP true l ++ [wd [32, 125]]
def importP (x : Tr) : List Pc :=
 [wd [105, 109, 112, 111, 114, 116, 32]] ++ (match x.l with
  | [] => []
  | y :: r => (if x.n = 1 then [wd [116, 121, 112, 101, 32]] else []) ++ (if y.t = [100, 101, 102, 97, 117, 108, 116] then [wd (kid0 y).t] ++ (if r.isEmpty then [] else [wd [44, 32]]) ++ restP r else restP (y :: r)) ++ [wd [32, 102, 114, 111, 109, 32]]) ++ [wd (quote x.t), wd [59]]
def exportP (x : Tr) : List Pc :=
 [wd [101, 120, 112, 111, 114, 116, 32]] ++ (if x.n = 1 then [wd [116, 121, 112, 101, 32]] else []) ++ (match x.l with
  | [] => []
  | y :: r => if y.t = star then [wd [42]] ++ (if (kid0 y).k = 14 then [] else [wd [32, 97, 115, 32], wd (kid0 y).t]) else [wd [123, 32]] ++ namesP true (y :: r) ++ [wd [32, 125]]) ++
 (if x.t = [] then [] else [wd [32, 102, 114, 111, 109, 32], wd (quote x.t)]) ++ [wd [59]]
def linesNP : List Tr → List Pc
 | [] => []
 | x :: r => .line :: [wd x.t, wd [32, 61, 32], wd (kid0 x).t, wd [59]] ++ linesNP r
/-- An item's pieces, but of an Export or a Default. -/
def qIt (x : Tr) : List Pc :=
 if x.k = 42 then [wd [99, 108, 97, 115, 115, 32], wd x.t, wd [32]] ++ (.opn :: (linesMP x.l ++ [.shut]))
 else if x.k = 46 then (match x.l with | [y] => [wd [116, 121, 112, 101, 32], wd x.t, wd [32, 61, 32]] ++ qT y ++ [wd [59]] | _ => [])
 else if x.k = 60 then importP x
 else if x.k = 64 then exportP x
 else if x.k = 66 then [wd [110, 97, 109, 101, 115, 112, 97, 99, 101, 32], wd x.t, wd [32]] ++ (.opn :: (linesNP x.l ++ [.shut]))
 else qS x
def qI (x : Tr) : List Pc :=
 if x.k = 62 then (match x.l with | [y] => [wd [101, 120, 112, 111, 114, 116, 32]] ++ qIt y | _ => [])
 else if x.k = 63 then (match x.l with | [y] => [wd [101, 120, 112, 111, 114, 116, 32, 100, 101, 102, 97, 117, 108, 116, 32]] ++ (if y.k = 41 ∨ y.k = 42 then qIt y else aloneP y) | _ => [])
 else qIt x

/-! ### they are laid out to the text -/

theorem Lays.cons {P : List Pc} {f : Nat → Bs} (s : Bs) (h : Lays P f) : Lays (wd s :: P) fun d => s ++ f d := (Lays.word s).append h
theorem Lays.ite {c : Prop} [Decidable c] {P Q : List Pc} {f g : Nat → Bs} (h1 : c → Lays P f) (h2 : ¬ c → Lays Q g) : Lays (if c then P else Q) fun d => if c then f d else g d := by
 by_cases h : c
 ·simp only [h, if_true]; exact h1 h
 ·simp only [h, if_false]; exact h2 h
theorem Lays.block {P : List Pc} {b : Bool} {f : Nat → Bs} (hp : LaysL P b f) : Lays (.opn :: (P ++ [.shut])) fun d => [123] ++ f (d + 1) ++ (if b then 10 :: ind d else []) ++ [125] :=
 (LaysL.block hp).of fun d => by simp
theorem LaysL.cons {P Q : List Pc} {b : Bool} {f g : Nat → Bs} (hq : Lays Q g) (hp : LaysL P b f) : LaysL (.line :: Q ++ P) true fun d => 10 :: (ind d ++ g d) ++ f d :=
 ⟨fun d e R => by
  simp only [List.cons_append, List.append_assoc, Go.Proofs.YtpmlmpibpmoclaaGreatDoor.lay, hq.lay, hp.lay]
  cases b <;> simp,
  fun d R h => by
  show Go.Proofs.YtpmlmpibpmoclaaGreatDoor.okd d (Q ++ P ++ R)
  rw [List.append_assoc]
  exact hq.okd _ _ (hp.okd _ _ h)⟩

theorem laysT (N : Nat) : ∀ x : Tr, cnt x < N → Lays (qT x) fun _ => outT x := by
 induction N with
 | zero => intro x h; omega
 | succ N ih =>
  have hu : ∀ (l : List Tr) (b : Bool), cnts l < N → Lays (unionP b l) fun _ => unionT b l := by
   intro l
   induction l with
   | nil => intro b _; simp only [unionP, unionT]; exact Lays.nil
   | cons x r ih2 =>
    intro b hl
    simp only [cnts] at hl
    have h1 := ih x (by omega)
    have h2 := ih2 false (by omega)
    simp only [unionP, unionT]
    refine (Lays.append ?_ ?_).append h2
    ·cases b
     ·exact Lays.word _
     ·exact Lays.nil
    ·exact Lays.ite (fun _ => ((Lays.word _).append h1).append (Lays.word _)) (fun _ => h1)
  have hp : ∀ l : List Tr, cnts l < N → Lays (tpropsP l) fun _ => tpropsT l := by
   intro l
   induction l with
   | nil => intro _; simp only [tpropsP, tpropsT]; exact Lays.nil
   | cons x r ih2 =>
    intro hl
    obtain ⟨k, t, n, m⟩ := x
    simp only [cnts, cnt] at hl
    rcases m with _ | ⟨y, _ | ⟨z, m⟩⟩
    ·simp only [tpropsP, tpropsT]
     exact Lays.append Lays.nil (ih2 (by omega))
    ·simp only [cnts] at hl
     simp only [tpropsP, tpropsT]
     exact ((((Lays.cons t (Lays.word _)).append (ih y (by omega))).append (Lays.word _)).of (fun d => by simp)).append (ih2 (by omega))
    ·simp only [tpropsP, tpropsT]
     exact Lays.append Lays.nil (ih2 (by omega))
  have hm : ∀ (l : List Tr) (b : Bool), cnts l < N → Lays (parsP b l) fun _ => parsT b l := by
   intro l
   induction l with
   | nil => intro b _; simp only [parsP, parsT]; exact Lays.nil
   | cons x r ih2 =>
    intro b hl
    obtain ⟨k, t, n, m⟩ := x
    simp only [cnts, cnt] at hl
    have h0 : Lays (if b = true then [] else [wd [44, 32]]) fun _ => if b = true then [] else [44, 32] := Lays.ite (fun _ => Lays.nil) (fun _ => Lays.word _)
    rcases m with _ | ⟨y, _ | ⟨z, m⟩⟩
    ·simp only [parsP, parsT]
     exact (h0.append Lays.nil).append (ih2 false (by omega))
    ·simp only [cnts] at hl
     simp only [parsP, parsT]
     exact (h0.append ((Lays.word t).append (Lays.ite (fun _ => Lays.nil) (fun _ => (Lays.word _).append (ih y (by omega)))))).append (ih2 false (by omega))
    ·simp only [parsP, parsT]
     exact (h0.append Lays.nil).append (ih2 false (by omega))
  rintro ⟨k, t, n, l⟩ hx
  simp only [cnt] at hx
  unfold qT outT
  refine Lays.ite (fun _ => Lays.word _) fun _ => ?_
  refine Lays.ite (fun _ => ?_) fun _ => ?_
  ·rcases l with _ | ⟨x, _ | ⟨y, m⟩⟩
   ·exact Lays.nil
   ·simp only [cnts] at hx
    have h1 := ih x (by omega)
    exact (Lays.ite (fun _ => ((Lays.word _).append h1).append (Lays.word _)) (fun _ => h1)).append (Lays.word _)
   ·exact Lays.nil
  refine Lays.ite (fun _ => hu l true (by omega)) fun _ => ?_
  refine Lays.ite (fun _ => ?_) fun _ => ?_
  ·cases l.isEmpty
   ·exact ((Lays.word _).append (hp l (by omega))).append (Lays.word _)
   ·exact Lays.word _
  refine Lays.ite (fun _ => ?_) fun _ => Lays.nil
  rcases l with _ | ⟨⟨pk, pt, pn, pl⟩, _ | ⟨y, _ | ⟨z, m⟩⟩⟩
  ·exact Lays.nil
  ·exact Lays.nil
  ·simp only [cnts, cnt] at hx
   exact (((((Lays.word _).append (hm pl true (by omega))).append (Lays.word _)).append (Lays.word _)).append (ih y (by omega))).of fun d => by simp
  ·exact Lays.nil

theorem lays_T (x : Tr) : Lays (qT x) fun _ => outT x := laysT _ x (Nat.lt_succ_self _)
theorem lays_pars (l : List Tr) (b : Bool) : Lays (parsP b l) fun _ => parsT b l := by
 induction l generalizing b with
 | nil => simp only [parsP, parsT]; exact Lays.nil
 | cons x r ih2 =>
  obtain ⟨k, t, n, m⟩ := x
  have h0 : Lays (if b = true then [] else [wd [44, 32]]) fun _ => if b = true then [] else [44, 32] := Lays.ite (fun _ => Lays.nil) (fun _ => Lays.word _)
  rcases m with _ | ⟨y, _ | ⟨z, m⟩⟩
  ·simp only [parsP, parsT]
   exact (h0.append Lays.nil).append (ih2 false)
  ·simp only [parsP, parsT]
   exact (h0.append ((Lays.word t).append (Lays.ite (fun _ => Lays.nil) (fun _ => (Lays.word _).append (lays_T y))))).append (ih2 false)
  ·simp only [parsP, parsT]
   exact (h0.append Lays.nil).append (ih2 false)
theorem lays_tyOr (x : Tr) : Lays (tyOrP x) fun _ => tyOr x := Lays.ite (fun _ => Lays.nil) (fun _ => (Lays.word _).append (lays_T x))
theorem lays_pms (x : Tr) : Lays (pmsP x) fun _ => pmsT x := ((Lays.word _).append (lays_pars x.l true)).append (Lays.word _)

theorem blk_eq (l : List Tr) (d : Nat) : ([123] ++ linesS (d + 1) l ++ (if (!l.isEmpty) = true then 10 :: ind d else []) ++ [125]) = [123] ++ linesS (d + 1) l ++ (if l.isEmpty then [] else 10 :: ind d) ++ [125] := by
 cases l <;> simp

theorem laysES (N : Nat) : (∀ x : Tr, cnt x < N → ∀ r, Lays (qE r x) fun d => outE d r x) ∧ (∀ x : Tr, cnt x < N → Lays (qS x) fun d => outS d x) := by
 induction N with
 | zero => exact ⟨fun x h => by omega, fun x h => by omega⟩
 | succ N ih =>
  obtain ⟨ihE, ihS⟩ := ih
  have hl : ∀ (l : List Tr) (b : Bool), cnts l < N → Lays (listP b l) fun d => listE d b l := by
   intro l
   induction l with
   | nil => intro b _; simp only [listP, listE]; exact Lays.nil
   | cons x r ih2 =>
    intro b hl
    simp only [cnts] at hl
    simp only [listP, listE]
    refine (Lays.append ?_ (ihE x (by omega) 1)).append (ih2 false (by omega))
    cases b
    ·exact Lays.word _
    ·exact Lays.nil
  have hp : ∀ (l : List Tr) (b : Bool), cnts l < N → Lays (propsP b l) fun d => propsT d b l := by
   intro l
   induction l with
   | nil => intro b _; simp only [propsP, propsT]; exact Lays.nil
   | cons x r ih2 =>
    intro b hl
    obtain ⟨k, t, n, m⟩ := x
    simp only [cnts, cnt] at hl
    have h0 : Lays (if b = true then [] else [wd [44, 32]]) fun _ => if b = true then [] else [44, 32] := Lays.ite (fun _ => Lays.nil) (fun _ => Lays.word _)
    rcases m with _ | ⟨y, _ | ⟨z, m⟩⟩
    ·simp only [propsP, propsT]
     exact (h0.append Lays.nil).append (ih2 false (by omega))
    ·simp only [cnts] at hl
     simp only [propsP, propsT]
     exact (h0.append (((Lays.cons t (Lays.word _)).append (ihE y (by omega) 1)).of (fun d => by simp))).append (ih2 false (by omega))
    ·simp only [propsP, propsT]
     exact (h0.append Lays.nil).append (ih2 false (by omega))
  have hs : ∀ l : List Tr, cnts l < N → LaysL (linesP l) (!l.isEmpty) fun d => linesS d l := by
   intro l
   induction l with
   | nil => intro _; simp only [linesP, linesS]; exact LaysL.nil
   | cons x r ih2 =>
    intro hl
    simp only [cnts] at hl
    simp only [linesP, linesS]
    exact LaysL.cons (ihS x (by omega)) (ih2 (by omega))
  have hb : ∀ l : List Tr, cnts l < N → Lays (.opn :: (linesP l ++ [.shut])) fun d => [123] ++ linesS (d + 1) l ++ (if l.isEmpty then [] else 10 :: ind d) ++ [125] :=
   fun l h => (Lays.block (hs l h)).of fun d => blk_eq l d
  refine ⟨?_, ?_⟩
  ·rintro ⟨k, t, n, l⟩ hx r
   simp only [cnt] at hx
   unfold qE outE
   have W : ∀ {P : List Pc} {f : Nat → Bs}, Lays P f → Lays (if rankK k t < r then [wd [40]] ++ P ++ [wd [41]] else P) fun d => if rankK k t < r then [40] ++ f d ++ [41] else f d :=
    fun h => Lays.ite (fun _ => ((Lays.word _).append h).append (Lays.word _)) (fun _ => h)
   refine W ?_
   refine Lays.ite (fun _ => Lays.word _) fun _ => ?_
   refine Lays.ite (fun _ => Lays.word _) fun _ => ?_
   refine Lays.ite (fun _ => Lays.word _) fun _ => ?_
   refine Lays.ite (fun _ => Lays.word _) fun _ => ?_
   refine Lays.ite (fun _ => Lays.word _) fun _ => ?_
   refine Lays.ite (fun _ => Lays.word _) fun _ => ?_
   refine Lays.ite (fun _ => Lays.word _) fun _ => ?_
   refine Lays.ite (fun _ => ((Lays.word _).append (hl l true (by omega))).append (Lays.word _)) fun _ => ?_
   refine Lays.ite (fun _ => ?_) fun _ => ?_
   ·cases l.isEmpty
    ·exact ((Lays.word _).append (hp l true (by omega))).append (Lays.word _)
    ·exact Lays.word _
   refine Lays.ite (fun _ => ?_) fun _ => ?_
   ·rcases l with _ | ⟨p, _ | ⟨ty, _ | ⟨⟨bk, bt, bn, bl⟩, _ | ⟨z, m⟩⟩⟩⟩
    ·exact Lays.nil
    ·exact Lays.nil
    ·exact Lays.nil
    ·simp only [cnts, cnt] at hx
     exact (Lays.word _).append ((((lays_pms p).append (lays_tyOr ty)).append (Lays.word _)).append (hb bl (by omega)))
    ·exact Lays.nil
   refine Lays.ite (fun _ => ?_) fun _ => ?_
   ·rcases l with _ | ⟨x, _ | ⟨y, m⟩⟩
    ·exact Lays.nil
    ·simp only [cnts] at hx
     exact ((Lays.word _).append (Lays.ite (fun _ => Lays.word _) (fun _ => Lays.nil))).append (ihE x (by omega) 9)
    ·exact Lays.nil
   refine Lays.ite (fun _ => ?_) fun _ => ?_
   ·rcases l with _ | ⟨x, _ | ⟨y, _ | ⟨z, m⟩⟩⟩
    ·exact Lays.nil
    ·exact Lays.nil
    ·simp only [cnts] at hx
     exact (((ihE x (by omega) _).append (Lays.cons _ (Lays.cons _ (Lays.word _)))).append (ihE y (by omega) _)).of fun d => by simp
    ·exact Lays.nil
   refine Lays.ite (fun _ => ?_) fun _ => ?_
   ·rcases l with _ | ⟨x, _ | ⟨y, _ | ⟨z, _ | ⟨z2, m⟩⟩⟩⟩
    ·exact Lays.nil
    ·exact Lays.nil
    ·exact Lays.nil
    ·simp only [cnts] at hx
     exact ((((ihE x (by omega) _).append (Lays.word _)).append (ihE y (by omega) _)).append (Lays.word _)).append (ihE z (by omega) _)
    ·exact Lays.nil
   refine Lays.ite (fun _ => ?_) fun _ => ?_
   ·rcases l with _ | ⟨x, _ | ⟨y, _ | ⟨z, m⟩⟩⟩
    ·exact Lays.nil
    ·exact Lays.nil
    ·simp only [cnts] at hx
     exact ((ihE x (by omega) _).append (Lays.word _)).append (ihE y (by omega) _)
    ·exact Lays.nil
   refine Lays.ite (fun _ => ?_) fun _ => ?_
   ·rcases l with _ | ⟨x, m⟩
    ·exact Lays.nil
    ·simp only [cnts] at hx
     exact (((ihE x (by omega) _).append (Lays.word _)).append (hl m true (by omega))).append (Lays.word _)
   refine Lays.ite (fun _ => ((Lays.cons _ (Lays.cons _ (Lays.word _))).append (hl l true (by omega))).append (Lays.word _) |>.of fun d => by simp) fun _ => ?_
   refine Lays.ite (fun _ => ?_) fun _ => ?_
   ·rcases l with _ | ⟨x, _ | ⟨y, m⟩⟩
    ·exact Lays.nil
    ·simp only [cnts] at hx
     exact ((ihE x (by omega) _).append (Lays.cons _ (Lays.word _))).of fun d => by simp
    ·exact Lays.nil
   refine Lays.ite (fun _ => ?_) fun _ => Lays.nil
   rcases l with _ | ⟨x, _ | ⟨y, _ | ⟨z, m⟩⟩⟩
   ·exact Lays.nil
   ·exact Lays.nil
   ·simp only [cnts] at hx
    exact (((ihE x (by omega) _).append (Lays.word _)).append (ihE y (by omega) _)).append (Lays.word _)
   ·exact Lays.nil
  ·rintro ⟨k, t, n, l⟩ hx
   simp only [cnt] at hx
   unfold qS outS
   refine Lays.ite (fun _ => ?_) fun _ => ?_
   ·rcases l with _ | ⟨x, _ | ⟨y, _ | ⟨z, m⟩⟩⟩
    ·exact Lays.nil
    ·exact Lays.nil
    ·simp only [cnts] at hx
     exact (((((Lays.cons _ (Lays.word _)).append (lays_tyOr x)).append (Lays.word _)).append (ihE y (by omega) _)).append (Lays.word _)).of fun d => by simp
    ·exact Lays.nil
   refine Lays.ite (fun _ => ?_) fun _ => ?_
   ·rcases l with _ | ⟨p, _ | ⟨ty, _ | ⟨⟨bk, bt, bn, bl⟩, _ | ⟨z, m⟩⟩⟩⟩
    ·exact Lays.nil
    ·exact Lays.nil
    ·exact Lays.nil
    ·simp only [cnts, cnt] at hx
     exact ((Lays.cons _ (Lays.word _)).append ((((lays_pms p).append (lays_tyOr ty)).append (Lays.word _)).append (hb bl (by omega)))).of fun d => by simp
    ·exact Lays.nil
   refine Lays.ite (fun _ => ?_) fun _ => ?_
   ·rcases l with _ | ⟨x, _ | ⟨y, m⟩⟩
    ·exact Lays.nil
    ·simp only [cnts] at hx
     have h1 := ihE x (by omega) 1
     have h2 := h1.text
     simp only [h2]
     exact Lays.ite (fun _ => ((Lays.word _).append h1).append (Lays.word _)) (fun _ => h1.append (Lays.word _))
    ·exact Lays.nil
   refine Lays.ite (fun _ => ?_) fun _ => ?_
   ·rcases l with _ | ⟨x, _ | ⟨⟨bk, bt, bn, bl⟩, _ | ⟨⟨ck, ct, cn, cl⟩, _ | ⟨z2, m⟩⟩⟩⟩
    ·exact Lays.nil
    ·exact Lays.nil
    ·exact Lays.nil
    ·simp only [cnts, cnt] at hx
     exact ((((Lays.word _).append (ihE x (by omega) _)).append (Lays.word _)).append (hb bl (by omega))).append (Lays.ite (fun _ => Lays.nil) (fun _ => (Lays.word _).append (hb cl (by omega))))
    ·exact Lays.nil
   refine Lays.ite (fun _ => ?_) fun _ => ?_
   ·rcases l with _ | ⟨x, _ | ⟨⟨bk, bt, bn, bl⟩, _ | ⟨z, m⟩⟩⟩
    ·exact Lays.nil
    ·exact Lays.nil
    ·simp only [cnts, cnt] at hx
     exact (((Lays.word _).append (ihE x (by omega) _)).append (Lays.word _)).append (hb bl (by omega))
    ·exact Lays.nil
   refine Lays.ite (fun _ => ?_) fun _ => ?_
   ·rcases l with _ | ⟨x, _ | ⟨y, m⟩⟩
    ·exact Lays.nil
    ·simp only [cnts] at hx
     exact ((Lays.word _).append (Lays.ite (fun _ => Lays.nil) (fun _ => (Lays.word _).append (ihE x (by omega) _)))).append (Lays.word _)
    ·exact Lays.nil
   refine Lays.ite (fun _ => ?_) fun _ => ?_
   ·rcases l with _ | ⟨x, _ | ⟨y, m⟩⟩
    ·exact Lays.nil
    ·simp only [cnts] at hx
     exact ((Lays.word _).append (ihE x (by omega) _)).append (Lays.word _)
    ·exact Lays.nil
   exact Lays.ite (fun _ => hb l (by omega)) fun _ => Lays.nil

theorem lays_E (r : Nat) (x : Tr) : Lays (qE r x) fun d => outE d r x := (laysES (cnt x + 1)).1 x (Nat.lt_succ_self _) r
theorem lays_S (x : Tr) : Lays (qS x) fun d => outS d x := (laysES (cnt x + 1)).2 x (Nat.lt_succ_self _)
theorem lays_lines (l : List Tr) : LaysL (linesP l) (!l.isEmpty) fun d => linesS d l := by
 induction l with
 | nil => simp only [linesP, linesS]; exact LaysL.nil
 | cons x r ih => simp only [linesP, linesS]; exact LaysL.cons (lays_S x) ih
theorem lays_blk (l : List Tr) : Lays (blkP l) fun d => blk d l := (Lays.block (lays_lines l)).of fun d => blk_eq l d
theorem lays_body (l : List Tr) : Lays (bodyP l) fun d => bodyT d l := by
 rcases l with _ | ⟨p, _ | ⟨ty, _ | ⟨b, _ | ⟨z, m⟩⟩⟩⟩
 ·exact Lays.nil
 ·exact Lays.nil
 ·exact Lays.nil
 ·exact (((lays_pms p).append (lays_tyOr ty)).append (Lays.word _)).append (lays_blk b.l)
 ·exact Lays.nil
theorem lays_alone (x : Tr) : Lays (aloneP x) fun d => alone d x := by
 have h1 := lays_E 1 x
 have h2 := h1.text
 unfold aloneP alone
 simp only [h2]
 exact Lays.ite (fun _ => ((Lays.word _).append h1).append (Lays.word _)) (fun _ => h1.append (Lays.word _))
theorem lays_M (x : Tr) : Lays (qM x) fun d => outM d x := by
 obtain ⟨k, t, n, l⟩ := x
 unfold qM outM
 refine Lays.ite (fun _ => ?_) fun _ => ?_
 ·rcases l with _ | ⟨x, _ | ⟨y, _ | ⟨z, m⟩⟩⟩
  ·exact Lays.nil
  ·exact Lays.nil
  ·exact ((((Lays.word _).append (lays_tyOr x)).append (Lays.word _)).append (lays_E 1 y)).append (Lays.word _)
  ·exact Lays.nil
 refine Lays.ite (fun _ => ?_) fun _ => ?_
 ·rcases l with _ | ⟨x, _ | ⟨y, _ | ⟨z, m⟩⟩⟩
  ·exact Lays.nil
  ·exact Lays.nil
  ·exact (((Lays.word _).append (lays_pms x)).append (Lays.word _)).append (lays_blk y.l)
  ·exact Lays.nil
 exact Lays.ite (fun _ => (Lays.word _).append (lays_body l)) fun _ => Lays.nil
theorem lays_linesM (l : List Tr) : LaysL (linesMP l) (!l.isEmpty) fun d => linesM d l := by
 induction l with
 | nil => simp only [linesMP, linesM]; exact LaysL.nil
 | cons x r ih => simp only [linesMP, linesM]; exact LaysL.cons (lays_M x) ih
theorem lays_linesN (l : List Tr) : LaysL (linesNP l) (!l.isEmpty) fun d => linesN d l := by
 induction l with
 | nil => simp only [linesNP, linesN]; exact LaysL.nil
 | cons x r ih =>
  simp only [linesNP, linesN]
  exact LaysL.cons ((Lays.cons x.t (Lays.cons [32, 61, 32] (Lays.cons (kid0 x).t (Lays.word [59])))).of fun d => by simp) ih
theorem lays_one (o : Tr) : Lays (oneP o) fun _ => oneT o := by
 obtain ⟨k, t, n, l⟩ := o
 rcases l with _ | ⟨x, _ | ⟨y, m⟩⟩
 ·exact Lays.nil
 ·exact (Lays.word _).append (Lays.ite (fun _ => Lays.nil) (fun _ => Lays.cons _ (Lays.word _)))
 ·exact Lays.nil
theorem lays_names (l : List Tr) (b : Bool) : Lays (namesP b l) fun _ => namesT b l := by
 induction l generalizing b with
 | nil => exact Lays.nil
 | cons x r ih =>
  refine (Lays.append ?_ (lays_one x)).append (ih false)
  cases b
  ·exact Lays.word _
  ·exact Lays.nil
theorem lays_rest (l : List Tr) : Lays (restP l) fun _ => restI l := by
 cases l with
 | nil => exact Lays.nil
 | cons y r => exact Lays.ite (fun _ => Lays.cons _ (Lays.word _)) (fun _ => ((Lays.word _).append (lays_names (y :: r) true)).append (Lays.word _))
theorem lays_import (x : Tr) : Lays (importP x) fun _ => importT x := by
 obtain ⟨k, t, n, l⟩ := x
 cases l with
 | nil => exact (((Lays.word _).append Lays.nil).append (Lays.cons _ (Lays.word _))).of fun d => by simp [importT, Tr.l, Tr.t]
 | cons y r =>
  refine ((((Lays.word [105, 109, 112, 111, 114, 116, 32]).append (((Lays.ite (c := n = 1) (fun _ => Lays.word [116, 121, 112, 101, 32]) (fun _ => Lays.nil)).append (Lays.ite (c := y.t = [100, 101, 102, 97, 117, 108, 116]) (fun _ => ((Lays.word (kid0 y).t).append (Lays.ite (c := r.isEmpty = true) (fun _ => Lays.nil) (fun _ => Lays.word [44, 32]))).append (lays_rest r)) (fun _ => lays_rest (y :: r)))).append (Lays.word [32, 102, 114, 111, 109, 32])))).append (Lays.cons (quote t) (Lays.word [59]))).of fun d => ?_
  simp [importT, Tr.l, Tr.t, Tr.n]
  all_goals rfl
theorem lays_export (x : Tr) : Lays (exportP x) fun _ => exportT x := by
 obtain ⟨k, t, n, l⟩ := x
 cases l with
 | nil =>
  exact ((((Lays.word _).append (Lays.ite (fun _ => Lays.word _) (fun _ => Lays.nil))).append Lays.nil).append (Lays.ite (fun _ => Lays.nil) (fun _ => Lays.cons _ (Lays.word _)))).append (Lays.word _)
 | cons y r =>
  exact ((((Lays.word _).append (Lays.ite (fun _ => Lays.word _) (fun _ => Lays.nil))).append (Lays.ite (fun _ => (Lays.word _).append (Lays.ite (fun _ => Lays.nil) (fun _ => Lays.cons _ (Lays.word _)))) (fun _ => ((Lays.word _).append (lays_names (y :: r) true)).append (Lays.word _)))).append (Lays.ite (fun _ => Lays.nil) (fun _ => Lays.cons _ (Lays.word _)))).append (Lays.word _)
theorem closeL_eq {d : Nat} {l : List Tr} {a b : Bs} : a ++ ([32] ++ ([123] ++ b ++ (if (!l.isEmpty) = true then 10 :: ind d else []) ++ [125])) = a ++ [32] ++ [123] ++ b ++ closeL d l := by
 cases l <;> simp [closeL]
theorem lays_It (x : Tr) : Lays (qIt x) fun d => outIt d x := by
 obtain ⟨k, t, n, l⟩ := x
 unfold qIt outIt
 refine Lays.ite (fun _ => ((Lays.cons [99, 108, 97, 115, 115, 32] (Lays.cons t (Lays.word [32]))).append (Lays.block (lays_linesM l))).of fun d => ?_) fun _ => ?_
 ·cases l <;> simp [closeL, Tr.t, Tr.l]
 refine Lays.ite (fun _ => ?_) fun _ => ?_
 ·rcases l with _ | ⟨y, _ | ⟨z, m⟩⟩
  ·exact Lays.nil
  ·exact (((Lays.cons [116, 121, 112, 101, 32] (Lays.cons t (Lays.word [32, 61, 32]))).append (lays_T y)).append (Lays.word [59])).of fun d => by simp [Tr.l, Tr.t]
  ·exact Lays.nil
 refine Lays.ite (fun _ => lays_import _) fun _ => ?_
 refine Lays.ite (fun _ => lays_export _) fun _ => ?_
 refine Lays.ite (fun _ => ((Lays.cons [110, 97, 109, 101, 115, 112, 97, 99, 101, 32] (Lays.cons t (Lays.word [32]))).append (Lays.block (lays_linesN l))).of fun d => ?_) fun _ => lays_S _
 cases l <;> simp [closeL, Tr.t, Tr.l]
theorem lays_I (x : Tr) : Lays (qI x) fun d => outI d x := by
 obtain ⟨k, t, n, l⟩ := x
 unfold qI outI
 refine Lays.ite (fun _ => ?_) fun _ => ?_
 ·rcases l with _ | ⟨y, _ | ⟨z, m⟩⟩
  ·exact Lays.nil
  ·exact (Lays.word _).append (lays_It y)
  ·exact Lays.nil
 refine Lays.ite (fun _ => ?_) fun _ => lays_It _
 rcases l with _ | ⟨y, _ | ⟨z, m⟩⟩
 ·exact Lays.nil
 ·exact (Lays.word _).append (Lays.ite (fun _ => lays_It y) (fun _ => lays_alone y))
 ·exact Lays.nil

/-! ### pieces of rows -/
theorem unionP_app (a r : List Tr) (b : Bool) : unionP b (a ++ r) = unionP b a ++ unionP (b && a.isEmpty) r := by
 induction a generalizing b with
 | nil => simp [unionP]
 | cons x m ih => simp [unionP, ih]
theorem listP_app (a r : List Tr) (b : Bool) : listP b (a ++ r) = listP b a ++ listP (b && a.isEmpty) r := by
 induction a generalizing b with
 | nil => simp [listP]
 | cons x m ih => simp [listP, ih]
theorem namesP_app (a r : List Tr) (b : Bool) : namesP b (a ++ r) = namesP b a ++ namesP (b && a.isEmpty) r := by
 induction a generalizing b with
 | nil => simp [namesP]
 | cons x m ih => simp [namesP, ih]
theorem parsP_app (a r : List Tr) (b : Bool) : parsP b (a ++ r) = parsP b a ++ parsP (b && a.isEmpty) r := by
 induction a generalizing b with
 | nil => simp [parsP]
 | cons x m ih => obtain ⟨k, t, n, l⟩ := x; rcases l with _ | ⟨y, _ | ⟨z, q⟩⟩ <;> simp [parsP, ih]
theorem propsP_app (a r : List Tr) (b : Bool) : propsP b (a ++ r) = propsP b a ++ propsP (b && a.isEmpty) r := by
 induction a generalizing b with
 | nil => simp [propsP]
 | cons x m ih => obtain ⟨k, t, n, l⟩ := x; rcases l with _ | ⟨y, _ | ⟨z, q⟩⟩ <;> simp [propsP, ih]
theorem tpropsP_app (a r : List Tr) : tpropsP (a ++ r) = tpropsP a ++ tpropsP r := by
 induction a with
 | nil => simp [tpropsP]
 | cons x m ih => obtain ⟨k, t, n, l⟩ := x; rcases l with _ | ⟨y, _ | ⟨z, q⟩⟩ <;> simp [tpropsP, ih]
/-- Lines of a block, each thing's pieces being f's. -/
def linesG (f : Tr → List Pc) : List Tr → List Pc
 | [] => []
 | x :: r => .line :: f x ++ linesG f r
theorem linesG_app (f : Tr → List Pc) (a r : List Tr) : linesG f (a ++ r) = linesG f a ++ linesG f r := by
 induction a with
 | nil => rfl
 | cons x m ih => simp [linesG, ih]
theorem linesP_G (l : List Tr) : linesP l = linesG qS l := by
 induction l with
 | nil => simp [linesP, linesG]
 | cons x r ih => simp [linesP, linesG, ih]
theorem linesMP_G (l : List Tr) : linesMP l = linesG qM l := by
 induction l with
 | nil => simp [linesMP, linesG]
 | cons x r ih => simp [linesMP, linesG, ih]
def qN (x : Tr) : List Pc := [wd x.t, wd [32, 61, 32], wd (kid0 x).t, wd [59]]
theorem linesNP_G (l : List Tr) : linesNP l = linesG qN l := by
 induction l with
 | nil => simp [linesNP, linesG]
 | cons x r ih => simp [linesNP, linesG, ih, qN]
theorem take_drop {l : List Tr} {j : Nat} (h : j < l.length) : l = l.take j ++ (l[j] :: l.drop (j + 1)) := by
 rw [← List.drop_eq_getElem_cons h, List.take_append_drop]

def wi2 (x : Tr) : List Pc := if x.k = 32 ∨ x.k = 35 then [wd [40]] ++ qT x ++ [wd [41]] else qT x
def wi1 (x : Tr) : List Pc := if x.k = 35 then [wd [40]] ++ qT x ++ [wd [41]] else qT x
def parE (x : Tr) : List Pc := match x.l with | [z] => [wd x.t] ++ tyOrP z | _ => []
def proE (x : Tr) : List Pc := match x.l with | [z] => [wd x.t, wd [58, 32]] ++ qE 1 z | _ => []
def tprE (x : Tr) : List Pc := match x.l with | [z] => [wd x.t, wd [58, 32]] ++ qT z ++ [wd [59, 32]] | _ => []
def sepP (j : Nat) (s : Bs) : List Pc := if j = 0 then [] else [wd s]
theorem sepP_0 (s : Bs) : sepP 0 s = [] := rfl
theorem sepP_s {j : Nat} (h : 0 < j) (s : Bs) : sepP j s = [wd s] := by unfold sepP; rw [if_neg (by omega)]

theorem split_of {P : Bool → List Tr → List Pc} {el : Tr → List Pc} {s : Bs} (h0 : ∀ b, P b [] = []) (hc : ∀ b x r, P b (x :: r) = (if b then [] else [wd s]) ++ el x ++ P false r) (ha : ∀ a r b, P b (a ++ r) = P b a ++ P (b && a.isEmpty) r) {l : List Tr} {j : Nat} (h : j < l.length) :
  P true l = P true (l.take j) ++ ((sepP j s ++ el l[j]) ++ P false (l.drop (j + 1))) ∧ P true (l.take (j + 1)) = P true (l.take j) ++ (sepP j s ++ el l[j]) := by
 have he : (if (true && (l.take j).isEmpty) = true then [] else [wd s]) = sepP j s := by
  unfold sepP
  by_cases hj : j = 0
  ·subst hj; simp
  ·have : (l.take j).isEmpty = false := by
    cases l with
    | nil => simp at h
    | cons y r => cases j with
     | zero => omega
     | succ j => rfl
   simp [this, hj]
 constructor
 ·conv => lhs; rw [take_drop h, ha, hc, he]
 ·rw [List.take_succ_eq_append_getElem h, ha, hc, he, h0, List.append_nil]
theorem split_plain {P : List Tr → List Pc} {el : Tr → List Pc} (h0 : P [] = []) (hc : ∀ x r, P (x :: r) = el x ++ P r) (ha : ∀ a r, P (a ++ r) = P a ++ P r) {l : List Tr} {j : Nat} (h : j < l.length) :
  P l = P (l.take j) ++ (el l[j] ++ P (l.drop (j + 1))) ∧ P (l.take (j + 1)) = P (l.take j) ++ el l[j] := by
 constructor
 ·conv => lhs; rw [take_drop h, ha, hc]
 ·rw [List.take_succ_eq_append_getElem h, ha, hc, h0, List.append_nil]

theorem unionP_split {l : List Tr} {j : Nat} (h : j < l.length) : unionP true l = unionP true (l.take j) ++ ((sepP j [32, 124, 32] ++ wi1 l[j]) ++ unionP false (l.drop (j + 1))) ∧ unionP true (l.take (j + 1)) = unionP true (l.take j) ++ (sepP j [32, 124, 32] ++ wi1 l[j]) := split_of (P := unionP) (el := wi1) (s := [32, 124, 32]) (fun _ => by simp [unionP]) (fun b x r => by simp [unionP, wi1]) (fun a r b => unionP_app a r b) h
theorem listP_split {l : List Tr} {j : Nat} (h : j < l.length) : listP true l = listP true (l.take j) ++ ((sepP j [44, 32] ++ qE 1 l[j]) ++ listP false (l.drop (j + 1))) ∧ listP true (l.take (j + 1)) = listP true (l.take j) ++ (sepP j [44, 32] ++ qE 1 l[j]) := split_of (P := listP) (el := qE 1) (s := [44, 32]) (fun _ => by simp [listP]) (fun b x r => by simp [listP]) (fun a r b => listP_app a r b) h
theorem namesP_split {l : List Tr} {j : Nat} (h : j < l.length) : namesP true l = namesP true (l.take j) ++ ((sepP j [44, 32] ++ oneP l[j]) ++ namesP false (l.drop (j + 1))) ∧ namesP true (l.take (j + 1)) = namesP true (l.take j) ++ (sepP j [44, 32] ++ oneP l[j]) := split_of (P := namesP) (el := oneP) (s := [44, 32]) (fun _ => by simp [namesP]) (fun b x r => by simp [namesP]) (fun a r b => namesP_app a r b) h
theorem parsP_split {l : List Tr} {j : Nat} (h : j < l.length) : parsP true l = parsP true (l.take j) ++ ((sepP j [44, 32] ++ parE l[j]) ++ parsP false (l.drop (j + 1))) ∧ parsP true (l.take (j + 1)) = parsP true (l.take j) ++ (sepP j [44, 32] ++ parE l[j]) := split_of (P := parsP) (el := parE) (s := [44, 32]) (fun _ => by simp [parsP]) (fun b x r => by obtain ⟨k, t, n, m⟩ := x; rcases m with _ | ⟨y, _ | ⟨z, q⟩⟩ <;> simp [parsP, parE, tyOrP, Tr.l, Tr.t]) (fun a r b => parsP_app a r b) h
theorem propsP_split {l : List Tr} {j : Nat} (h : j < l.length) : propsP true l = propsP true (l.take j) ++ ((sepP j [44, 32] ++ proE l[j]) ++ propsP false (l.drop (j + 1))) ∧ propsP true (l.take (j + 1)) = propsP true (l.take j) ++ (sepP j [44, 32] ++ proE l[j]) := split_of (P := propsP) (el := proE) (s := [44, 32]) (fun _ => by simp [propsP]) (fun b x r => by obtain ⟨k, t, n, m⟩ := x; rcases m with _ | ⟨y, _ | ⟨z, q⟩⟩ <;> simp [propsP, proE, Tr.l, Tr.t]) (fun a r b => propsP_app a r b) h
theorem tpropsP_split {l : List Tr} {j : Nat} (h : j < l.length) : tpropsP l = tpropsP (l.take j) ++ (tprE l[j] ++ tpropsP (l.drop (j + 1))) ∧ tpropsP (l.take (j + 1)) = tpropsP (l.take j) ++ tprE l[j] := split_plain (P := tpropsP) (el := tprE) (by simp [tpropsP]) (fun x r => by obtain ⟨k, t, n, m⟩ := x; rcases m with _ | ⟨y, _ | ⟨z, q⟩⟩ <;> simp [tpropsP, tprE, Tr.l, Tr.t]) (fun a r => tpropsP_app a r) h
theorem linesG_split {f : Tr → List Pc} {l : List Tr} {j : Nat} (h : j < l.length) : linesG f l = linesG f (l.take j) ++ ((.line :: f l[j]) ++ linesG f (l.drop (j + 1))) ∧ linesG f (l.take (j + 1)) = linesG f (l.take j) ++ (.line :: f l[j]) := split_plain (P := linesG f) (el := fun x => .line :: f x) rfl (fun x r => rfl) (fun a r => linesG_app f a r) h

end Go.Proofs.YtpmlmpibpmoclaaGreatDoor
