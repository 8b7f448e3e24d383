/-
  A reader of the texts (plain): what undoes the printing.
-/
import Derived.Test.YtpmlmpibpmoclaaGreatDoorTr
namespace Go.Proofs.YtpmlmpibpmoclaaGreatDoor
set_option linter.all false
def strip : Bs → Bs → Option Bs
 | [], s => some s
 | _ :: _, [] => none
 | a :: p, b :: s => if a = b then strip p s else none

/-- A byte of a name. -/
def idB (c : UInt8) : Bool := (97 ≤ c.toNat && c.toNat ≤ 122) || (65 ≤ c.toNat && c.toNat ≤ 90) || (48 ≤ c.toNat && c.toNat ≤ 57) || c == 95 || c == 36 || 128 ≤ c.toNat
def digB (c : UInt8) : Bool := 48 ≤ c.toNat && c.toNat ≤ 57
def value (s : Bs) : Nat := s.foldl (fun v c => v * 10 + (c.toNat - 48)) 0
def noSp (c : UInt8) : Bool := c != 32

def unhex (c : UInt8) : Nat := if c.toNat < 97 then c.toNat - 48 else c.toNat - 87

/-- What stands in quotes, the first quote being gone. -/
def rdQ : Nat → Bs → Option (Bs × Bs)
 | 0, _ => none
 | _ + 1, [] => none
 | f + 1, c :: s =>
  if c = 34 then some ([], s)
  else if c = 92 then
   match s with
   | e :: s =>
    if e = 110 then (rdQ f s).map fun p => (10 :: p.1, p.2)
    else if e = 116 then (rdQ f s).map fun p => (9 :: p.1, p.2)
    else if e = 117 then
     match s with
     | _ :: a :: b :: s => if b = 125 then (rdQ f s).map fun p => (UInt8.ofNat (unhex a) :: p.1, p.2) else (match s with | _ :: s => (rdQ f s).map fun p => (UInt8.ofNat (unhex a * 16 + unhex b) :: p.1, p.2) | [] => none)
     | _ => none
    else (rdQ f s).map fun p => (e :: p.1, p.2)
   | [] => none
  else (rdQ f s).map fun p => (c :: p.1, p.2)

mutual
/-- A type. -/
def pT : Nat → Bs → Option (Tr × Bs)
 | 0, _ => none
 | f + 1, s => do
  let (x, s) ← pT1 f s
  match strip [32, 124, 32] s with
  | some s => do
   let (l, s) ← pU f s
   some (.mk 32 [] 0 (x :: l), s)
  | none => some (x, s)
def pU : Nat → Bs → Option (List Tr × Bs)
 | 0, _ => none
 | f + 1, s => do
  let (x, s) ← pT1 f s
  match strip [32, 124, 32] s with
  | some s => do
   let (l, s) ← pU f s
   some (x :: l, s)
  | none => some ([x], s)
def pT1 : Nat → Bs → Option (Tr × Bs)
 | 0, _ => none
 | f + 1, s => do
  let (x, s) ← pT0 f s
  pA f x s
def pA : Nat → Tr → Bs → Option (Tr × Bs)
 | 0, _, _ => none
 | f + 1, x, s =>
  match strip [91, 93] s with
  | some s => pA f (.mk 31 [] 0 [x]) s
  | none => some (x, s)
def pT0 : Nat → Bs → Option (Tr × Bs)
 | 0, _ => none
 | _ + 1, [] => none
 | f + 1, c :: s =>
  if c = 40 then
   match strip [41, 32, 61, 62, 32] s with
   | some s => do
    let (r, s) ← pT f s
    some (.mk 35 [] 0 [.mk 12 [] 0 [], r], s)
   | none =>
    match strip [58] (s.dropWhile idB) with
    | some _ => do
     let (l, s) ← pPar f s
     let s ← strip [32, 61, 62, 32] s
     let (r, s) ← pT f s
     some (.mk 35 [] 0 [.mk 12 [] 0 l, r], s)
    | none => do
     let (x, s) ← pT f s
     let s ← strip [41] s
     some (x, s)
  else if c = 123 then
   match strip [125] s with
   | some s => some (.mk 33 [] 0 [], s)
   | none => do
    let s ← strip [32] s
    let (l, s) ← pTP f s
    some (.mk 33 [] 0 l, s)
  else some (.mk 30 ((c :: s).takeWhile idB) 0 [], (c :: s).dropWhile idB)
/-- Fields of an object type, up to the bracket. -/
def pTP : Nat → Bs → Option (List Tr × Bs)
 | 0, _ => none
 | f + 1, s =>
  match strip [125] s with
  | some s => some ([], s)
  | none => do
   let s1 ← strip [58, 32] (s.dropWhile idB)
   let (x, s2) ← pT f s1
   let s3 ← strip [59, 32] s2
   let (l, s4) ← pTP f s3
   some (.mk 34 (s.takeWhile idB) 0 [x] :: l, s4)
/-- Parameters (one at least), up to the bracket. -/
def pPar : Nat → Bs → Option (List Tr × Bs)
 | 0, _ => none
 | f + 1, s => do
  let (ty, s1) ← (match strip [58, 32] (s.dropWhile idB) with
   | some s1 => pT f s1
   | none => some (.mk 14 [] 0 [], s.dropWhile idB))
  match strip [41] s1 with
  | some s2 => some ([.mk 13 (s.takeWhile idB) 0 [ty]], s2)
  | none => do
   let s2 ← strip [44, 32] s1
   let (l, s3) ← pPar f s2
   some (.mk 13 (s.takeWhile idB) 0 [ty] :: l, s3)
end

/-- Parameters in brackets. -/
def pPms (f : Nat) (s : Bs) : Option (Tr × Bs) := do
 let s ← strip [40] s
 match strip [41] s with
 | some s => some (.mk 12 [] 0 [], s)
 | none => do
  let (l, s) ← pPar f s
  some (.mk 12 [] 0 l, s)
def pTyOr (f : Nat) (s : Bs) : Option (Tr × Bs) :=
 match strip [58, 32] s with
 | some s => pT f s
 | none => some (.mk 14 [] 0 [], s)

mutual
/-- An expression at a place that asks for a rank. -/
def pE : Nat → Nat → Nat → Bs → Option (Tr × Bs)
 | 0, _, _, _ => none
 | f + 1, d, q, s => do
  let (a, s) ← pP f d s
  pL f d q a s
def pP : Nat → Nat → Bs → Option (Tr × Bs)
 | 0, _, _ => none
 | _ + 1, _, [] => none
 | f + 1, d, c :: s =>
  if c = 34 then (rdQ f s).map fun p => (.mk 2 p.1 0 [], p.2)
  else if c = 91 then do
   let (l, s) ← pLs f d 93 s
   some (.mk 8 [] 0 l, s)
  else if c = 123 then
   match strip [125] s with
   | some s => some (.mk 9 [] 0 [], s)
   | none => do
    let s ← strip [32] s
    let (l, s) ← pPs f d s
    some (.mk 9 [] 0 l, s)
  else if c = 40 then do
   let (a, s) ← pE f d 1 s
   let s ← strip [41] s
   some (a, s)
  else if c = 45 ∨ c = 33 then do
   let (a, s) ← pE f d 9 s
   some (.mk 15 [c] 0 [a], s)
  else if digB c = true then some (.mk 1 [] (value ((c :: s).takeWhile digB)) [], (c :: s).dropWhile digB)
  else
   let w := (c :: s).takeWhile idB
   let s := (c :: s).dropWhile idB
   if w = [102, 117, 110, 99, 116, 105, 111, 110] then do
    let s ← strip [32] s
    let (l, s) ← pBody f d s
    some (.mk 11 [] 0 l, s)
   else if w = [110, 101, 119] then do
    let s ← strip [32] s
    let s1 ← strip [40] (s.dropWhile idB)
    let (l, s2) ← pLs f d 41 s1
    some (.mk 20 (s.takeWhile idB) 0 l, s2)
   else if w = [116, 121, 112, 101, 111, 102] then do
    let s ← strip [32] s
    let (a, s) ← pE f d 9 s
    some (.mk 15 [116, 121, 112, 101, 111, 102] 0 [a], s)
   else if w = [110, 117, 108, 108] then some (.mk 4 [] 0 [], s)
   else if w = [117, 110, 100, 101, 102, 105, 110, 101, 100] then some (.mk 5 [] 0 [], s)
   else if w = [116, 114, 117, 101] then some (.mk 3 [] 1 [], s)
   else if w = [102, 97, 108, 115, 101] then some (.mk 3 [] 0 [], s)
   else if w = [116, 104, 105, 115] then some (.mk 7 [] 0 [], s)
   else some (.mk 6 w 0 [], s)
/-- What goes on an expression. -/
def pL : Nat → Nat → Nat → Tr → Bs → Option (Tr × Bs)
 | 0, _, _, _, _ => none
 | _ + 1, _, _, a, [] => some (a, [])
 | f + 1, d, q, a, c :: s =>
  if c = 40 then do
   let (l, s) ← pLs f d 41 s
   pL f d q (.mk 19 [] 0 (a :: l)) s
  else if c = 91 then do
   let (y, s) ← pE f d 1 s
   let s ← strip [93] s
   pL f d q (.mk 22 [] 0 [a, y]) s
  else if c = 46 then pL f d q (.mk 21 (s.takeWhile idB) 0 [a]) (s.dropWhile idB)
  else if c = 32 then
   let w := s.takeWhile noSp
   let s1 := (s.dropWhile noSp).drop 1
   if w = [63] then
    if q ≤ 2 then do
     let (y, s) ← pE f d 1 s1
     let s ← strip [32, 58, 32] s
     let (z, s) ← pE f d 1 s
     pL f d q (.mk 17 [] 0 [a, y, z]) s
    else some (a, c :: s)
   else if w = [61] then
    if q ≤ 1 then do
     let (y, s) ← pE f d 1 s1
     pL f d q (.mk 18 [] 0 [a, y]) s
    else some (a, c :: s)
   else if binOps.contains w = true then
    if q ≤ binRank w then do
     let (y, s) ← pE f d (binRank w + 1) s1
     pL f d q (.mk 16 w 0 [a, y]) s
    else some (a, c :: s)
   else some (a, c :: s)
  else some (a, c :: s)
/-- Expressions with commas between, up to a closing byte. -/
def pLs : Nat → Nat → UInt8 → Bs → Option (List Tr × Bs)
 | 0, _, _, _ => none
 | _ + 1, _, _, [] => none
 | f + 1, d, q, c :: s =>
  if c = q then some ([], s)
  else do
   let (x, s) ← pE f d 1 (c :: s)
   let (l, s) ← pLm f d q s
   some (x :: l, s)
def pLm : Nat → Nat → UInt8 → Bs → Option (List Tr × Bs)
 | 0, _, _, _ => none
 | _ + 1, _, _, [] => none
 | f + 1, d, q, c :: s =>
  if c = q then some ([], s)
  else do
   let s ← strip [44, 32] (c :: s)
   let (x, s) ← pE f d 1 s
   let (l, s) ← pLm f d q s
   some (x :: l, s)
/-- Fields of an object (one at least), up to the bracket. -/
def pPs : Nat → Nat → Bs → Option (List Tr × Bs)
 | 0, _, _ => none
 | f + 1, d, s => do
  let s1 ← strip [58, 32] (s.dropWhile idB)
  let (x, s2) ← pE f d 1 s1
  match strip [32, 125] s2 with
  | some s3 => some ([.mk 10 (s.takeWhile idB) 0 [x]], s3)
  | none => do
   let s3 ← strip [44, 32] s2
   let (l, s4) ← pPs f d s3
   some (.mk 10 (s.takeWhile idB) 0 [x] :: l, s4)
def pBody : Nat → Nat → Bs → Option (List Tr × Bs)
 | 0, _, _ => none
 | f + 1, d, s => do
  let (p, s) ← pPms f s
  let (ty, s) ← pTyOr f s
  let s ← strip [32] s
  let (l, s) ← pB f d s
  some ([p, ty, .mk 52 [] 0 l], s)
/-- A block. -/
def pB : Nat → Nat → Bs → Option (List Tr × Bs)
 | 0, _, _ => none
 | f + 1, d, s => do
  let s ← strip [123] s
  match strip [125] s with
  | some s => some ([], s)
  | none => pSs f d s
/-- Lines of a block, up to the bracket. -/
def pSs : Nat → Nat → Bs → Option (List Tr × Bs)
 | 0, _, _ => none
 | f + 1, d, s =>
  match strip (10 :: (ind d ++ [125])) s with
  | some s => some ([], s)
  | none => do
   let s ← strip (10 :: ind (d + 1)) s
   let (x, s) ← pS f (d + 1) s
   let (l, s) ← pSs f d s
   some (x :: l, s)
/-- A statement. -/
def pS : Nat → Nat → Bs → Option (Tr × Bs)
 | 0, _, _ => none
 | _ + 1, _, [] => none
 | f + 1, d, c :: s =>
  if c = 123 then do
   let (l, s) ← pB f d (c :: s)
   some (.mk 52 [] 0 l, s)
  else
   let w := (c :: s).takeWhile idB
   let s0 := (c :: s).dropWhile idB
   if w = [108, 101, 116] ∨ w = [99, 111, 110, 115, 116] then do
    let s1 ← strip [32] s0
    let (ty, s2) ← pTyOr f (s1.dropWhile idB)
    let s3 ← strip [32, 61, 32] s2
    let (x, s4) ← pE f d 1 s3
    let s5 ← strip [59] s4
    some (.mk 40 (s1.takeWhile idB) (if w = [108, 101, 116] then 0 else 1) [ty, x], s5)
   else if w = [102, 117, 110, 99, 116, 105, 111, 110] then do
    let s1 ← strip [32] s0
    let (l, s2) ← pBody f d (s1.dropWhile idB)
    some (.mk 41 (s1.takeWhile idB) 0 l, s2)
   else if w = [105, 102] then do
    let s1 ← strip [32, 40] s0
    let (x, s2) ← pE f d 1 s1
    let s3 ← strip [41, 32] s2
    let (l, s4) ← pB f d s3
    match strip [32, 101, 108, 115, 101, 32] s4 with
    | some s5 => do
     let (m, s6) ← pB f d s5
     some (.mk 48 [] 0 [x, .mk 52 [] 0 l, .mk 52 [] 0 m], s6)
    | none => some (.mk 48 [] 0 [x, .mk 52 [] 0 l, .mk 14 [] 0 []], s4)
   else if w = [119, 104, 105, 108, 101] then do
    let s1 ← strip [32, 40] s0
    let (x, s2) ← pE f d 1 s1
    let s3 ← strip [41, 32] s2
    let (l, s4) ← pB f d s3
    some (.mk 49 [] 0 [x, .mk 52 [] 0 l], s4)
   else if w = [114, 101, 116, 117, 114, 110] then
    match strip [59] s0 with
    | some s1 => some (.mk 50 [] 0 [.mk 14 [] 0 []], s1)
    | none => do
     let s1 ← strip [32] s0
     let (x, s2) ← pE f d 1 s1
     let s3 ← strip [59] s2
     some (.mk 50 [] 0 [x], s3)
   else if w = [116, 104, 114, 111, 119] then do
    let s1 ← strip [32] s0
    let (x, s2) ← pE f d 1 s1
    let s3 ← strip [59] s2
    some (.mk 51 [] 0 [x], s3)
   else do
    let (x, s1) ← pE f d 1 (c :: s)
    let s2 ← strip [59] s1
    some (.mk 47 [] 0 [x], s2)
end

/-- From some amount of fuel on. -/
def Ev (P : Nat → Prop) : Prop := ∃ n, ∀ f, n ≤ f → P f

theorem Ev.of {P : Nat → Prop} (h : ∀ f, P f) : Ev P := ⟨0, fun f _ => h f⟩
theorem Ev.of1 {P : Nat → Prop} (h : ∀ f, P (f + 1)) : Ev P := ⟨1, fun f hf => by obtain ⟨g, rfl⟩ := Nat.exists_eq_succ_of_ne_zero (by omega : f ≠ 0); exact h g⟩
theorem Ev.step {P Q : Nat → Prop} (h : Ev P) (hs : ∀ f, P f → Q (f + 1)) : Ev Q := by
 obtain ⟨n, hn⟩ := h
 refine ⟨n + 1, fun f hf => ?_⟩
 obtain ⟨g, rfl⟩ := Nat.exists_eq_succ_of_ne_zero (by omega : f ≠ 0)
 exact hs g (hn g (by omega))
theorem Ev.and {P Q : Nat → Prop} (h : Ev P) (k : Ev Q) : Ev fun f => P f ∧ Q f := by
 obtain ⟨n, hn⟩ := h
 obtain ⟨m, hm⟩ := k
 exact ⟨max n m, fun f hf => ⟨hn f (by omega), hm f (by omega)⟩⟩
theorem Ev.mono {P Q : Nat → Prop} (h : Ev P) (hs : ∀ f, P f → Q f) : Ev Q := by
 obtain ⟨n, hn⟩ := h
 exact ⟨n, fun f hf => hs f (hn f hf)⟩
theorem Ev.some {P : Nat → Prop} (h : Ev P) : ∃ f, P f := by
 obtain ⟨n, hn⟩ := h
 exact ⟨n, hn n (Nat.le_refl _)⟩

theorem strip_app (p s : Bs) : strip p (p ++ s) = some s := by
 induction p with
 | nil => rfl
 | cons a p ih => simp [strip, ih]

theorem strip_ne {a b : UInt8} (h : a ≠ b) (p s : Bs) : strip (a :: p) (b :: s) = none := by simp [strip, h]

/-- The text goes on with no byte of a name. -/
def nid : Bs → Bool
 | [] => true
 | c :: _ => !idB c

theorem span_id {t rest : Bs} (h : ∀ c ∈ t, idB c = true) (hr : nid rest = true) : (t ++ rest).takeWhile idB = t ∧ (t ++ rest).dropWhile idB = rest := by
 induction t with
 | nil =>
  cases rest with
  | nil => exact ⟨rfl, rfl⟩
  | cons c r => simp [nid] at hr; simp [hr]
 | cons a t ih =>
  have ha := h a List.mem_cons_self
  have := ih (fun c hc => h c (List.mem_cons_of_mem _ hc))
  simp [ha, this.1, this.2]

theorem digB_idB {c : UInt8} (h : digB c = true) : idB c = true := by
 unfold digB at h; unfold idB
 simp at h ⊢
 omega

theorem nid_dig {rest : Bs} (h : nid rest = true) : rest = [] ∨ ∃ c r, rest = c :: r ∧ digB c = false := by
 cases rest with
 | nil => exact .inl rfl
 | cons c r =>
  refine .inr ⟨c, r, rfl, ?_⟩
  cases hd : digB c with
  | false => rfl
  | true => simp [nid, digB_idB hd] at h

theorem span_dig {t rest : Bs} (h : ∀ c ∈ t, digB c = true) (hr : nid rest = true) : (t ++ rest).takeWhile digB = t ∧ (t ++ rest).dropWhile digB = rest := by
 induction t with
 | nil =>
  rcases nid_dig hr with rfl | ⟨c, r, rfl, hc⟩
  ·exact ⟨rfl, rfl⟩
  ·simp [hc]
 | cons a t ih =>
  have ha := h a List.mem_cons_self
  have := ih (fun c hc => h c (List.mem_cons_of_mem _ hc))
  simp [ha, this.1, this.2]

/-! ### names -/

theorem more_some {m : Nat} : ∀ {v w : Nat} {r : Bs}, more m v r = some w → m ≤ r.length ∧ ∀ c ∈ r.take m, idB c = true := by
 induction m with
 | zero => intro v w r _; exact ⟨Nat.zero_le _, by simp⟩
 | succ m ih =>
  intro v w r h
  cases r with
  | nil => simp [more] at h
  | cons c r =>
   simp only [more] at h
   split at h
   ·rename_i hc
    obtain ⟨h1, h2⟩ := ih h
    refine ⟨by simp; omega, fun x hx => ?_⟩
    rw [List.take_succ_cons] at hx
    rcases List.mem_cons.1 hx with rfl | hx
    ·unfold cont at hc; unfold idB; simp at hc ⊢; omega
    ·exact h2 x hx
   ·cases h

theorem sign_nonneg {v : Int} (h : sign v = true) : 0 ≤ v := by
 unfold sign letter at h
 simp at h
 rcases h with ((h | h) | h) | h
 ·split at h
  ·omega
  ·split at h <;> omega
 all_goals omega

theorem sign_ascii {c : UInt8} (hc : c.toNat < 128) (h : sign (c.toNat : Int) = true) : idB c = true := by
 unfold sign letter at h
 unfold idB
 simp at h ⊢
 rcases h with ((h | h) | h) | h
 ·split at h
  ·rename_i hl; omega
  ·split at h <;> omega
 ·have : c = 95 := by apply UInt8.toNat_inj.1; simp; omega
  simp [this]
 ·have : c = 36 := by apply UInt8.toNat_inj.1; simp; omega
  simp [this]
 ·omega

/-- The first rune: its bytes are a name's where it is a sign. -/
theorem rune_sign {c : UInt8} {r : Bs} (h : sign (rune (c :: r)).2 = true) :
  1 ≤ (rune (c :: r)).1 ∧ ∀ x ∈ (c :: r).take (rune (c :: r)).1, idB x = true := by
 have h0 := sign_nonneg h
 unfold rune at h h0 ⊢
 simp only at h h0 ⊢
 by_cases h1 : c.toNat < 128
 ·rw [if_pos h1] at h ⊢
  refine ⟨Nat.le_refl _, fun x hx => ?_⟩
  simp at hx
  subst hx
  exact sign_ascii h1 h
 ·rw [if_neg h1] at h h0 ⊢
  split
  ·rename_i hp; simp [hp] at h0
  ·rename_i m least v hp
   simp only [hp] at h h0
   split
   ·rename_i hm; simp [hm] at h0
   ·rename_i w hm
    simp only [hm] at h h0
    have hc : idB c = true := by unfold idB; simp; omega
    have hm2 : 2 ≤ m := by
     split at hp
     ·simp at hp; omega
     ·split at hp
      ·simp at hp; omega
      ·split at hp
       ·simp at hp; omega
       ·cases hp
    split
    ·rename_i hb; simp [hb] at h0
    ·obtain ⟨k, rfl⟩ := Nat.exists_eq_succ_of_ne_zero (by omega : m ≠ 0)
     simp only [Nat.succ_eq_add_one, Nat.add_sub_cancel] at hm
     refine ⟨by omega, fun x hx => ?_⟩
     rw [Nat.succ_eq_add_one, List.take_succ_cons] at hx
     rcases List.mem_cons.1 hx with rfl | hx
     ·exact hc
     ·exact (more_some hm).2 x hx

theorem runesF_idB : ∀ (f : Nat) (s : Bs), s.length ≤ f → (runesF f s).all sign = true → ∀ c ∈ s, idB c = true := by
 intro f
 induction f with
 | zero => intro s hs _ c hc; simp at hs; subst hs; cases hc
 | succ f ih =>
  intro s hs h c hc
  cases s with
  | nil => cases hc
  | cons a r =>
   simp only [runesF, List.all_cons, Bool.and_eq_true] at h
   obtain ⟨h1, h2⟩ := rune_sign h.1
   rw [← List.take_append_drop (rune (a :: r)).1 (a :: r)] at hc
   rcases List.mem_append.1 hc with hc | hc
   ·exact h2 c hc
   ·exact ih _ (by rw [List.length_drop]; simp at hs ⊢; omega) h.2 c hc

theorem signs_idB {s : Bs} (h : signs s = true) : (∀ c ∈ s, idB c = true) ∧ ∃ c r, s = c :: r ∧ digB c = false := by
 cases s with
 | nil => simp [signs] at h
 | cons c r =>
  simp only [signs, Bool.and_eq_true] at h
  refine ⟨runesF_idB _ _ (Nat.le_refl _) h.2, c, r, rfl, ?_⟩
  unfold digB
  have := h.1
  simp at this ⊢
  omega

theorem isId_signs {s : Bs} (h : isId s = true) : signs s = true ∧ words.contains s = false := by
 unfold isId at h; simpa using h

/-! ### numbers -/

theorem value_snoc (l : Bs) (c : UInt8) : value (l ++ [c]) = value l * 10 + (c.toNat - 48) := by simp [value]

theorem dec_props (u : Nat) : value (Lib.decDigits u) = u ∧ (∀ c ∈ Lib.decDigits u, digB c = true) ∧ Lib.decDigits u ≠ [] := by
 induction u using Nat.strongRecOn with
 | ind u ih =>
  have one : ∀ q, q < 10 → (UInt8.ofNat (48 + q)).toNat = 48 + q := fun q hq => by
   simp [UInt8.toNat_ofNat']; omega
  rw [Lib.decDigits]
  split
  ·rename_i hlt
   refine ⟨?_, fun c hc => ?_, by simp⟩
   ·have := one u hlt
    simp only [value, List.foldl_cons, List.foldl_nil, this]; omega
   ·rw [List.mem_singleton] at hc
    subst hc
    unfold digB
    rw [one u hlt]; simp; omega
  ·rename_i hlt
   obtain ⟨h1, h2, _⟩ := ih (u / 10) (by omega)
   have hm := one (u % 10) (by omega)
   refine ⟨?_, fun c hc => ?_, by simp⟩
   ·rw [value_snoc, h1, hm]; omega
   ·rcases List.mem_append.1 hc with hc | hc
    ·exact h2 c hc
    ·rw [List.mem_singleton] at hc
     subst hc
     unfold digB
     rw [hm]; simp; omega

theorem itoa_props {n : Int} (h : 0 ≤ n) : (value (Lib.itoa n) : Int) = n ∧ (∀ c ∈ Lib.itoa n, digB c = true) ∧ ∃ c r, Lib.itoa n = c :: r := by
 unfold Lib.itoa
 rw [if_neg (by omega)]
 obtain ⟨h1, h2, h3⟩ := dec_props n.toNat
 refine ⟨by rw [h1]; omega, h2, ?_⟩
 cases hd : Lib.decDigits n.toNat with
 | nil => exact absurd hd h3
 | cons c r => exact ⟨c, r, rfl⟩

/-! ### quotes -/

def hexOk (n : Nat) : Bool := match hex n with
 | [a] => unhex a == n
 | [a, b] => b != 125 && (unhex a * 16 + unhex b == n)
 | _ => false
theorem hexOk_all : ∀ n : Fin 128, hexOk n.1 = true := by decide
theorem hex_props (n : Fin 128) : (∃ a, hex n.1 = [a] ∧ unhex a = n.1) ∨ ∃ a b, hex n.1 = [a, b] ∧ b ≠ 125 ∧ unhex a * 16 + unhex b = n.1 := by
 have h := hexOk_all n
 unfold hexOk at h
 split at h
 ·rename_i a e; exact .inl ⟨a, e, by simpa using h⟩
 ·rename_i a b e; simp at h; exact .inr ⟨a, b, e, h.1, h.2⟩
 ·cases h

theorem rdQ_esc (c : UInt8) (f : Nat) (s : Bs) : rdQ (f + 1) (escB c ++ s) = (rdQ f s).map fun p => (c :: p.1, p.2) := by
 unfold escB
 by_cases h1 : c = 34 ∨ c = 92
 ·rw [if_pos h1]
  rcases h1 with rfl | rfl <;> simp [rdQ]
 rw [if_neg h1]
 by_cases h2 : c = 10
 ·subst h2; simp [rdQ]
 rw [if_neg h2]
 by_cases h3 : c = 9
 ·subst h3; simp [rdQ]
 rw [if_neg h3]
 by_cases h4 : c.toNat < 32 ∨ c = 127
 ·rw [if_pos h4]
  have hlt : c.toNat < 128 := by
   rcases h4 with h | rfl
   ·omega
   ·decide
  have hof : UInt8.ofNat c.toNat = c := by simp
  rcases hex_props ⟨c.toNat, hlt⟩ with ⟨a, ha, hu⟩ | ⟨a, b, ha, hb, hu⟩
  ·simp only at ha hu
   rw [ha]
   simp [rdQ, hu, hof]
  ·simp only at ha hu
   rw [ha]
   simp [rdQ, hb, hu, hof]
 ·rw [if_neg h4]
  simp at h1
  simp [rdQ, h1.1, h1.2]

theorem rdQ_quote (t rest : Bs) : ∀ f, t.length < f → rdQ f (t.flatMap escB ++ 34 :: rest) = some (t, rest) := by
 induction t with
 | nil =>
  intro f hf
  obtain ⟨g, rfl⟩ := Nat.exists_eq_succ_of_ne_zero (by omega : f ≠ 0)
  simp [rdQ]
 | cons c t ih =>
  intro f hf
  obtain ⟨g, rfl⟩ := Nat.exists_eq_succ_of_ne_zero (by omega : f ≠ 0)
  rw [List.flatMap_cons, List.append_assoc, rdQ_esc, ih g (by simp at hf; omega)]
  rfl

theorem ev_rdQ (t rest : Bs) : Ev fun f => rdQ f (t.flatMap escB ++ 34 :: rest) = some (t, rest) := ⟨t.length + 1, fun f hf => rdQ_quote t rest f (by omega)⟩

mutual
def sz : Tr → Nat
 | .mk _ _ _ l => szs l + 1
def szs : List Tr → Nat
 | [] => 0
 | x :: r => sz x + szs r + 1
end

theorem none_eq {x : Tr} (h : isNone x = true) : x = .mk 14 [] 0 [] := by
 obtain ⟨k, t, n, l⟩ := x
 simp [isNone, plainT, bare, Tr.k, Tr.t, Tr.n, Tr.l] at h
 obtain ⟨⟨rfl, rfl, rfl⟩, rfl⟩ := h
 rfl

/-- What may stand behind a type. -/
structure TStop (rest : Bs) : Prop where
 id : nid rest = true
 arr : strip [91, 93] rest = none
 uni : strip [32, 124, 32] rest = none

/-- In brackets, a union and a function. -/
def wrapT (x : Tr) : Bs := if x.k = 32 ∨ x.k = 35 then [40] ++ outT x ++ [41] else outT x

theorem isT_inv {x : Tr} (h : isT x = true) :
  (∃ t, x = .mk 30 t 0 [] ∧ (isId t || t == [110, 117, 108, 108] || t == [117, 110, 100, 101, 102, 105, 110, 101, 100]) = true) ∨ (∃ y, x = .mk 31 [] 0 [y] ∧ isT y = true) ∨ (∃ l, x = .mk 32 [] 0 l ∧ unionOk l = true ∧ 2 ≤ l.length) ∨
  (∃ l, x = .mk 33 [] 0 l ∧ tpropsOk [] l = true) ∨ ∃ pl r, x = .mk 35 [] 0 [.mk 12 [] 0 pl, r] ∧ pms true [] pl = true ∧ isT r = true := by
 obtain ⟨k, t, n, l⟩ := x
 rw [isT.eq_def] at h
 simp only at h
 by_cases h1 : k = 30
 ·subst h1
  simp at h
  obtain ⟨⟨rfl, rfl⟩, h⟩ := h
  exact .inl ⟨t, rfl, by simpa using h⟩
 by_cases h2 : k = 31
 ·subst h2
  match l, h with
  | [y], h' =>
   simp at h'
   obtain ⟨⟨rfl, rfl⟩, hy⟩ := h'
   exact .inr (.inl ⟨y, rfl, hy⟩)
  | [], h => simp at h
  | _ :: _ :: _, h => simp at h
 by_cases h3 : k = 32
 ·subst h3
  simp at h
  obtain ⟨⟨h, rfl, rfl⟩, hl⟩ := h
  exact .inr (.inr (.inl ⟨l, rfl, h, hl⟩))
 by_cases h4 : k = 33
 ·subst h4
  simp at h
  obtain ⟨h, rfl, rfl⟩ := h
  exact .inr (.inr (.inr (.inl ⟨l, rfl, h⟩)))
 by_cases h5 : k = 35
 ·subst h5
  match l, h with
  | [.mk pk pt pn pl, r], h =>
   simp at h
   obtain ⟨⟨rfl, rfl⟩, ⟨⟨rfl, rfl, rfl⟩, hp⟩, hr⟩ := h
   exact .inr (.inr (.inr (.inr ⟨pl, r, rfl, hp, hr⟩)))
  | [], h => simp at h
  | [_], h => simp at h
  | _ :: _ :: _ :: _, h => simp at h
 ·simp [h1, h2, h3, h4, h5] at h

theorem unionOk_cons {x : Tr} {r : List Tr} (h : unionOk (x :: r) = true) : isT x = true ∧ x.k ≠ 32 ∧ unionOk r = true := by
 rw [unionOk] at h; simp at h; exact ⟨h.1.1, h.1.2, h.2⟩

theorem tprops_cons {names : List Bs} {x : Tr} {r : List Tr} (h : tpropsOk names (x :: r) = true) : ∃ t y, x = .mk 34 t 0 [y] ∧ signs t = true ∧ isT y = true ∧ tpropsOk (t :: names) r = true := by
 obtain ⟨k, t, n, l⟩ := x
 rw [tpropsOk.eq_def] at h
 simp only at h
 match l, h with
 | [y], h =>
  simp at h
  obtain ⟨⟨⟨⟨⟨rfl, rfl⟩, hs⟩, hy⟩, _⟩, hr⟩ := h
  exact ⟨t, y, rfl, hs, hy, hr⟩
 | [], h => simp at h
 | _ :: _ :: _, h => simp at h

theorem pms_cons {typed : Bool} {names : List Bs} {x : Tr} {r : List Tr} (h : pms typed names (x :: r) = true) :
  ∃ t y, x = .mk 13 t 0 [y] ∧ isId t = true ∧ ((typed = false ∧ y = .mk 14 [] 0 []) ∨ isT y = true) ∧ pms typed (t :: names) r = true := by
 obtain ⟨k, t, n, l⟩ := x
 rw [pms.eq_def] at h
 simp only at h
 match l, h with
 | [y], h =>
  simp at h
  obtain ⟨⟨⟨⟨⟨rfl, rfl⟩, hs⟩, hy⟩, _⟩, hr⟩ := h
  exact ⟨t, y, rfl, hs, hy.imp (fun h => ⟨h.1, none_eq h.2⟩) id, hr⟩
 | [], h => simp at h
 | _ :: _ :: _, h => simp at h

theorem outT30 (t : Bs) : outT (.mk 30 t 0 []) = t := by rw [outT.eq_def]; rfl
theorem outT31 (y : Tr) : outT (.mk 31 [] 0 [y]) = wrapT y ++ [91, 93] := by rw [outT.eq_def]; rfl
theorem outT32 (l : List Tr) : outT (.mk 32 [] 0 l) = unionT true l := by rw [outT.eq_def]; rfl
theorem outT33 (l : List Tr) : outT (.mk 33 [] 0 l) = if l.isEmpty then [123, 125] else [123, 32] ++ tpropsT l ++ [125] := by rw [outT.eq_def]; rfl
theorem outT35 (pl : List Tr) (r : Tr) : outT (.mk 35 [] 0 [.mk 12 [] 0 pl, r]) = [40] ++ parsT true pl ++ [41, 32, 61, 62, 32] ++ outT r := by rw [outT.eq_def]; rfl

structure TOk (x : Tr) : Prop where
 all : ∀ rest, TStop rest → Ev fun f => pT f (outT x ++ rest) = some (x, rest)
 one : ∀ rest X, nid rest = true → (Ev fun f => pA f x rest = X) → Ev fun f => pT1 f (wrapT x ++ rest) = X

theorem typeName_id {t : Bs} (h : (isId t || t == [110, 117, 108, 108] || t == [117, 110, 100, 101, 102, 105, 110, 101, 100]) = true) : (∀ c ∈ t, idB c = true) ∧ ∃ c r, t = c :: r ∧ idB c = true := by
 have key : ∀ s : Bs, signs s = true → (∀ c ∈ s, idB c = true) ∧ ∃ c r, s = c :: r ∧ idB c = true := fun s hs => by
  obtain ⟨h1, c, r, rfl, _⟩ := signs_idB hs
  exact ⟨h1, c, r, rfl, h1 c List.mem_cons_self⟩
 simp only [Bool.or_eq_true] at h
 rcases h with (h | h) | h
 ·exact key _ (isId_signs h).1
 ·have := eq_of_beq h; subst this; exact key _ (by decide)
 ·have := eq_of_beq h; subst this; exact key _ (by decide)

/-- The first byte of a type is no bracket's end; behind its first name stands no colon. -/
def startsT (s : Bs) : Prop := (∃ c r, s = c :: r ∧ c ≠ 41 ∧ c ≠ 32) ∧ strip [58] (s.dropWhile idB) = none

theorem starts_br (c : UInt8) (s : Bs) (h : c = 40 ∨ c = 123) : startsT (c :: s) := by
 rcases h with rfl | rfl
 ·exact ⟨⟨40, s, rfl, by decide, by decide⟩, by rw [List.dropWhile_cons_of_neg (by decide)]; exact strip_ne (by decide) _ _⟩
 ·exact ⟨⟨123, s, rfl, by decide, by decide⟩, by rw [List.dropWhile_cons_of_neg (by decide)]; exact strip_ne (by decide) _ _⟩

theorem id_ne {c : UInt8} (h : idB c = true) : c ≠ 41 ∧ c ≠ 32 ∧ c ≠ 40 ∧ c ≠ 123 ∧ c ≠ 125 ∧ c ≠ 93 ∧ c ≠ 91 ∧ c ≠ 34 ∧ c ≠ 45 ∧ c ≠ 33 ∧ c ≠ 46 ∧ c ≠ 58 ∧ c ≠ 44 ∧ c ≠ 59 ∧ c ≠ 10 := by
 refine ⟨?_, ?_, ?_, ?_, ?_, ?_, ?_, ?_, ?_, ?_, ?_, ?_, ?_, ?_, ?_⟩ <;> (rintro rfl; revert h; decide)

/-- What follows a type begins with no colon and no byte of a name. -/
def noCol (rest : Bs) : Prop := nid rest = true ∧ strip [58] rest = none

theorem starts_name {t rest : Bs} (h : (∀ c ∈ t, idB c = true) ∧ ∃ c r, t = c :: r ∧ idB c = true) (hr : noCol rest) : startsT (t ++ rest) := by
 obtain ⟨h1, c, r, rfl, hc⟩ := h
 refine ⟨⟨c, r ++ rest, rfl, (id_ne hc).1, (id_ne hc).2.1⟩, ?_⟩
 rw [(span_id h1 hr.1).2]
 exact hr.2

theorem starts_all : ∀ (n : Nat) (x : Tr), sz x < n → isT x = true → ∀ rest, noCol rest → startsT (outT x ++ rest) := by
 intro n
 induction n with
 | zero => intro x hx; omega
 | succ n ih =>
  intro x hx h rest hr
  rcases isT_inv h with ⟨t, rfl, ht⟩ | ⟨y, rfl, hy⟩ | ⟨l, rfl, hl, h2⟩ | ⟨l, rfl, hl⟩ | ⟨pl, r, rfl, hp, hr'⟩
  ·rw [outT30]; exact starts_name (typeName_id ht) hr
  ·rw [outT31]
   simp only [sz, szs] at hx
   unfold wrapT
   split
   ·exact starts_br 40 _ (.inl rfl)
   ·rw [List.append_assoc]
    exact ih y (by omega) hy _ ⟨rfl, rfl⟩
  ·rw [outT32]
   match l, hl, h2 with
   | y :: z :: r, hl, _ =>
    simp only [sz, szs] at hx
    simp only [unionT, List.nil_append, if_true]
    split
    ·exact starts_br 40 _ (.inl rfl)
    ·rw [List.append_assoc]
     exact ih y (by omega) (unionOk_cons hl).1 _ ⟨rfl, rfl⟩
  ·rw [outT33]
   split <;> exact starts_br 123 _ (.inr rfl)
  ·rw [outT35]; exact starts_br 40 _ (.inl rfl)

theorem wrap_ne {x : Tr} (h : ¬ (x.k = 32 ∨ x.k = 35)) : wrapT x = outT x := if_neg h
theorem wrap_br {x : Tr} (h : x.k = 32 ∨ x.k = 35) : wrapT x = [40] ++ outT x ++ [41] := if_pos h

theorem pA_stop {x : Tr} {rest : Bs} (h : strip [91, 93] rest = none) : Ev fun f => pA f x rest = some (x, rest) := Ev.of1 fun f => by rw [pA.eq_def]; simp only [h]

theorem tstop_br (rest : Bs) : TStop (41 :: rest) := ⟨rfl, rfl, rfl⟩
theorem tstop_semi (rest : Bs) : TStop (59 :: rest) := ⟨rfl, rfl, rfl⟩
theorem tstop_comma (rest : Bs) : TStop (44 :: rest) := ⟨rfl, rfl, rfl⟩

theorem pT0_name {t rest : Bs} (h : (∀ c ∈ t, idB c = true) ∧ ∃ c r, t = c :: r ∧ idB c = true) (hr : nid rest = true) : Ev fun f => pT0 f (t ++ rest) = some (.mk 30 t 0 [], rest) := Ev.of1 fun f => by
 obtain ⟨h1, c, r, rfl, hc⟩ := h
 have hn := id_ne hc
 have hs := span_id h1 hr
 simp only [List.cons_append] at hs ⊢
 rw [pT0.eq_def]
 simp only [hn.2.2.1, hn.2.2.2.1, if_false, hs]

/-- The types smaller than n are read. -/
def TAll (n : Nat) : Prop := ∀ x, sz x < n → isT x = true → TOk x

theorem pTP_read {n : Nat} (ih : TAll n) : ∀ (l : List Tr) (names : List Bs), szs l < n → tpropsOk names l = true → ∀ rest, Ev fun f => pTP f (tpropsT l ++ 125 :: rest) = some (l, rest) := by
 intro l
 induction l with
 | nil => intro names _ _ rest; exact Ev.of1 fun f => by rw [pTP.eq_def]; simp [tpropsT, strip]
 | cons x r ihl =>
  intro names hs h rest
  obtain ⟨t, y, rfl, ht, hy, hr⟩ := tprops_cons h
  simp only [szs, sz] at hs
  obtain ⟨h1, c, q, rfl, hc⟩ := signs_idB ht
  have hcid := h1 c List.mem_cons_self
  have hy' := (ih y (by omega) hy).all (59 :: 32 :: (tpropsT r ++ 125 :: rest)) (tstop_semi _)
  refine (hy'.and (ihl _ (by omega) hr rest)).step fun f ⟨e1, e2⟩ => ?_
  rw [pTP.eq_def]
  have hsp := span_id (rest := 58 :: 32 :: (outT y ++ 59 :: 32 :: (tpropsT r ++ 125 :: rest))) h1 rfl
  have e : tpropsT (.mk 34 (c :: q) 0 [y] :: r) ++ 125 :: rest = (c :: q) ++ 58 :: 32 :: (outT y ++ 59 :: 32 :: (tpropsT r ++ 125 :: rest)) := by
   rw [tpropsT.eq_def]; simp
  rw [e]
  simp only [hsp]
  have hne : strip [125] (c :: q ++ 58 :: 32 :: (outT y ++ 59 :: 32 :: (tpropsT r ++ 125 :: rest))) = none := strip_ne (fun e => (id_ne hcid).2.2.2.2.1 e.symm) _ _
  simp only [hne]
  simp [strip, e1, e2]

theorem pPar_read {n : Nat} (ih : TAll n) (typed : Bool) : ∀ (l : List Tr) (names : List Bs), l ≠ [] → szs l < n → pms typed names l = true → ∀ rest, Ev fun f => pPar f (parsT true l ++ 41 :: rest) = some (l, rest) := by
 intro l
 induction l with
 | nil => intro _ h; exact absurd rfl h
 | cons x r ihl =>
  intro names _ hs h rest
  obtain ⟨t, y, rfl, ht, hy, hr⟩ := pms_cons h
  simp only [szs, sz] at hs
  obtain ⟨h1, c, q, rfl, hc⟩ := signs_idB (isId_signs ht).1
  -- what stands behind the type
  have tail : ∃ tl, parsT false r ++ 41 :: rest = tl ∧ (nid tl = true ∧ TStop tl ∧ strip [58, 32] tl = none) ∧
    ((strip [41] tl = some rest ∧ r = []) ∨ (strip [41] tl = none ∧ ∃ s2, strip [44, 32] tl = some s2 ∧ Ev fun f => pPar f s2 = some (r, rest))) := by
   cases r with
   | nil => exact ⟨_, rfl, ⟨rfl, tstop_br _, rfl⟩, .inl ⟨rfl, rfl⟩⟩
   | cons z r =>
    have e : parsT false (z :: r) = 44 :: 32 :: parsT true (z :: r) := by
     obtain ⟨zk, zt, zn, zl⟩ := z
     rw [parsT.eq_def, parsT.eq_def]; simp
    rw [e]
    exact ⟨_, rfl, ⟨rfl, tstop_comma _, rfl⟩, .inr ⟨rfl, _, rfl, ihl _ (by simp) (by omega) hr rest⟩⟩
  obtain ⟨tl, htl, ⟨hn, hts, hcol⟩, htail⟩ := tail
  rcases hy with ⟨_, rfl⟩ | hy
  ·have e : parsT true (.mk 13 (c :: q) 0 [.mk 14 [] 0 []] :: r) ++ 41 :: rest = (c :: q) ++ tl := by
    rw [parsT.eq_def]; simp [Tr.k, ← htl]
   rw [e]
   rcases htail with ⟨g1, rfl⟩ | ⟨g1, s2, g2, g3⟩
   ·refine Ev.of1 fun f => ?_
    rw [pPar.eq_def]
    simp only [span_id h1 hn, hcol]
    simp [g1]
   ·refine g3.step fun f g3 => ?_
    rw [pPar.eq_def]
    simp only [span_id h1 hn, hcol]
    simp [g1, g2, g3]
  ·have hk : y.k ≠ 14 := by
    intro hk
    rcases isT_inv hy with ⟨_, rfl, _⟩ | ⟨_, rfl, _⟩ | ⟨_, rfl, _⟩ | ⟨_, rfl, _⟩ | ⟨_, _, rfl, _⟩ <;> simp [Tr.k] at hk
   have e : parsT true (.mk 13 (c :: q) 0 [y] :: r) ++ 41 :: rest = (c :: q) ++ 58 :: 32 :: (outT y ++ tl) := by
    rw [parsT.eq_def]; simp [hk, ← htl]
   rw [e]
   have hy' := (ih y (by omega) hy).all tl hts
   rcases htail with ⟨g1, rfl⟩ | ⟨g1, s2, g2, g3⟩
   ·refine hy'.step fun f e2 => ?_
    rw [pPar.eq_def]
    simp only [span_id (rest := 58 :: 32 :: (outT y ++ tl)) h1 rfl]
    have hs : strip [58, 32] (58 :: 32 :: (outT y ++ tl)) = some (outT y ++ tl) := rfl
    simp only [hs, e2]
    simp [g1]
   ·refine (hy'.and g3).step fun f ⟨e2, g3⟩ => ?_
    rw [pPar.eq_def]
    simp only [span_id (rest := 58 :: 32 :: (outT y ++ tl)) h1 rfl]
    have hs : strip [58, 32] (58 :: 32 :: (outT y ++ tl)) = some (outT y ++ tl) := rfl
    simp only [hs, e2]
    simp [g1, g2, g3]

theorem outT_head {x : Tr} (h : isT x = true) {rest : Bs} (hr : noCol rest) : startsT (outT x ++ rest) := starts_all (sz x + 1) x (by omega) h rest hr

/-- A wrapped type, read up to what may go on it. -/
theorem one_of {x : Tr} (h : isT x = true) (hall : ∀ rest, TStop rest → Ev fun f => pT f (outT x ++ rest) = some (x, rest))
  (hname : ¬ (x.k = 32 ∨ x.k = 35) → ∀ rest X, nid rest = true → (Ev fun f => pA f x rest = X) → Ev fun f => pT1 f (outT x ++ rest) = X) :
  ∀ rest X, nid rest = true → (Ev fun f => pA f x rest = X) → Ev fun f => pT1 f (wrapT x ++ rest) = X := by
 intro rest X hr hX
 by_cases hk : x.k = 32 ∨ x.k = 35
 ·rw [wrap_br hk]
  obtain ⟨⟨c, q, hc, hc1, hc2⟩, hcol⟩ := outT_head h (rest := 41 :: rest) ⟨rfl, rfl⟩
  have e : [40] ++ outT x ++ [41] ++ rest = 40 :: (outT x ++ 41 :: rest) := by simp
  rw [e]
  have h0 : Ev fun f => pT0 f (40 :: (outT x ++ 41 :: rest)) = some (x, rest) := by
   refine (hall (41 :: rest) (tstop_br _)).step fun f e1 => ?_
   rw [pT0.eq_def]
   have hf : strip [41, 32, 61, 62, 32] (outT x ++ 41 :: rest) = none := by rw [hc]; exact strip_ne (fun e => hc1 e.symm) _ _
   simp only [if_true, hf, hcol]
   simp [e1, strip]
  refine (h0.and hX).step fun f ⟨e1, e2⟩ => ?_
  rw [pT1.eq_def]
  simp [e1, e2]
 ·rw [wrap_ne hk]; exact hname hk rest X hr hX

theorem pT_of_pT1 {x : Tr} {s rest : Bs} (h : Ev fun f => pT1 f s = some (x, rest)) (hr : strip [32, 124, 32] rest = none) : Ev fun f => pT f s = some (x, rest) :=
 h.step fun f e => by rw [pT.eq_def]; simp [e, hr]

theorem pU_read {n : Nat} (ih : TAll n) : ∀ (l : List Tr), l ≠ [] → szs l < n → unionOk l = true → ∀ rest, TStop rest → Ev fun f => pU f (unionT true l ++ rest) = some (l, rest) := by
 intro l
 induction l with
 | nil => intro h; exact absurd rfl h
 | cons x r ihl =>
  intro _ hs h rest hts
  obtain ⟨hx, hk, hr⟩ := unionOk_cons h
  simp only [szs] at hs
  have hw : (if x.k = 35 then [40] ++ outT x ++ [41] else outT x) = wrapT x := by unfold wrapT; simp [hk]
  cases r with
  | nil =>
   have e : unionT true [x] ++ rest = wrapT x ++ rest := by rw [unionT.eq_def]; simp only [hw]; simp [unionT]
   rw [e]
   refine ((ih x (by omega) hx).one rest _ hts.id (pA_stop hts.arr)).step fun f e1 => ?_
   rw [pU.eq_def]
   simp [e1, hts.uni]
  | cons z r =>
   have e : unionT true (x :: z :: r) ++ rest = wrapT x ++ 32 :: 124 :: 32 :: (unionT true (z :: r) ++ rest) := by
    rw [unionT.eq_def]; simp only [hw]; rw [unionT.eq_def]; simp [unionT]
   rw [e]
   refine (((ih x (by omega) hx).one _ _ rfl (pA_stop (rest := 32 :: 124 :: 32 :: (unionT true (z :: r) ++ rest)) rfl)).and (ihl (by simp) (by omega) hr rest hts)).step fun f ⟨e1, e2⟩ => ?_
   rw [pU.eq_def]
   simp [e1, strip, e2]

theorem types_read : ∀ n, TAll n := by
 intro n
 induction n with
 | zero => intro x hx; omega
 | succ n ih =>
  intro x hx h
  have fin : (¬ (x.k = 32 ∨ x.k = 35) → ∀ rest X, nid rest = true → (Ev fun f => pA f x rest = X) → Ev fun f => pT1 f (outT x ++ rest) = X) →
    ((x.k = 32 ∨ x.k = 35) → ∀ rest, TStop rest → Ev fun f => pT f (outT x ++ rest) = some (x, rest)) → TOk x := fun h1 h2 => by
   have hall : ∀ rest, TStop rest → Ev fun f => pT f (outT x ++ rest) = some (x, rest) := fun rest hts => by
    by_cases hk : x.k = 32 ∨ x.k = 35
    ·exact h2 hk rest hts
    ·exact pT_of_pT1 (h1 hk rest _ hts.id (pA_stop hts.arr)) hts.uni
   exact ⟨hall, one_of h hall h1⟩
  -- a primary type: read, then what goes on it
  have prim : ∀ {rest : Bs} {X : Option (Tr × Bs)}, (Ev fun f => pT0 f (outT x ++ rest) = some (x, rest)) → (Ev fun f => pA f x rest = X) → Ev fun f => pT1 f (outT x ++ rest) = X := fun h0 hX =>
   (h0.and hX).step fun f ⟨e1, e2⟩ => by rw [pT1.eq_def]; simp [e1, e2]
  rcases isT_inv h with ⟨t, rfl, ht⟩ | ⟨y, rfl, hy⟩ | ⟨l, rfl, hl, h2⟩ | ⟨l, rfl, hl⟩ | ⟨pl, r, rfl, hp, hr⟩
  ·refine fin (fun _ rest X hn hX => prim ?_ hX) (fun hk => by simp [Tr.k] at hk)
   rw [outT30]; exact pT0_name (typeName_id ht) hn
  ·refine fin (fun _ rest X hn hX => ?_) (fun hk => by simp [Tr.k] at hk)
   simp only [sz, szs] at hx
   rw [outT31, List.append_assoc]
   refine (ih y (by omega) hy).one _ X rfl ?_
   refine hX.step fun f e => ?_
   rw [pA.eq_def]
   simp [strip, e]
  ·refine fin (fun hk => absurd (.inl rfl) hk) (fun _ rest hts => ?_)
   simp only [sz] at hx
   rw [outT32]
   match l, hl, h2 with
   | y :: z :: r, hl, _ =>
    obtain ⟨hy, hk, hr⟩ := unionOk_cons hl
    simp only [szs] at hx
    have hw : (if y.k = 35 then [40] ++ outT y ++ [41] else outT y) = wrapT y := by unfold wrapT; simp [hk]
    have e : unionT true (y :: z :: r) ++ rest = wrapT y ++ 32 :: 124 :: 32 :: (unionT true (z :: r) ++ rest) := by
     rw [unionT.eq_def]; simp only [hw]; rw [unionT.eq_def]; simp [unionT]
    rw [e]
    refine (((ih y (by omega) hy).one _ _ rfl (pA_stop (rest := 32 :: 124 :: 32 :: (unionT true (z :: r) ++ rest)) rfl)).and (pU_read ih (z :: r) (by simp) (by simp only [szs]; omega) hr rest hts)).step fun f ⟨e1, e2⟩ => ?_
    rw [pT.eq_def]
    simp [e1, strip, e2]
  ·refine fin (fun _ rest X hn hX => prim ?_ hX) (fun hk => by simp [Tr.k] at hk)
   simp only [sz] at hx
   rw [outT33]
   cases l with
   | nil => exact Ev.of1 fun f => by rw [pT0.eq_def]; simp [strip]
   | cons z r =>
    refine (pTP_read ih (z :: r) [] (by omega) hl rest).step fun f e1 => ?_
    rw [pT0.eq_def]
    simp [strip, e1]
  ·refine fin (fun hk => absurd (.inr rfl) hk) (fun _ rest hts => ?_)
   simp only [sz, szs] at hx
   have hR := (ih r (by omega) hr).all rest hts
   rw [outT35]
   have h0 : Ev fun f => pT0 f (40 :: (parsT true pl ++ 41 :: 32 :: 61 :: 62 :: 32 :: (outT r ++ rest))) = some (.mk 35 [] 0 [.mk 12 [] 0 pl, r], rest) := by
    cases pl with
    | nil =>
     refine hR.step fun f e1 => ?_
     rw [pT0.eq_def]
     simp [parsT, strip, e1]
    | cons z pr =>
     have hpar := pPar_read ih true (z :: pr) [] (by simp) (by simp only [szs] at hx ⊢; omega) hp (32 :: 61 :: 62 :: 32 :: (outT r ++ rest))
     refine (hpar.and hR).step fun f ⟨e1, e2⟩ => ?_
     obtain ⟨t, ty, rfl, ht, hty, _⟩ := pms_cons hp
     rcases hty with ⟨hf, _⟩ | hty
     ·cases hf
     obtain ⟨h1, c, q, rfl, hc⟩ := signs_idB (isId_signs ht).1
     have hcid := h1 c List.mem_cons_self
     have hk : ty.k ≠ 14 := by
      intro hk
      rcases isT_inv hty with ⟨_, rfl, _⟩ | ⟨_, rfl, _⟩ | ⟨_, rfl, _⟩ | ⟨_, rfl, _⟩ | ⟨_, _, rfl, _⟩ <;> simp [Tr.k] at hk
     have e : parsT true (.mk 13 (c :: q) 0 [ty] :: pr) ++ 41 :: 32 :: 61 :: 62 :: 32 :: (outT r ++ rest) = (c :: q) ++ 58 :: (32 :: (outT ty ++ (parsT false pr ++ 41 :: 32 :: 61 :: 62 :: 32 :: (outT r ++ rest)))) := by
      rw [parsT.eq_def]; simp [hk]
     have hsp := span_id (rest := 58 :: (32 :: (outT ty ++ (parsT false pr ++ 41 :: 32 :: 61 :: 62 :: 32 :: (outT r ++ rest))))) h1 rfl
     rw [← e] at hsp
     have hf : strip [41, 32, 61, 62, 32] (parsT true (.mk 13 (c :: q) 0 [ty] :: pr) ++ 41 :: 32 :: 61 :: 62 :: 32 :: (outT r ++ rest)) = none := by
      rw [e]; exact strip_ne (fun e => (id_ne hcid).1 e.symm) _ _
     have hcol : strip [58] ((parsT true (.mk 13 (c :: q) 0 [ty] :: pr) ++ 41 :: 32 :: 61 :: 62 :: 32 :: (outT r ++ rest)).dropWhile idB) = some (32 :: (outT ty ++ (parsT false pr ++ 41 :: 32 :: 61 :: 62 :: 32 :: (outT r ++ rest)))) := by
      rw [hsp.2]; simp [strip]
     rw [pT0.eq_def]
     simp only [if_true, hf, hcol, e1]
     simp [strip, e2]
   have h1 : Ev fun f => pT1 f (40 :: (parsT true pl ++ 41 :: 32 :: 61 :: 62 :: 32 :: (outT r ++ rest))) = some (.mk 35 [] 0 [.mk 12 [] 0 pl, r], rest) :=
    (h0.and (pA_stop (x := .mk 35 [] 0 [.mk 12 [] 0 pl, r]) hts.arr)).step fun f ⟨e1, e2⟩ => by rw [pT1.eq_def]; simp [e1, e2]
   have e : [40] ++ parsT true pl ++ [41, 32, 61, 62, 32] ++ outT r ++ rest = 40 :: (parsT true pl ++ 41 :: 32 :: 61 :: 62 :: 32 :: (outT r ++ rest)) := by simp
   rw [e]
   exact pT_of_pT1 h1 hts.uni

theorem type_read {x : Tr} (h : isT x = true) {rest : Bs} (hts : TStop rest) : Ev fun f => pT f (outT x ++ rest) = some (x, rest) := (types_read (sz x + 1) x (by omega) h).all rest hts

theorem isT_not14 {y : Tr} (h : isT y = true) : y.k ≠ 14 := by
 intro hk
 rcases isT_inv h with ⟨_, rfl, _⟩ | ⟨_, rfl, _⟩ | ⟨_, rfl, _⟩ | ⟨_, rfl, _⟩ | ⟨_, _, rfl, _⟩ <;> simp [Tr.k] at hk

theorem tyOr_read {x : Tr} (h : isTyOr x = true) {rest : Bs} (hts : TStop rest) (hc : strip [58, 32] rest = none) : Ev fun f => pTyOr f (tyOr x ++ rest) = some (x, rest) := by
 unfold isTyOr at h
 simp only [Bool.or_eq_true] at h
 rcases h with h | h
 ·rw [none_eq h]
  exact Ev.of fun f => by simp [tyOr, Tr.k, pTyOr, hc]
 ·have hk := isT_not14 h
  refine (type_read h hts).mono fun f e => ?_
  simp [tyOr, hk, pTyOr, strip, e]

theorem pms_read {x : Tr} {typed : Bool} (h : isPms typed x = true) (rest : Bs) : Ev fun f => pPms f (pmsT x ++ rest) = some (x, rest) := by
 obtain ⟨k, t, n, l⟩ := x
 simp [isPms, plainT, Tr.k, Tr.t, Tr.n, Tr.l] at h
 obtain ⟨⟨rfl, rfl, rfl⟩, h⟩ := h
 cases l with
 | nil => exact Ev.of fun f => by simp [pmsT, Tr.l, parsT, pPms, strip]
 | cons z pr =>
  refine (pPar_read (types_read (szs (z :: pr) + 1)) typed (z :: pr) [] (by simp) (by omega) h rest).mono fun f e1 => ?_
  have hne : strip [41] (parsT true (z :: pr) ++ 41 :: rest) = none := by
   obtain ⟨t, ty, rfl, ht, hty, _⟩ := pms_cons h
   obtain ⟨h1, c, q, rfl, hc⟩ := signs_idB (isId_signs ht).1
   rw [parsT.eq_def]
   exact strip_ne (fun e => (id_ne (h1 c List.mem_cons_self)).1 e.symm) _ _
  have hs : pmsT (.mk 12 [] 0 (z :: pr)) ++ rest = 40 :: (parsT true (z :: pr) ++ 41 :: rest) := by simp [pmsT, Tr.l]
  rw [hs]
  have h40 : strip [40] (40 :: (parsT true (z :: pr) ++ 41 :: rest)) = some (parsT true (z :: pr) ++ 41 :: rest) := rfl
  unfold pPms
  simp [h40, hne, e1]

/-- An expression, case by case. -/
inductive CE : Tr → Prop where
 | num (n : Int) (h : 0 ≤ n) : CE (.mk 1 [] n [])
 | text (t : Bs) (h : valid t = true) : CE (.mk 2 t 0 [])
 | bool (n : Int) (h : n = 0 ∨ n = 1) : CE (.mk 3 [] n [])
 | word (k : Int) (h : k = 4 ∨ k = 5 ∨ k = 7) : CE (.mk k [] 0 [])
 | name (t : Bs) (h : isId t = true) : CE (.mk 6 t 0 [])
 | array (l : List Tr) (h : allE l = true) : CE (.mk 8 [] 0 l)
 | object (l : List Tr) (h : propsE l = true) : CE (.mk 9 [] 0 l)
 | func (p ty : Tr) (bl : List Tr) (h1 : isPms false p = true) (h2 : isTyOr ty = true) (h3 : allS bl = true) : CE (.mk 11 [] 0 [p, ty, .mk 52 [] 0 bl])
 | unary (t : Bs) (x : Tr) (h1 : unOps.contains t = true) (h2 : isE x = true) : CE (.mk 15 t 0 [x])
 | binary (t : Bs) (x y : Tr) (h1 : binOps.contains t = true) (h2 : isE x = true) (h3 : isE y = true) : CE (.mk 16 t 0 [x, y])
 | cond (x y z : Tr) (h1 : isE x = true) (h2 : isE y = true) (h3 : isE z = true) : CE (.mk 17 [] 0 [x, y, z])
 | assign (x y : Tr) (h1 : isE x = true) (h2 : isE y = true) : CE (.mk 18 [] 0 [x, y])
 | call (x : Tr) (r : List Tr) (h1 : isE x = true) (h2 : allE r = true) : CE (.mk 19 [] 0 (x :: r))
 | new (t : Bs) (l : List Tr) (h1 : isId t = true) (h2 : allE l = true) : CE (.mk 20 t 0 l)
 | member (t : Bs) (x : Tr) (h1 : signs t = true) (h2 : isE x = true) : CE (.mk 21 t 0 [x])
 | index (x y : Tr) (h1 : isE x = true) (h2 : isE y = true) : CE (.mk 22 [] 0 [x, y])

theorem isE_inv {x : Tr} (h : isE x = true) : CE x := by
 obtain ⟨k, t, n, l⟩ := x
 rw [isE.eq_def] at h
 simp only at h
 by_cases hk : k = 1
 ·rw [if_pos hk] at h; subst hk; simp only [Bool.and_eq_true, decide_eq_true_eq, beq_iff_eq, List.isEmpty_iff] at h; obtain ⟨⟨⟨rfl, h0⟩, _⟩, rfl⟩ := h; exact .num n h0
 rw [if_neg hk] at h; clear hk
 by_cases hk : k = 2
 ·rw [if_pos hk] at h; subst hk; simp at h; obtain ⟨⟨rfl, h0⟩, rfl⟩ := h; exact .text t h0
 rw [if_neg hk] at h; clear hk
 by_cases hk : k = 3
 ·rw [if_pos hk] at h; subst hk; simp at h; obtain ⟨⟨rfl, h0⟩, rfl⟩ := h; exact .bool n h0
 rw [if_neg hk] at h; clear hk
 by_cases hk : k = 4 ∨ k = 5 ∨ k = 7
 ·rw [if_pos hk] at h; simp at h; obtain ⟨⟨rfl, rfl⟩, rfl⟩ := h; exact .word k hk
 rw [if_neg hk] at h; clear hk
 by_cases hk : k = 6
 ·rw [if_pos hk] at h; subst hk; simp at h; obtain ⟨⟨rfl, h0⟩, rfl⟩ := h; exact .name t h0
 rw [if_neg hk] at h; clear hk
 by_cases hk : k = 8
 ·rw [if_pos hk] at h; subst hk; simp at h; obtain ⟨⟨rfl, rfl⟩, h0⟩ := h; exact .array l h0
 rw [if_neg hk] at h; clear hk
 by_cases hk : k = 9
 ·rw [if_pos hk] at h; subst hk; simp at h; obtain ⟨h0, rfl, rfl⟩ := h; exact .object l h0
 rw [if_neg hk] at h; clear hk
 by_cases hk : k = 11
 ·rw [if_pos hk] at h; subst hk
  match l, h with
  | [p, ty, .mk bk bt bn bl], h' =>
   simp at h'; obtain ⟨⟨rfl, rfl⟩, ⟨h1, h2⟩, rfl, h3, rfl, rfl⟩ := h'; exact .func p ty bl h1 h2 h3
  | [], h => simp at h
  | [_], h => simp at h
  | [_, _], h => simp at h
  | _ :: _ :: _ :: _ :: _, h => simp at h
 rw [if_neg hk] at h; clear hk
 by_cases hk : k = 15
 ·rw [if_pos hk] at h; subst hk
  match l, h with
  | [x], h' => simp only [Bool.and_eq_true] at h'; obtain ⟨⟨h0, h1⟩, h2⟩ := h'; have := eq_of_beq h0; subst this; exact .unary t x h1 h2
  | [], h => simp at h
  | _ :: _ :: _, h => simp at h
 rw [if_neg hk] at h; clear hk
 by_cases hk : k = 16
 ·rw [if_pos hk] at h; subst hk
  match l, h with
  | [x, y], h' => simp only [Bool.and_eq_true] at h'; obtain ⟨⟨h0, h1⟩, h2, h3⟩ := h'; have := eq_of_beq h0; subst this; exact .binary t x y h1 h2 h3
  | [], h => simp at h
  | [_], h => simp at h
  | _ :: _ :: _ :: _, h => simp at h
 rw [if_neg hk] at h; clear hk
 by_cases hk : k = 17
 ·rw [if_pos hk] at h; subst hk
  match l, h with
  | [x, y, z], h' => simp at h'; obtain ⟨⟨rfl, rfl⟩, ⟨h1, h2⟩, h3⟩ := h'; exact .cond x y z h1 h2 h3
  | [], h => simp at h
  | [_], h => simp at h
  | [_, _], h => simp at h
  | _ :: _ :: _ :: _ :: _, h => simp at h
 rw [if_neg hk] at h; clear hk
 by_cases hk : k = 18
 ·rw [if_pos hk] at h; subst hk
  match l, h with
  | [x, y], h' => simp at h'; obtain ⟨⟨rfl, rfl⟩, ⟨h1, h2⟩, _⟩ := h'; exact .assign x y h1 h2
  | [], h => simp at h
  | [_], h => simp at h
  | _ :: _ :: _ :: _, h => simp at h
 rw [if_neg hk] at h; clear hk
 by_cases hk : k = 19
 ·rw [if_pos hk] at h; subst hk
  match l, h with
  | x :: r, h' => simp [allE] at h'; obtain ⟨⟨rfl, rfl⟩, h1, h2⟩ := h'; exact .call x r h1 h2
  | [], h => simp at h
 rw [if_neg hk] at h; clear hk
 by_cases hk : k = 20
 ·rw [if_pos hk] at h; subst hk; simp at h; obtain ⟨⟨rfl, h0⟩, h1⟩ := h; exact .new t l h0 h1
 rw [if_neg hk] at h; clear hk
 by_cases hk : k = 21
 ·rw [if_pos hk] at h; subst hk
  match l, h with
  | [x], h' => simp at h'; obtain ⟨⟨rfl, h1⟩, h2⟩ := h'; exact .member t x h1 h2
  | [], h => simp at h
  | _ :: _ :: _, h => simp at h
 rw [if_neg hk] at h; clear hk
 by_cases hk : k = 22
 ·rw [if_pos hk] at h; subst hk
  match l, h with
  | [x, y], h' => simp at h'; obtain ⟨⟨rfl, rfl⟩, h1, h2⟩ := h'; exact .index x y h1 h2
  | [], h => simp at h
  | [_], h => simp at h
  | _ :: _ :: _ :: _, h => simp at h
 ·rw [if_neg hk] at h; cases h

/-- A statement, case by case. -/
inductive CS : Tr → Prop where
 | lets (t : Bs) (n : Int) (ty x : Tr) (h1 : isId t = true) (h2 : n = 0 ∨ n = 1) (h3 : isTyOr ty = true) (h4 : isE x = true) : CS (.mk 40 t n [ty, x])
 | func (t : Bs) (p ty : Tr) (bl : List Tr) (h0 : isId t = true) (h1 : isPms false p = true) (h2 : isTyOr ty = true) (h3 : allS bl = true) : CS (.mk 41 t 0 [p, ty, .mk 52 [] 0 bl])
 | expr (x : Tr) (h : isE x = true) : CS (.mk 47 [] 0 [x])
 | throws (x : Tr) (h : isE x = true) : CS (.mk 51 [] 0 [x])
 | ifs (x : Tr) (bl : List Tr) (h1 : isE x = true) (h2 : allS bl = true) : CS (.mk 48 [] 0 [x, .mk 52 [] 0 bl, .mk 14 [] 0 []])
 | ifElse (x : Tr) (bl cl : List Tr) (h1 : isE x = true) (h2 : allS bl = true) (h3 : allS cl = true) : CS (.mk 48 [] 0 [x, .mk 52 [] 0 bl, .mk 52 [] 0 cl])
 | whiles (x : Tr) (bl : List Tr) (h1 : isE x = true) (h2 : allS bl = true) : CS (.mk 49 [] 0 [x, .mk 52 [] 0 bl])
 | ret : CS (.mk 50 [] 0 [.mk 14 [] 0 []])
 | retE (x : Tr) (h : isE x = true) : CS (.mk 50 [] 0 [x])
 | block (l : List Tr) (h : allS l = true) : CS (.mk 52 [] 0 l)

theorem isS_inv {x : Tr} (h : isS x = true) : CS x := by
 obtain ⟨k, t, n, l⟩ := x
 rw [isS.eq_def] at h
 simp only at h
 split at h
 ·rename_i hk; subst hk
  match l, h with
  | [ty, x], h' => simp at h'; obtain ⟨⟨h1, h2⟩, h3, h4⟩ := h'; exact .lets t n ty x h1 h2 h3 h4
  | [], h => simp at h
  | [_], h => simp at h
  | _ :: _ :: _ :: _, h => simp at h
 split at h
 ·rename_i hk; subst hk
  match l, h with
  | [p, ty, .mk bk bt bn bl], h' =>
   simp at h'; obtain ⟨⟨h0, rfl⟩, ⟨h1, h2⟩, rfl, h3, rfl, rfl⟩ := h'; exact .func t p ty bl h0 h1 h2 h3
  | [], h => simp at h
  | [_], h => simp at h
  | [_, _], h => simp at h
  | _ :: _ :: _ :: _ :: _, h => simp at h
 split at h
 ·rename_i hk
  match l, h with
  | [x], h' =>
   simp at h'; obtain ⟨⟨rfl, rfl⟩, h1⟩ := h'
   rcases hk with rfl | rfl
   ·exact .expr x h1
   ·exact .throws x h1
  | [], h => simp at h
  | _ :: _ :: _, h => simp at h
 split at h
 ·rename_i hk; subst hk
  match l, h with
  | [x, .mk bk bt bn bl, .mk ck ct cn cl], h' =>
   simp only [Bool.and_eq_true, Bool.or_eq_true] at h'
   obtain ⟨⟨h0, h0'⟩, ⟨h1, h2⟩, h3⟩ := h'
   simp at h0 h0' h2
   obtain ⟨rfl, h2, rfl, rfl⟩ := h2
   subst h0 h0'
   rcases h3 with h3 | h3
   ·have := none_eq h3; cases this; exact .ifs x bl h1 h2
   ·simp at h3; obtain ⟨rfl, h3, rfl, rfl⟩ := h3; exact .ifElse x bl cl h1 h2 h3
  | [], h => simp at h
  | [_], h => simp at h
  | [_, _], h => simp at h
  | _ :: _ :: _ :: _ :: _, h => simp at h
 split at h
 ·rename_i hk; subst hk
  match l, h with
  | [x, .mk bk bt bn bl], h' => simp at h'; obtain ⟨⟨rfl, rfl⟩, h1, rfl, h2, rfl, rfl⟩ := h'; exact .whiles x bl h1 h2
  | [], h => simp at h
  | [_], h => simp at h
  | _ :: _ :: _ :: _, h => simp at h
 split at h
 ·rename_i hk; subst hk
  match l, h with
  | [x], h' =>
   simp only [Bool.and_eq_true, Bool.or_eq_true] at h'
   obtain ⟨⟨h0, h0'⟩, h1⟩ := h'
   simp at h0 h0'
   subst h0 h0'
   rcases h1 with h1 | h1
   ·rw [none_eq h1]; exact .ret
   ·exact .retE x h1
  | [], h => simp at h
  | _ :: _ :: _, h => simp at h
 split at h
 ·rename_i hk; subst hk; simp at h; obtain ⟨h0, rfl, rfl⟩ := h; exact .block l h0
 ·cases h

theorem allE_cons {x : Tr} {r : List Tr} (h : allE (x :: r) = true) : isE x = true ∧ allE r = true := by simpa [allE] using h
theorem allS_cons {x : Tr} {r : List Tr} (h : allS (x :: r) = true) : isS x = true ∧ allS r = true := by simpa [allS] using h
theorem propsE_cons {x : Tr} {r : List Tr} (h : propsE (x :: r) = true) : ∃ t y, x = .mk 10 t 0 [y] ∧ signs t = true ∧ isE y = true ∧ propsE r = true := by
 obtain ⟨k, t, n, l⟩ := x
 rw [propsE.eq_def] at h
 simp only at h
 match l, h with
 | [y], h' => simp at h'; obtain ⟨⟨⟨⟨rfl, rfl⟩, hs⟩, hy⟩, hr⟩ := h'; exact ⟨t, y, rfl, hs, hy, hr⟩
 | [], h => simp at h
 | _ :: _ :: _, h => simp at h

/-! ### the text of each -/

theorem outE_eq (d r : Nat) (x : Tr) : outE d r x = if rank x < r then [40] ++ outE d 0 x ++ [41] else outE d 0 x := by
 obtain ⟨k, t, n, l⟩ := x
 rw [outE.eq_def, outE.eq_def d 0]
 simp only [rank, Tr.k, Tr.t, Nat.not_lt_zero, if_false]

section
variable (d : Nat)
theorem out1 (n : Int) : outE d 0 (.mk 1 [] n []) = Lib.itoa n := by rw [outE.eq_def]; rfl
theorem out2 (t : Bs) : outE d 0 (.mk 2 t 0 []) = quote t := by rw [outE.eq_def]; rfl
theorem out3 (n : Int) : outE d 0 (.mk 3 [] n []) = if n = 1 then [116, 114, 117, 101] else [102, 97, 108, 115, 101] := by rw [outE.eq_def]; rfl
theorem out4 : outE d 0 (.mk 4 [] 0 []) = [110, 117, 108, 108] := by rw [outE.eq_def]; rfl
theorem out5 : outE d 0 (.mk 5 [] 0 []) = [117, 110, 100, 101, 102, 105, 110, 101, 100] := by rw [outE.eq_def]; rfl
theorem out7 : outE d 0 (.mk 7 [] 0 []) = [116, 104, 105, 115] := by rw [outE.eq_def]; rfl
theorem out6 (t : Bs) : outE d 0 (.mk 6 t 0 []) = t := by rw [outE.eq_def]; rfl
theorem out8 (l : List Tr) : outE d 0 (.mk 8 [] 0 l) = [91] ++ listE d true l ++ [93] := by rw [outE.eq_def]; rfl
theorem out9 (l : List Tr) : outE d 0 (.mk 9 [] 0 l) = if l.isEmpty then [123, 125] else [123, 32] ++ propsT d true l ++ [32, 125] := by rw [outE.eq_def]; rfl
theorem out11 (p ty : Tr) (bl : List Tr) : outE d 0 (.mk 11 [] 0 [p, ty, .mk 52 [] 0 bl]) = [102, 117, 110, 99, 116, 105, 111, 110, 32] ++ (pmsT p ++ tyOr ty ++ [32] ++ blk d bl) := by rw [outE.eq_def]; rfl
theorem out15 (t : Bs) (x : Tr) : outE d 0 (.mk 15 t 0 [x]) = t ++ (if t = [116, 121, 112, 101, 111, 102] then [32] else []) ++ outE d 9 x := by rw [outE.eq_def]; rfl
theorem out16 (t : Bs) (x y : Tr) : outE d 0 (.mk 16 t 0 [x, y]) = outE d (binRank t) x ++ ([32] ++ t ++ [32]) ++ outE d (binRank t + 1) y := by rw [outE.eq_def]; rfl
theorem out17 (x y z : Tr) : outE d 0 (.mk 17 [] 0 [x, y, z]) = outE d 3 x ++ [32, 63, 32] ++ outE d 1 y ++ [32, 58, 32] ++ outE d 1 z := by rw [outE.eq_def]; rfl
theorem out18 (x y : Tr) : outE d 0 (.mk 18 [] 0 [x, y]) = outE d 10 x ++ [32, 61, 32] ++ outE d 1 y := by rw [outE.eq_def]; rfl
theorem out19 (x : Tr) (r : List Tr) : outE d 0 (.mk 19 [] 0 (x :: r)) = outE d 10 x ++ [40] ++ listE d true r ++ [41] := by rw [outE.eq_def]; rfl
theorem out20 (t : Bs) (l : List Tr) : outE d 0 (.mk 20 t 0 l) = [110, 101, 119, 32] ++ t ++ [40] ++ listE d true l ++ [41] := by rw [outE.eq_def]; rfl
theorem out21 (t : Bs) (x : Tr) : outE d 0 (.mk 21 t 0 [x]) = outE d 10 x ++ [46] ++ t := by rw [outE.eq_def]; rfl
theorem out22 (x y : Tr) : outE d 0 (.mk 22 [] 0 [x, y]) = outE d 10 x ++ [91] ++ outE d 1 y ++ [93] := by rw [outE.eq_def]; rfl
end

/-! ### how an expression begins -/

/-- Words that begin something else than a name. -/
def kw : List Bs := [[108, 101, 116], [99, 111, 110, 115, 116], [99, 108, 97, 115, 115], [105, 102], [101, 108, 115, 101], [119, 104, 105, 108, 101], [114, 101, 116, 117, 114, 110], [116, 104, 114, 111, 119], [105, 109, 112, 111, 114, 116], [101, 120, 112, 111, 114, 116], [100, 101, 102, 97, 117, 108, 116], [102, 117, 110, 99, 116, 105, 111, 110], [110, 101, 119], [116, 121, 112, 101, 111, 102]]

/-- Behind a word stands no other. -/
def noWord (s : Bs) : Prop := ∀ c r, s = 32 :: c :: r → idB c = false

/-- 1: it begins with {; 2: with function. -/
def lead : Nat → Tr → Nat
 | r, .mk k t _ l =>
  if rankK k t < r then 0
  else if k = 9 then 1
  else if k = 11 then 2
  else if k = 16 then (match l with | x :: _ => lead (binRank t) x | [] => 0)
  else if k = 17 then (match l with | x :: _ => lead 3 x | [] => 0)
  else if k = 18 ∨ k = 19 ∨ k = 21 ∨ k = 22 then (match l with | x :: _ => lead 10 x | [] => 0)
  else 0

structure LeadOk (s : Bs) (b : Nat) : Prop where
 head : ∃ c r, s = c :: r ∧ c ≠ 41 ∧ c ≠ 93 ∧ c ≠ 59 ∧ c ≠ 32 ∧ c ≠ 10 ∧ c ≠ 125 ∧ (c = 123 ↔ b = 1)
 word : (s.takeWhile idB = [] ∧ b ≤ 1) ∨ (s.takeWhile idB = [102, 117, 110, 99, 116, 105, 111, 110] ∧ b = 2 ∧ startsB [102, 117, 110, 99, 116, 105, 111, 110, 32] s = true) ∨ ((s.takeWhile idB = [110, 101, 119] ∨ s.takeWhile idB = [116, 121, 112, 101, 111, 102]) ∧ b = 0) ∨
  (kw.contains (s.takeWhile idB) = false ∧ b = 0 ∧ noWord (s.dropWhile idB))

theorem lead_sym (c : UInt8) (s : Bs) (b : Nat) (h : idB c = false) (hc : c ≠ 41 ∧ c ≠ 93 ∧ c ≠ 59 ∧ c ≠ 32 ∧ c ≠ 10 ∧ c ≠ 125 ∧ (c = 123 ↔ b = 1)) (hb : b ≤ 1) : LeadOk (c :: s) b :=
 ⟨⟨c, s, rfl, hc⟩, .inl ⟨by rw [List.takeWhile_cons_of_neg (by simp [h])], hb⟩⟩

theorem lead_word {w rest : Bs} (h1 : ∀ c ∈ w, idB c = true) (hc : ∃ c r, w = c :: r) (hk : kw.contains w = false) (hr : nid rest = true) (hn : noWord rest) : LeadOk (w ++ rest) 0 := by
 have hs := span_id h1 hr
 refine ⟨?_, .inr (.inr (.inr ⟨by rw [hs.1]; exact hk, rfl, by rw [hs.2]; exact hn⟩))⟩
 obtain ⟨c, r, rfl⟩ := hc
 have hid := h1 c List.mem_cons_self
 have := id_ne hid
 refine ⟨c, r ++ rest, rfl, this.1, this.2.2.2.2.2.1, this.2.2.2.2.2.2.2.2.2.2.2.2.2.1, this.2.1, this.2.2.2.2.2.2.2.2.2.2.2.2.2.2, this.2.2.2.2.1, ?_⟩
 exact ⟨fun e => absurd e this.2.2.2.1, fun e => by cases e⟩

theorem words_kw {t : Bs} (h : words.contains t = false) : kw.contains t = false := by
 simp [words, kw] at h ⊢
 simp [h]

theorem noWord_of {c : UInt8} {s : Bs} (h : c ≠ 32) : noWord (c :: s) := fun x r e => by simp at e; exact absurd e.1 h
theorem noWord_sp {c : UInt8} {s : Bs} (h : idB c = false) : noWord (32 :: c :: s) := fun x r e => by simp at e; rw [← e.1]; exact h

theorem binOps_props {t : Bs} (h : binOps.contains t = true) : (∃ c r, t = c :: r ∧ idB c = false) ∧ (∀ c ∈ t, noSp c = true) ∧ t ≠ [63] ∧ t ≠ [61] ∧ 3 ≤ binRank t ∧ binRank t ≤ 8 := by
 simp [binOps] at h
 rcases h with rfl | rfl | rfl | rfl | rfl | rfl | rfl | rfl | rfl | rfl | rfl | rfl | rfl <;> exact ⟨⟨_, _, rfl, by decide⟩, by decide, by decide, by decide, by decide, by decide⟩

theorem lead_all : ∀ (n : Nat) (x : Tr), sz x < n → isE x = true → ∀ (d r : Nat) (rest : Bs), nid rest = true → noWord rest → LeadOk (outE d r x ++ rest) (lead r x) := by
 intro n
 induction n with
 | zero => intro x hx; omega
 | succ n ih =>
  intro x hx h d r rest hr hn
  have brk : rank x < r → LeadOk (outE d r x ++ rest) (lead r x) := fun hlt => by
   have e : lead r x = 0 := by obtain ⟨k, t, m, l⟩ := x; rw [lead.eq_def]; exact if_pos hlt
   rw [outE_eq, if_pos hlt, e]
   exact lead_sym 40 _ 0 (by decide) ⟨by decide, by decide, by decide, by decide, by decide, by decide, by decide⟩ (by decide)
  by_cases hlt : rank x < r
  ·exact brk hlt
  rw [outE_eq, if_neg hlt]
  have hnl : ∀ k t m l, x = .mk k t m l → ¬ rankK k t < r := fun k t m l e => by subst e; exact hlt
  cases isE_inv h with
  | num n h0 =>
   have e : lead r (.mk 1 [] n []) = 0 := by rw [lead.eq_def]; exact (if_neg (hnl _ _ _ _ rfl)).trans rfl
   rw [out1, e]
   obtain ⟨_, hd, c, q, hq⟩ := itoa_props h0
   refine lead_word (fun c hc => digB_idB (hd c hc)) ⟨c, q, hq⟩ ?_ hr hn
   have hdc := hd c (by rw [hq]; exact List.mem_cons_self)
   rw [hq]
   unfold digB at hdc
   simp at hdc
   have : ∀ a : UInt8, 97 ≤ a.toNat → ¬ c = a := fun a ha e => by subst e; omega
   simp [kw]
   refine ⟨?_, ?_, ?_, ?_, ?_, ?_, ?_, ?_, ?_, ?_, ?_, ?_, ?_, ?_⟩ <;> (intro e; exact absurd e (this _ (by decide)))
  | text t _ =>
   have e : lead r (.mk 2 t 0 []) = 0 := by rw [lead.eq_def]; exact (if_neg (hnl _ _ _ _ rfl)).trans rfl
   rw [out2, e]
   exact lead_sym 34 _ 0 (by decide) ⟨by decide, by decide, by decide, by decide, by decide, by decide, by decide⟩ (by decide)
  | bool n h0 =>
   have e : lead r (.mk 3 [] n []) = 0 := by rw [lead.eq_def]; exact (if_neg (hnl _ _ _ _ rfl)).trans rfl
   rw [out3, e]
   split <;> exact lead_word (by decide) ⟨_, _, rfl⟩ (by decide) hr hn
  | word k hk =>
   rcases hk with rfl | rfl | rfl
   ·have e : lead r (.mk 4 [] 0 []) = 0 := by rw [lead.eq_def]; exact (if_neg (hnl _ _ _ _ rfl)).trans rfl
    rw [out4, e]; exact lead_word (by decide) ⟨_, _, rfl⟩ (by decide) hr hn
   ·have e : lead r (.mk 5 [] 0 []) = 0 := by rw [lead.eq_def]; exact (if_neg (hnl _ _ _ _ rfl)).trans rfl
    rw [out5, e]; exact lead_word (by decide) ⟨_, _, rfl⟩ (by decide) hr hn
   ·have e : lead r (.mk 7 [] 0 []) = 0 := by rw [lead.eq_def]; exact (if_neg (hnl _ _ _ _ rfl)).trans rfl
    rw [out7, e]; exact lead_word (by decide) ⟨_, _, rfl⟩ (by decide) hr hn
  | name t ht =>
   have e : lead r (.mk 6 t 0 []) = 0 := by rw [lead.eq_def]; exact (if_neg (hnl _ _ _ _ rfl)).trans rfl
   rw [out6, e]
   obtain ⟨hs, hw⟩ := isId_signs ht
   obtain ⟨h1, c, q, hq, _⟩ := signs_idB hs
   exact lead_word h1 ⟨c, q, hq⟩ (words_kw hw) hr hn
  | array l _ =>
   have e : lead r (.mk 8 [] 0 l) = 0 := by rw [lead.eq_def]; exact (if_neg (hnl _ _ _ _ rfl)).trans rfl
   rw [out8, e]
   exact lead_sym 91 _ 0 (by decide) ⟨by decide, by decide, by decide, by decide, by decide, by decide, by decide⟩ (by decide)
  | object l _ =>
   have e : lead r (.mk 9 [] 0 l) = 1 := by rw [lead.eq_def]; exact (if_neg (hnl _ _ _ _ rfl)).trans rfl
   rw [out9, e]
   split <;> exact lead_sym 123 _ 1 (by decide) ⟨by decide, by decide, by decide, by decide, by decide, by decide, by decide⟩ (by decide)
  | func p ty bl _ _ _ =>
   have e : lead r (.mk 11 [] 0 [p, ty, .mk 52 [] 0 bl]) = 2 := by rw [lead.eq_def]; exact (if_neg (hnl _ _ _ _ rfl)).trans rfl
   rw [out11, e]
   refine ⟨⟨102, _, rfl, by decide, by decide, by decide, by decide, by decide, by decide, by decide⟩, .inr (.inl ⟨?_, rfl, rfl⟩)⟩
   have := (span_id (t := [102, 117, 110, 99, 116, 105, 111, 110]) (rest := 32 :: ((pmsT p ++ tyOr ty ++ [32] ++ blk d bl) ++ rest)) (by decide) rfl).1
   simpa using this
  | unary t y h1 _ =>
   have e : lead r (.mk 15 t 0 [y]) = 0 := by rw [lead.eq_def]; exact (if_neg (hnl _ _ _ _ rfl)).trans rfl
   rw [out15, e]
   simp [unOps] at h1
   rcases h1 with rfl | rfl | rfl
   ·exact lead_sym 45 _ 0 (by decide) ⟨by decide, by decide, by decide, by decide, by decide, by decide, by decide⟩ (by decide)
   ·exact lead_sym 33 _ 0 (by decide) ⟨by decide, by decide, by decide, by decide, by decide, by decide, by decide⟩ (by decide)
   ·refine ⟨⟨116, _, rfl, by decide, by decide, by decide, by decide, by decide, by decide, by decide⟩, .inr (.inr (.inl ⟨.inr ?_, rfl⟩))⟩
    have := (span_id (t := [116, 121, 112, 101, 111, 102]) (rest := 32 :: (outE d 9 y ++ rest)) (by decide) rfl).1
    simpa using this
  | binary t y z h1 h2 h3 =>
   have e : lead r (.mk 16 t 0 [y, z]) = lead (binRank t) y := by rw [lead.eq_def]; exact (if_neg (hnl _ _ _ _ rfl)).trans rfl
   simp only [sz, szs] at hx
   obtain ⟨⟨c, q, rfl, hc⟩, _⟩ := binOps_props h1
   rw [out16, e, List.append_assoc, List.append_assoc]
   exact ih y (by omega) h2 d _ _ rfl (noWord_sp hc)
  | cond y z u h1 h2 h3 =>
   have e : lead r (.mk 17 [] 0 [y, z, u]) = lead 3 y := by rw [lead.eq_def]; exact (if_neg (hnl _ _ _ _ rfl)).trans rfl
   simp only [sz, szs] at hx
   rw [out17, e, List.append_assoc, List.append_assoc, List.append_assoc, List.append_assoc]
   exact ih y (by omega) h1 d _ _ rfl (noWord_sp (by decide))
  | assign y z h1 h2 =>
   have e : lead r (.mk 18 [] 0 [y, z]) = lead 10 y := by rw [lead.eq_def]; exact (if_neg (hnl _ _ _ _ rfl)).trans rfl
   simp only [sz, szs] at hx
   rw [out18, e, List.append_assoc, List.append_assoc]
   exact ih y (by omega) h1 d _ _ rfl (noWord_sp (by decide))
  | call y l h1 h2 =>
   have e : lead r (.mk 19 [] 0 (y :: l)) = lead 10 y := by rw [lead.eq_def]; exact (if_neg (hnl _ _ _ _ rfl)).trans rfl
   simp only [sz, szs] at hx
   rw [out19, e, List.append_assoc, List.append_assoc, List.append_assoc]
   exact ih y (by omega) h1 d _ _ rfl (noWord_of (by decide))
  | new t l h1 h2 =>
   have e : lead r (.mk 20 t 0 l) = 0 := by rw [lead.eq_def]; exact (if_neg (hnl _ _ _ _ rfl)).trans rfl
   rw [out20, e]
   refine ⟨⟨110, _, rfl, by decide, by decide, by decide, by decide, by decide, by decide, by decide⟩, .inr (.inr (.inl ⟨.inl ?_, rfl⟩))⟩
   have := (span_id (t := [110, 101, 119]) (rest := 32 :: (t ++ [40] ++ listE d true l ++ [41] ++ rest)) (by decide) rfl).1
   simpa using this
  | member t y h1 h2 =>
   have e : lead r (.mk 21 t 0 [y]) = lead 10 y := by rw [lead.eq_def]; exact (if_neg (hnl _ _ _ _ rfl)).trans rfl
   simp only [sz, szs] at hx
   rw [out21, e, List.append_assoc, List.append_assoc]
   exact ih y (by omega) h2 d _ _ rfl (noWord_of (by decide))
  | index y z h1 h2 =>
   have e : lead r (.mk 22 [] 0 [y, z]) = lead 10 y := by rw [lead.eq_def]; exact (if_neg (hnl _ _ _ _ rfl)).trans rfl
   simp only [sz, szs] at hx
   rw [out22, e, List.append_assoc, List.append_assoc, List.append_assoc]
   exact ih y (by omega) h1 d _ _ rfl (noWord_of (by decide))

theorem lead_ok {x : Tr} (h : isE x = true) (d r : Nat) {rest : Bs} (hr : nid rest = true) (hn : noWord rest) : LeadOk (outE d r x ++ rest) (lead r x) := lead_all (sz x + 1) x (by omega) h d r rest hr hn

/-- Whether brackets are wanted around an expression that stands alone does not hang on the depth. -/
theorem firstB_lead {x : Tr} (h : isE x = true) : firstB (outE 0 1 x) = decide (lead 1 x ≠ 0) := by
 have hl := lead_ok h 0 1 (rest := []) rfl (fun c r e => by cases e)
 rw [List.append_nil] at hl
 unfold firstB
 obtain ⟨c, q, hs, _, _, _, _, _, _, hb⟩ := hl.head
 have hword := hl.word
 rw [hs] at hword ⊢
 have h1 : startsB [123] (c :: q) = decide (c = 123) := by
  unfold startsB
  by_cases e : c = 123
  ·subst e; simp
  ·simp [List.isPrefixOf, e]; exact fun e' => e e'.symm
 have h2 : startsB [102, 117, 110, 99, 116, 105, 111, 110, 32] (c :: q) = true → (c :: q).takeWhile idB = [102, 117, 110, 99, 116, 105, 111, 110] := fun e => by
  unfold startsB at e
  obtain ⟨s, hs⟩ := List.isPrefixOf_iff_prefix.1 e
  have := (span_id (t := [102, 117, 110, 99, 116, 105, 111, 110]) (rest := 32 :: s) (by decide) rfl).1
  rw [← hs]; simpa using this
 rw [h1]
 rcases hword with ⟨e, hb1⟩ | ⟨e, hb2, hst⟩ | ⟨e, hb0⟩ | ⟨e, hb0, _⟩
 ·have : startsB [102, 117, 110, 99, 116, 105, 111, 110, 32] (c :: q) = false := by
   cases hh : startsB [102, 117, 110, 99, 116, 105, 111, 110, 32] (c :: q) with
   | false => rfl
   | true => rw [h2 hh] at e; cases e
  rw [this, Bool.or_false]
  by_cases e1 : c = 123
  ·have := hb.1 e1; simp [e1, this]
  ·have : lead 1 x ≠ 1 := fun h => e1 (hb.2 h)
   have : lead 1 x = 0 := by omega
   simp [e1, this]
 ·rw [hst, hb2]; simp
 ·have : startsB [102, 117, 110, 99, 116, 105, 111, 110, 32] (c :: q) = false := by
   cases hh : startsB [102, 117, 110, 99, 116, 105, 111, 110, 32] (c :: q) with
   | false => rfl
   | true => rw [h2 hh] at e; rcases e with e | e <;> cases e
  have e1 : c ≠ 123 := fun h => by have := hb.1 h; omega
  simp [this, e1, hb0]
 ·have : startsB [102, 117, 110, 99, 116, 105, 111, 110, 32] (c :: q) = false := by
   cases hh : startsB [102, 117, 110, 99, 116, 105, 111, 110, 32] (c :: q) with
   | false => rfl
   | true => rw [h2 hh] at e; revert e; decide
  have e1 : c ≠ 123 := fun h => by have := hb.1 h; omega
  simp [this, e1, hb0]

/-- How strongly what follows would go on an expression. -/
def crank : Bs → Nat
 | [] => 0
 | c :: s =>
  if c = 40 ∨ c = 91 ∨ c = 46 then 10
  else if c = 32 then
   (if s.takeWhile noSp = [63] then 2 else if s.takeWhile noSp = [61] then 1 else if binOps.contains (s.takeWhile noSp) = true then binRank (s.takeWhile noSp) else 0)
  else 0
/-- What may follow an expression without brackets. -/
def ub (x : Tr) : Nat := if rank x ≤ 2 then 0 else if rank x ≤ 8 then rank x else if rank x = 9 then 8 else 10

theorem binRank_ge (t : Bs) : 3 ≤ binRank t ∧ binRank t ≤ 8 := by
 unfold binRank
 repeat' split
 all_goals decide

theorem rank_ge (x : Tr) : 1 ≤ rank x := by
 unfold rank rankK
 have := (binRank_ge x.t).1
 repeat' split
 all_goals omega

theorem pL_stop {d q : Nat} {a : Tr} {rest : Bs} (hq : q ≤ 10) (h : crank rest < q) : Ev fun f => pL f d q a rest = some (a, rest) := Ev.of1 fun f => by
 cases rest with
 | nil => rw [pL.eq_def]
 | cons c s =>
  rw [pL.eq_def]
  simp only [crank] at h ⊢
  by_cases h1 : c = 40 ∨ c = 91 ∨ c = 46
  ·rw [if_pos h1] at h; omega
  rw [if_neg h1] at h
  have h40 : c ≠ 40 := fun e => h1 (.inl e)
  have h91 : c ≠ 91 := fun e => h1 (.inr (.inl e))
  have h46 : c ≠ 46 := fun e => h1 (.inr (.inr e))
  simp only [h40, h91, h46, if_false]
  by_cases h2 : c = 32
  ·simp only [h2, if_true] at h ⊢
   by_cases h3 : s.takeWhile noSp = [63]
   ·simp only [h3, if_true] at h ⊢
    rw [if_neg (by omega)]
   simp only [h3, if_false] at h ⊢
   by_cases h4 : s.takeWhile noSp = [61]
   ·simp only [h4, if_true] at h ⊢
    rw [if_neg (by omega)]
   simp only [h4, if_false] at h ⊢
   by_cases h5 : binOps.contains (s.takeWhile noSp) = true
   ·simp only [h5, if_true] at h ⊢
    rw [if_neg (by omega)]
   ·simp only [h5]; rfl
  ·simp only [h2, if_false]

structure EOk (x : Tr) : Prop where
 go : ∀ d q rest X, q ≤ rank x → nid rest = true → crank rest ≤ ub x → (Ev fun f => pL f d q x rest = X) → Ev fun f => pE f d q (outE d 0 x ++ rest) = X

theorem pE_of_pP {d q : Nat} {x : Tr} {s rest : Bs} {X : Option (Tr × Bs)} (h : Ev fun f => pP f d s = some (x, rest)) (hX : Ev fun f => pL f d q x rest = X) : Ev fun f => pE f d q s = X :=
 (h.and hX).step fun f ⟨e1, e2⟩ => by rw [pE.eq_def]; simp [e1, e2]

/-- In brackets. -/
theorem EOk.br {x : Tr} (h : EOk x) {d q : Nat} {rest : Bs} {X : Option (Tr × Bs)} (hX : Ev fun f => pL f d q x rest = X) : Ev fun f => pE f d q ([40] ++ outE d 0 x ++ [41] ++ rest) = X := by
 have e : [40] ++ outE d 0 x ++ [41] ++ rest = 40 :: (outE d 0 x ++ 41 :: rest) := by simp
 rw [e]
 refine pE_of_pP ?_ hX
 have h1 := h.go d 1 (41 :: rest) _ (rank_ge x) rfl (Nat.zero_le _) (pL_stop (by decide) (show 0 < 1 by decide))
 refine h1.step fun f e1 => ?_
 rw [pP.eq_def]
 simp [e1, strip]

theorem EOk.at {x : Tr} (h : EOk x) {d q r : Nat} {rest : Bs} {X : Option (Tr × Bs)} (hq : q ≤ r) (hr : nid rest = true) (hc : r ≤ rank x → crank rest ≤ ub x) (hX : Ev fun f => pL f d q x rest = X) :
  Ev fun f => pE f d q (outE d r x ++ rest) = X := by
 rw [outE_eq]
 split
 ·exact h.br hX
 ·exact h.go d q rest X (by omega) hr (hc (by omega)) hX

/-- At a place behind which nothing goes on. -/
theorem EOk.stop {x : Tr} (h : EOk x) {d r : Nat} {rest : Bs} (h1 : 1 ≤ r) (h10 : r ≤ 10) (hr : nid rest = true) (hc : crank rest = 0) : Ev fun f => pE f d r (outE d r x ++ rest) = some (x, rest) :=
 h.at (Nat.le_refl _) hr (fun _ => by omega) (pL_stop h10 (by omega))

def EAll (n : Nat) : Prop := ∀ x, sz x < n → isE x = true → EOk x
def SAll (n : Nat) : Prop := ∀ x, sz x < n → isS x = true → ∀ d rest, strip [32, 101, 108, 115, 101, 32] rest = none → Ev fun f => pS f d (outS d x ++ rest) = some (x, rest)

theorem crank_br (rest : Bs) : crank (41 :: rest) = 0 := rfl
theorem crank_comma (rest : Bs) : crank (44 :: rest) = 0 := rfl

theorem crank_brace (rest : Bs) : crank (32 :: 125 :: rest) = 0 := by
 have e : (125 :: rest).takeWhile noSp = 125 :: rest.takeWhile noSp := List.takeWhile_cons_of_pos (by decide)
 unfold crank
 simp only [e]
 simp [binOps]

theorem pLm_read {n : Nat} (ih : EAll n) (d : Nat) (q : UInt8) (hq : q = 41 ∨ q = 93) : ∀ (l : List Tr), szs l < n → allE l = true → ∀ rest, Ev fun f => pLm f d q (listE d false l ++ q :: rest) = some (l, rest) := by
 intro l
 induction l with
 | nil => intro _ _ rest; exact Ev.of1 fun f => by rw [pLm.eq_def]; simp [listE]
 | cons x r ihl =>
  intro hs h rest
  obtain ⟨hx, hr⟩ := allE_cons h
  simp only [szs] at hs
  have tl : nid (listE d false r ++ q :: rest) = true ∧ crank (listE d false r ++ q :: rest) = 0 := by
   cases r with
   | nil => rcases hq with rfl | rfl <;> exact ⟨rfl, rfl⟩
   | cons z r => simp only [listE]; exact ⟨rfl, rfl⟩
  refine (((ih x (by omega) hx).stop (d := d) (r := 1) (by decide) (by decide) tl.1 tl.2).and (ihl (by omega) hr rest)).step fun f ⟨e1, e2⟩ => ?_
  have e : listE d false (x :: r) ++ q :: rest = 44 :: 32 :: (outE d 1 x ++ (listE d false r ++ q :: rest)) := by simp [listE]
  rw [e, pLm.eq_def]
  have hne : (44 : UInt8) ≠ q := by rcases hq with rfl | rfl <;> decide
  simp [hne, strip, e1, e2]

theorem pLs_read {n : Nat} (ih : EAll n) (d : Nat) (q : UInt8) (hq : q = 41 ∨ q = 93) (l : List Tr) (hs : szs l < n) (h : allE l = true) (rest : Bs) : Ev fun f => pLs f d q (listE d true l ++ q :: rest) = some (l, rest) := by
 cases l with
 | nil => exact Ev.of1 fun f => by simp only [listE, List.nil_append]; rw [pLs.eq_def]; simp
 | cons x r =>
  obtain ⟨hx, hr⟩ := allE_cons h
  simp only [szs] at hs
  have tl : nid (listE d false r ++ q :: rest) = true ∧ crank (listE d false r ++ q :: rest) = 0 ∧ noWord (listE d false r ++ q :: rest) := by
   cases r with
   | nil => rcases hq with rfl | rfl <;> exact ⟨rfl, rfl, noWord_of (by decide)⟩
   | cons z r => simp only [listE]; exact ⟨rfl, rfl, noWord_of (by decide)⟩
  obtain ⟨c, s, hc, h41, h93, _⟩ := (lead_ok hx d 1 tl.1 tl.2.2).head
  refine (((ih x (by omega) hx).stop (d := d) (r := 1) (by decide) (by decide) tl.1 tl.2.1).and (pLm_read ih d q hq r (by omega) hr rest)).step fun f ⟨e1, e2⟩ => ?_
  have e : listE d true (x :: r) ++ q :: rest = outE d 1 x ++ (listE d false r ++ q :: rest) := by simp [listE]
  rw [e]
  rw [hc] at e1 ⊢
  rw [pLs.eq_def]
  have hne : c ≠ q := by rcases hq with rfl | rfl <;> assumption
  simp [hne, e1, e2]

theorem pPs_read {n : Nat} (ih : EAll n) (d : Nat) : ∀ (l : List Tr), l ≠ [] → szs l < n → propsE l = true → ∀ rest, Ev fun f => pPs f d (propsT d true l ++ 32 :: 125 :: rest) = some (l, rest) := by
 intro l
 induction l with
 | nil => intro h; exact absurd rfl h
 | cons x r ihl =>
  intro _ hs h rest
  obtain ⟨t, y, rfl, ht, hy, hr⟩ := propsE_cons h
  simp only [szs, sz] at hs
  obtain ⟨h1, c, q, rfl, hc⟩ := signs_idB ht
  have tail : ∃ tl, propsT d false r ++ 32 :: 125 :: rest = tl ∧ (nid tl = true ∧ crank tl = 0) ∧
    ((strip [32, 125] tl = some rest ∧ r = []) ∨ (strip [32, 125] tl = none ∧ ∃ s2, strip [44, 32] tl = some s2 ∧ Ev fun f => pPs f d s2 = some (r, rest))) := by
   cases r with
   | nil => exact ⟨_, rfl, ⟨rfl, crank_brace _⟩, .inl ⟨rfl, rfl⟩⟩
   | cons z r =>
    have e : propsT d false (z :: r) = 44 :: 32 :: propsT d true (z :: r) := by
     obtain ⟨zk, zt, zn, zl⟩ := z
     rw [propsT.eq_def, propsT.eq_def]; simp
    rw [e]
    exact ⟨_, rfl, ⟨rfl, rfl⟩, .inr ⟨rfl, _, rfl, ihl (by simp) (by omega) hr rest⟩⟩
  obtain ⟨tl, htl, ⟨hn, hcr⟩, htail⟩ := tail
  have e : propsT d true (.mk 10 (c :: q) 0 [y] :: r) ++ 32 :: 125 :: rest = (c :: q) ++ 58 :: 32 :: (outE d 1 y ++ tl) := by
   rw [propsT.eq_def]; simp [← htl]
  rw [e]
  have hy' := (ih y (by omega) hy).stop (d := d) (r := 1) (by decide) (by decide) hn hcr
  have hsp := span_id (rest := 58 :: 32 :: (outE d 1 y ++ tl)) h1 rfl
  have hs2 : strip [58, 32] (58 :: 32 :: (outE d 1 y ++ tl)) = some (outE d 1 y ++ tl) := rfl
  rcases htail with ⟨g1, rfl⟩ | ⟨g1, s2, g2, g3⟩
  ·refine hy'.step fun f e2 => ?_
   rw [pPs.eq_def]
   simp only [hsp]
   simp [hs2, e2, g1]
  ·refine (hy'.and g3).step fun f ⟨e2, g3⟩ => ?_
   rw [pPs.eq_def]
   simp only [hsp]
   simp [hs2, e2, g1, g2, g3]

theorem ind_succ (d : Nat) : ind (d + 1) = ind d ++ [32, 32] := by
 unfold ind
 rw [show 2 * (d + 1) = 2 * d + 2 by omega, ← List.replicate_append_replicate]
 rfl

theorem strip_pre (p a b : Bs) : strip (p ++ a) (p ++ b) = strip a b := by
 induction p with
 | nil => rfl
 | cons c p ih => simp [strip, ih]

theorem pSs_read {n : Nat} (ih : SAll n) (d : Nat) : ∀ (l : List Tr), szs l < n → allS l = true → ∀ rest, Ev fun f => pSs f d (linesS (d + 1) l ++ 10 :: (ind d ++ 125 :: rest)) = some (l, rest) := by
 intro l
 induction l with
 | nil =>
  intro _ _ rest
  exact Ev.of1 fun f => by
   rw [pSs.eq_def]
   have : strip (10 :: (ind d ++ [125])) (10 :: (ind d ++ 125 :: rest)) = some rest := by
    have := strip_app (10 :: (ind d ++ [125])) rest
    simpa using this
   simp [linesS, this]
 | cons x r ihl =>
  intro hs h rest
  obtain ⟨hx, hr⟩ := allS_cons h
  simp only [szs] at hs
  have e : linesS (d + 1) (x :: r) ++ 10 :: (ind d ++ 125 :: rest) = 10 :: (ind (d + 1) ++ (outS (d + 1) x ++ (linesS (d + 1) r ++ 10 :: (ind d ++ 125 :: rest)))) := by simp [linesS]
  have htl : strip [32, 101, 108, 115, 101, 32] (linesS (d + 1) r ++ 10 :: (ind d ++ 125 :: rest)) = none := by
   cases r with
   | nil => rfl
   | cons z r => simp only [linesS]; rfl
  rw [e]
  refine ((ih x (by omega) hx (d + 1) _ htl).and (ihl (by omega) hr rest)).step fun f ⟨e1, e2⟩ => ?_
  rw [pSs.eq_def]
  have g1 : strip (10 :: (ind d ++ [125])) (10 :: (ind (d + 1) ++ (outS (d + 1) x ++ (linesS (d + 1) r ++ 10 :: (ind d ++ 125 :: rest))))) = none := by
   rw [ind_succ, List.append_assoc]
   simp only [strip, if_true]
   rw [strip_pre]
   rfl
  have g2 : strip (10 :: ind (d + 1)) (10 :: (ind (d + 1) ++ (outS (d + 1) x ++ (linesS (d + 1) r ++ 10 :: (ind d ++ 125 :: rest))))) = some (outS (d + 1) x ++ (linesS (d + 1) r ++ 10 :: (ind d ++ 125 :: rest))) :=
   strip_app (10 :: ind (d + 1)) _
  simp only [g1, g2]
  simp [e1, e2]

theorem pB_read {n : Nat} (ih : SAll n) (d : Nat) (l : List Tr) (hs : szs l < n) (h : allS l = true) (rest : Bs) : Ev fun f => pB f d (blk d l ++ rest) = some (l, rest) := by
 cases l with
 | nil => exact Ev.of1 fun f => by rw [pB.eq_def]; simp [blk, linesS, strip]
 | cons x r =>
  refine (pSs_read ih d (x :: r) hs h rest).step fun f e1 => ?_
  have e : blk d (x :: r) ++ rest = 123 :: (linesS (d + 1) (x :: r) ++ 10 :: (ind d ++ 125 :: rest)) := by simp [blk]
  have g : strip [125] (linesS (d + 1) (x :: r) ++ 10 :: (ind d ++ 125 :: rest)) = none := by simp only [linesS]; rfl
  rw [e, pB.eq_def]
  have g2 : strip [123] (123 :: (linesS (d + 1) (x :: r) ++ 10 :: (ind d ++ 125 :: rest))) = some (linesS (d + 1) (x :: r) ++ 10 :: (ind d ++ 125 :: rest)) := rfl
  simp [g2, g, e1]

theorem tstop_sp {c : UInt8} {s : Bs} (h : c ≠ 124) : TStop (32 :: c :: s) := by
 have h' : (124 : UInt8) ≠ c := fun e => h e.symm
 refine ⟨rfl, rfl, ?_⟩
 simp [strip, h']

theorem pBody_read {n : Nat} (ih : SAll n) (d : Nat) (p ty : Tr) (l : List Tr) (h1 : isPms false p = true) (h2 : isTyOr ty = true) (hs : szs l < n) (h : allS l = true) (rest : Bs) :
  Ev fun f => pBody f d (pmsT p ++ tyOr ty ++ [32] ++ blk d l ++ rest) = some ([p, ty, .mk 52 [] 0 l], rest) := by
 have e : pmsT p ++ tyOr ty ++ [32] ++ blk d l ++ rest = pmsT p ++ (tyOr ty ++ 32 :: (blk d l ++ rest)) := by simp
 have hb : ∃ s, blk d l ++ rest = 123 :: s := ⟨_, by unfold blk; rfl⟩
 obtain ⟨s, hs'⟩ := hb
 have hts : TStop (32 :: (blk d l ++ rest)) := by rw [hs']; exact tstop_sp (by decide)
 rw [e]
 refine (((pms_read h1 (tyOr ty ++ 32 :: (blk d l ++ rest))).and (tyOr_read h2 hts rfl)).and (pB_read ih d l hs h rest)).step fun f ⟨⟨e1, e2⟩, e3⟩ => ?_
 rw [pBody.eq_def]
 simp [e1, e2, strip, e3]

end Go.Proofs.YtpmlmpibpmoclaaGreatDoor
