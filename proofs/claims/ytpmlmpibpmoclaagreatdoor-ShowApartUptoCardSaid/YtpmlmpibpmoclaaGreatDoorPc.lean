/-
  What the printer gathers (pieces), and the text that they are laid out to: plain.
-/
import Derived.Test.YtpmlmpibpmoclaaGreatDoorTr
namespace Go.Proofs.YtpmlmpibpmoclaaGreatDoor
set_option linter.all false
/-- A piece: a word, or where a block begins, a line in it, where it ends. -/
inductive Pc where
 | word (s : Bs)
 | opn
 | line
 | shut

/-- The text of pieces; e: nothing stands yet in the block. -/
def lay : Nat → Bool → List Pc → Bs
 | _, _, [] => []
 | d, e, .word s :: r => s ++ lay d e r
 | d, _, .opn :: r => 123 :: lay (d + 1) true r
 | d, _, .line :: r => 10 :: (ind d ++ lay d false r)
 | d, e, .shut :: r => (if e then [] else 10 :: ind (d - 1)) ++ 125 :: lay (d - 1) false r

/-- Never more ends than beginnings. -/
def okd : Nat → List Pc → Prop
 | _, [] => True
 | d, .opn :: r => okd (d + 1) r
 | d, .shut :: r => 1 ≤ d ∧ okd (d - 1) r
 | d, .word _ :: r => okd d r
 | d, .line :: r => okd d r

/-- How many bytes the words have; how many other pieces there are. -/
def wm : List Pc → Nat
 | [] => 0
 | .word s :: r => s.length + wm r
 | _ :: r => wm r
def nm : List Pc → Nat
 | [] => 0
 | .word _ :: r => nm r
 | _ :: r => nm r + 1

theorem wm_append (a b : List Pc) : wm (a ++ b) = wm a + wm b := by
 induction a with
 | nil => simp [wm]
 | cons p r ih => cases p <;> simp [wm, ih] <;> omega
theorem nm_append (a b : List Pc) : nm (a ++ b) = nm a + nm b := by
 induction a with
 | nil => simp [nm]
 | cons p r ih => cases p <;> simp [nm, ih] <;> omega

theorem lay_le (L : List Pc) (d : Nat) (e : Bool) (K : Nat) (hK : 2 * (d + nm L) + 2 ≤ K) : (lay d e L).length ≤ wm L + nm L * K := by
 induction L generalizing d e with
 | nil => simp [lay]
 | cons p r ih =>
  cases p with
  | word s => have := ih d e (by simpa [nm] using hK); simp [lay, wm, nm]; omega
  | opn =>
   have := ih (d + 1) true (by simp [nm] at hK; omega)
   simp only [lay, wm, nm, lC, Nat.succ_mul]; simp [nm] at hK; omega
  | line =>
   have := ih d false (by simp [nm] at hK; omega)
   simp only [lay, wm, nm, lC, lA, Nat.succ_mul, ind, List.length_replicate]; simp [nm] at hK; omega
  | shut =>
   have := ih (d - 1) false (by simp [nm] at hK; omega)
   have h2 : ((if e then [] else 10 :: ind (d - 1)) : Bs).length ≤ 2 * d + 1 := by cases e <;> simp [ind]; omega
   simp only [lay, wm, nm, lC, lA, Nat.succ_mul]; simp [nm] at hK; omega

/-- The pieces P, standing anywhere but at a block's beginning, are laid out to f. -/
structure Lays (P : List Pc) (f : Nat → Bs) : Prop where
 lay : ∀ d R, lay d false (P ++ R) = f d ++ lay d false R
 okd : ∀ d R, okd d R → okd d (P ++ R)

theorem Lays.nil : Lays [] fun _ => [] := ⟨fun _ _ => rfl, fun _ _ h => h⟩
theorem Lays.word (s : Bs) : Lays [.word s] fun _ => s := ⟨fun _ _ => rfl, fun _ _ h => h⟩
theorem Lays.append {P Q : List Pc} {f g : Nat → Bs} (hp : Lays P f) (hq : Lays Q g) : Lays (P ++ Q) fun d => f d ++ g d :=
 ⟨fun d R => by rw [List.append_assoc, hp.lay, hq.lay, List.append_assoc], fun d R h => by rw [List.append_assoc]; exact hp.okd _ _ (hq.okd _ _ h)⟩
theorem Lays.of {P : List Pc} {f g : Nat → Bs} (h : Lays P f) (e : ∀ d, f d = g d) : Lays P g := ⟨fun d R => by rw [h.lay, e], h.okd⟩

/-- Lines of a block: each thing on a line of its own. -/
structure LaysL (P : List Pc) (some : Bool) (f : Nat → Bs) : Prop where
 lay : ∀ d e R, Go.Proofs.YtpmlmpibpmoclaaGreatDoor.lay d e (P ++ R) = f d ++ Go.Proofs.YtpmlmpibpmoclaaGreatDoor.lay d (e && !some) R
 okd : ∀ d R, Go.Proofs.YtpmlmpibpmoclaaGreatDoor.okd d R → Go.Proofs.YtpmlmpibpmoclaaGreatDoor.okd d (P ++ R)

theorem LaysL.nil : LaysL [] false fun _ => [] := ⟨fun _ e _ => by simp, fun _ _ h => h⟩
theorem LaysL.snoc {P Q : List Pc} {b : Bool} {f g : Nat → Bs} (hp : LaysL P b f) (hq : Lays Q g) : LaysL (P ++ (.line :: Q)) true fun d => f d ++ (10 :: (ind d ++ g d)) :=
 ⟨fun d e R => by rw [List.append_assoc, hp.lay, List.cons_append]; simp [Go.Proofs.YtpmlmpibpmoclaaGreatDoor.lay, hq.lay, List.append_assoc],
  fun d R h => by rw [List.append_assoc]; exact hp.okd _ _ (hq.okd _ _ h)⟩
theorem LaysL.block {P : List Pc} {b : Bool} {f : Nat → Bs} (hp : LaysL P b f) : Lays (.opn :: (P ++ [.shut])) fun d => 123 :: (f (d + 1) ++ (if b then 10 :: ind d else []) ++ [125]) :=
 ⟨fun d R => by
  rw [List.cons_append, List.append_assoc]
  cases b <;> simp [Go.Proofs.YtpmlmpibpmoclaaGreatDoor.lay, hp.lay, List.append_assoc],
  fun d R h => by
  rw [List.cons_append, List.append_assoc]
  exact hp.okd _ _ ⟨by omega, by simpa using h⟩⟩

theorem Lays.text {P : List Pc} {f : Nat → Bs} (h : Lays P f) : Go.Proofs.YtpmlmpibpmoclaaGreatDoor.lay 0 false P = f 0 := by
 have := h.lay 0 []
 simpa [Go.Proofs.YtpmlmpibpmoclaaGreatDoor.lay] using this
theorem Lays.ok {P : List Pc} {f : Nat → Bs} (h : Lays P f) : Go.Proofs.YtpmlmpibpmoclaaGreatDoor.okd 0 P := by
 have := h.okd 0 [] trivial
 simpa using this

mutual
/-- How much a tree is. -/
def wt : Tr → Nat
 | .mk _ t _ l => 1 + t.length + wts l
def wts : List Tr → Nat
 | [] => 0
 | x :: r => wt x + wts r
end
mutual
/-- How many trees. -/
def cnt : Tr → Nat
 | .mk _ _ _ l => 1 + cnts l
def cnts : List Tr → Nat
 | [] => 0
 | x :: r => cnt x + cnts r
end
theorem wt_pos (x : Tr) : 1 + x.t.length ≤ wt x := by obtain ⟨k, t, n, l⟩ := x; simp [wt, Tr.t]
theorem cnt_pos (x : Tr) : 1 ≤ cnt x := by obtain ⟨k, t, n, l⟩ := x; simp [cnt]
theorem wts_append (a b : List Tr) : wts (a ++ b) = wts a + wts b := by
 induction a with
 | nil => simp [wts]
 | cons p r ih => simp [wts, ih]; omega
theorem cnts_append (a b : List Tr) : cnts (a ++ b) = cnts a + cnts b := by
 induction a with
 | nil => simp [cnts]
 | cons p r ih => simp [cnts, ih]; omega
theorem cnt_mem {x : Tr} {l : List Tr} (h : x ∈ l) : cnt x ≤ cnts l := by
 induction l with
 | nil => cases h
 | cons p r ih =>
  rcases List.mem_cons.1 h with rfl | h
  ·simp [cnts]
  ·have := ih h; simp [cnts]; omega
theorem cnt_get {l : List Tr} {i : Nat} (h : i < l.length) : cnt l[i] ≤ cnts l := cnt_mem (List.getElem_mem h)
theorem cnt_kid (x : Tr) : cnt x = 1 + cnts x.l := by obtain ⟨k, t, n, l⟩ := x; simp [cnt, Tr.l]

end Go.Proofs.YtpmlmpibpmoclaaGreatDoor
