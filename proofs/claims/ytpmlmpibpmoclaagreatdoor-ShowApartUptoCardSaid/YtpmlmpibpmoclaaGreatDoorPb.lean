/-
  Bounds on what the printer gathers: plain.
-/
import Derived.Test.YtpmlmpibpmoclaaGreatDoorPp
import Derived.Lib.ItoaLen
namespace Go.Proofs.YtpmlmpibpmoclaaGreatDoor
set_option linter.all false
set_option maxHeartbeats 4000000

/-- How many pieces, and how many bytes in words. -/
def szP : List Pc → Nat
 | [] => 0
 | .word s :: r => 1 + s.length + szP r
 | .opn :: r => 1 + szP r
 | .line :: r => 1 + szP r
 | .shut :: r => 1 + szP r
theorem szP_append (a b : List Pc) : szP (a ++ b) = szP a + szP b := by
 induction a with
 | nil => simp [szP]
 | cons p r ih => cases p <;> simp [szP, ih] <;> omega
theorem szP_len (L : List Pc) : L.length + wm L = szP L := by
 induction L with
 | nil => rfl
 | cons p r ih => cases p <;> simp [szP, wm] <;> omega

theorem wt_mk (k n : Int) (t : Bs) (l : List Tr) : wt (.mk k t n l) = 1 + t.length + wts l := by simp [wt]
theorem cnt_mk (k n : Int) (t : Bs) (l : List Tr) : cnt (.mk k t n l) = 1 + cnts l := by simp [cnt]
theorem cnt_wt (N : Nat) : ∀ x : Tr, cnt x < N → cnt x ≤ wt x := by
 induction N with
 | zero => intro x h; omega
 | succ N ih =>
  rintro ⟨k, t, n, l⟩ h
  rw [cnt_mk] at h ⊢
  rw [wt_mk]
  have : ∀ l : List Tr, cnts l < N → cnts l ≤ wts l := by
   intro l
   induction l with
   | nil => intro _; simp [cnts]
   | cons x r ih2 => intro h; simp only [cnts] at h ⊢; simp only [wts]; have := ih x (by omega); have := ih2 (by omega); omega
  have := this l (by omega)
  omega

theorem szT_all (N : Nat) : ∀ x : Tr, cnt x < N → szP (qT x) + 8 ≤ 64 * wt x ∧ nm (qT x) = 0 := by
 induction N with
 | zero => intro x h; omega
 | succ N ih =>
  have hu : ∀ (l : List Tr) (b : Bool), cnts l < N → szP (unionP b l) ≤ 64 * wts l ∧ nm (unionP b l) = 0 := by
   intro l
   induction l with
   | nil => intro b _; simp [unionP, szP, nm, and_true]
   | cons x r ih2 =>
    intro b hl
    simp only [cnts] at hl
    have h1 := ih x (by omega)
    have h2 := ih2 false (by omega)
    simp only [unionP, wts]
    cases b <;> by_cases hk : x.k = 35 <;> simp only [hk, if_true, if_false, szP_append, nm_append, szP, nm, and_true, lC, lN, Bool.false_eq_true] <;> omega
  have hp : ∀ l : List Tr, cnts l < N → szP (tpropsP l) ≤ 64 * wts l ∧ nm (tpropsP l) = 0 := by
   intro l
   induction l with
   | nil => intro _; simp [tpropsP, szP, nm, and_true]
   | cons x r ih2 =>
    intro hl
    obtain ⟨k, t, n, m⟩ := x
    simp only [cnts, cnt_mk] at hl
    have h2 := ih2 (by omega)
    simp only [wts, wt_mk]
    rcases m with _ | ⟨y, _ | ⟨z, m⟩⟩
    ·simp only [tpropsP, szP_append, nm_append, szP, nm, and_true]; omega
    ·simp only [cnts] at hl
     have h1 := ih y (by omega)
     simp only [tpropsP, wts, szP_append, nm_append, szP, nm, and_true, lC, lN]; omega
    ·simp only [tpropsP, szP_append, nm_append, szP, nm, and_true]; omega
  have hm : ∀ (l : List Tr) (b : Bool), cnts l < N → szP (parsP b l) ≤ 64 * wts l ∧ nm (parsP b l) = 0 := by
   intro l
   induction l with
   | nil => intro b _; simp [parsP, szP, nm, and_true]
   | cons x r ih2 =>
    intro b hl
    obtain ⟨k, t, n, m⟩ := x
    simp only [cnts, cnt_mk] at hl
    have h2 := ih2 false (by omega)
    simp only [wts, wt_mk]
    rcases m with _ | ⟨y, _ | ⟨z, m⟩⟩
    ·simp only [parsP]; cases b <;> simp only [if_true, if_false, Bool.false_eq_true, szP_append, nm_append, szP, nm, and_true, lC, lN] <;> omega
    ·simp only [cnts] at hl
     have h1 := ih y (by omega)
     simp only [parsP, wts]
     cases b <;> by_cases hk : y.k = 14 <;> simp only [hk, if_true, if_false, szP_append, nm_append, szP, nm, and_true, lC, lN, Bool.false_eq_true] <;> omega
    ·simp only [parsP]; cases b <;> simp only [if_true, if_false, Bool.false_eq_true, szP_append, nm_append, szP, nm, and_true, lC, lN] <;> omega
  rintro ⟨k, t, n, l⟩ hx
  rw [cnt_mk] at hx
  rw [wt_mk]
  have hw0 : 1 ≤ 1 + t.length + wts l := by omega
  unfold qT
  by_cases h30 : k = 30
  ·simp only [h30, if_true, szP, nm, and_true]; omega
  by_cases h31 : k = 31
  ·simp only [h31, if_true, if_false, show ¬ (31 : Int) = 30 by decide]
   rcases l with _ | ⟨x, _ | ⟨y, m⟩⟩
   ·simp only [szP, nm, and_true]; omega
   ·simp only [cnts] at hx
    have h1 := ih x (by omega)
    simp only [wts]
    by_cases hk : x.k = 32 ∨ x.k = 35 <;> simp only [hk, if_true, if_false, szP_append, nm_append, szP, nm, and_true, lC, lN] <;> omega
   ·simp only [szP, nm, and_true]; omega
  by_cases h32 : k = 32
  ·have := hu l true (by omega)
   simp only [h32, if_true, if_false, show ¬ (32 : Int) = 30 by decide, show ¬ (32 : Int) = 31 by decide]; omega
  by_cases h33 : k = 33
  ·have := hp l (by omega)
   simp only [h33, if_true, if_false, show ¬ (33 : Int) = 30 by decide, show ¬ (33 : Int) = 31 by decide, show ¬ (33 : Int) = 32 by decide]
   cases l.isEmpty <;> simp only [if_true, if_false, szP_append, nm_append, szP, nm, and_true, lC, lN, Bool.false_eq_true] <;> omega
  by_cases h35 : k = 35
  ·simp only [h35, if_true, if_false, show ¬ (35 : Int) = 30 by decide, show ¬ (35 : Int) = 31 by decide, show ¬ (35 : Int) = 32 by decide, show ¬ (35 : Int) = 33 by decide]
   rcases l with _ | ⟨⟨pk, pt, pn, pl⟩, _ | ⟨y, _ | ⟨z, m⟩⟩⟩
   ·simp only [szP, nm, and_true]; omega
   ·simp only [szP, nm, and_true]; omega
   ·simp only [cnts, cnt_mk] at hx
    have h1 := ih y (by omega)
    have h2 := hm pl true (by omega)
    simp only [wts, wt_mk, szP_append, nm_append, szP, nm, and_true, lC, lN]; omega
   ·simp only [szP, nm, and_true]; omega
  ·simp only [h30, h31, h32, h33, h35, if_false, szP, nm, and_true]; omega
theorem szPT (x : Tr) : szP (qT x) + 8 ≤ 64 * wt x ∧ nm (qT x) = 0 := szT_all _ x (Nat.lt_succ_self _)
theorem szPars (l : List Tr) (b : Bool) : szP (parsP b l) ≤ 64 * wts l ∧ nm (parsP b l) = 0 := by
 induction l generalizing b with
 | nil => simp [parsP, szP, nm, and_true]
 | cons x r ih2 =>
  obtain ⟨k, t, n, m⟩ := x
  have h2 := ih2 false
  simp only [wts, wt_mk]
  rcases m with _ | ⟨y, _ | ⟨z, m⟩⟩
  ·simp only [parsP]; cases b <;> simp only [if_true, if_false, Bool.false_eq_true, szP_append, nm_append, szP, nm, and_true, lC, lN] <;> omega
  ·have h1 := szPT y
   simp only [parsP, wts]
   cases b <;> by_cases hk : y.k = 14 <;> simp only [hk, if_true, if_false, szP_append, nm_append, szP, nm, and_true, lC, lN, Bool.false_eq_true] <;> omega
  ·simp only [parsP]; cases b <;> simp only [if_true, if_false, Bool.false_eq_true, szP_append, nm_append, szP, nm, and_true, lC, lN] <;> omega
theorem szTyOr (x : Tr) : szP (tyOrP x) ≤ 64 * wt x ∧ nm (tyOrP x) = 0 := by
 have h1 := szPT x
 unfold tyOrP
 by_cases hk : x.k = 14 <;> simp only [hk, if_true, if_false, szP_append, nm_append, szP, nm, and_true, lC, lN] <;> omega
theorem szPms (x : Tr) : szP (pmsP x) + 56 ≤ 64 * wt x ∧ nm (pmsP x) = 0 := by
 obtain ⟨k, t, n, l⟩ := x
 have h1 := szPars l true
 rw [wt_mk]
 simp only [pmsP, Tr.l, szP_append, nm_append, szP, nm, and_true, lC, lN]; omega

theorem hex_le (n : Nat) : (hex n).length ≤ 2 := by unfold hex; split <;> simp
theorem escB_le (c : UInt8) : (escB c).length ≤ 6 := by
 have := hex_le c.toNat
 unfold escB
 repeat' split
 all_goals simp
 all_goals omega
theorem quote_le (t : Bs) : (quote t).length ≤ 6 * t.length + 2 := by
 have h : (t.flatMap escB).length ≤ 6 * t.length := by
  induction t with
  | nil => simp
  | cons c r ih => have := escB_le c; simp only [List.flatMap_cons, lA, lC]; omega
 unfold quote
 simp only [lC, lA, lN]
 omega

/-- What is asked of an expression's pieces, c in hand. -/
def Bd (P : List Pc) (c : Nat) (x : Tr) : Prop := szP P + c ≤ 64 * wt x ∧ nm P + 1 ≤ 3 * cnt x

theorem bd_paren {P : List Pc} {x : Tr} (h : Bd P 12 x) (c : Prop) [Decidable c] : Bd (if c then [wd [40]] ++ P ++ [wd [41]] else P) 8 x := by
 obtain ⟨h1, h2⟩ := h
 by_cases hc : c
 ·rw [if_pos hc]
  unfold Bd
  simp only [szP_append, nm_append, szP, nm, lC, lN]
  omega
 ·rw [if_neg hc]
  unfold Bd
  omega
theorem bd_nil (x : Tr) (c : Nat) (h : c ≤ 64) : Bd [] c x := by
 have h1 := cnt_pos x
 have h2 := wt_pos x
 unfold Bd
 simp only [szP, nm]
 omega

theorem szES (N : Nat) : (∀ x : Tr, cnt x < N → isE x = true → ∀ r, Bd (qE r x) 8 x) ∧ (∀ x : Tr, cnt x < N → isS x = true → Bd (qS x) 8 x) := by
 induction N with
 | zero => exact ⟨fun x h => by omega, fun x h => by omega⟩
 | succ N ih =>
  obtain ⟨ihE, ihS⟩ := ih
  have hl : ∀ (l : List Tr) (b : Bool), cnts l < N → allE l = true → szP (listP b l) ≤ 64 * wts l ∧ nm (listP b l) ≤ 3 * cnts l := by
   intro l
   induction l with
   | nil => intro b _ _; simp [listP, szP, nm]
   | cons x r ih2 =>
    intro b hc ha
    simp only [cnts] at hc ⊢
    simp [allE] at ha
    obtain ⟨h1, h1'⟩ := ihE x (by omega) ha.1 1
    have h2 := ih2 false (by omega) ha.2
    simp only [listP, wts]
    cases b <;> simp only [szP_append, nm_append, szP, nm, and_true, lC, lN, if_true, if_false, Bool.false_eq_true] <;> omega
  have hp : ∀ (l : List Tr) (b : Bool), cnts l < N → propsE l = true → szP (propsP b l) ≤ 64 * wts l ∧ nm (propsP b l) ≤ 3 * cnts l := by
   intro l
   induction l with
   | nil => intro b _ _; simp [propsP, szP, nm]
   | cons x r ih2 =>
    intro b hc ha
    obtain ⟨k, t, n, m⟩ := x
    simp only [cnts, cnt_mk] at hc ⊢
    rcases m with _ | ⟨z, _ | ⟨z2, m⟩⟩ <;> simp [propsE] at ha
    simp only [cnts] at hc ⊢
    obtain ⟨h1, h1'⟩ := ihE z (by omega) ha.1.2 1
    have h2 := ih2 false (by omega) ha.2
    simp only [propsP, wts, wt_mk]
    cases b <;> simp only [szP_append, nm_append, szP, nm, and_true, lC, lN, if_true, if_false, Bool.false_eq_true] <;> omega
  have hs : ∀ l : List Tr, cnts l < N → allS l = true → szP (linesP l) ≤ 64 * wts l ∧ nm (linesP l) ≤ 3 * cnts l := by
   intro l
   induction l with
   | nil => intro _ _; simp [linesP, szP, nm]
   | cons x r ih2 =>
    intro hc ha
    simp only [cnts] at hc ⊢
    simp [allS] at ha
    obtain ⟨h1, h1'⟩ := ihS x (by omega) ha.1
    have h2 := ih2 (by omega) ha.2
    simp only [linesP, wts, List.cons_append, szP_append, nm_append, szP, nm, and_true, lC, lN, if_true, if_false, Bool.false_eq_true]
    omega
  refine ⟨?_, ?_⟩
  ·rintro ⟨k, t, n, l⟩ hx hE r
   have hc : cnts l < N := by rw [cnt_mk] at hx; omega
   unfold isE at hE
   unfold qE
   simp only []
   refine bd_paren ?_ _
   by_cases h1 : k = 1
   ·subst h1
    simp at hE
    simp (config := {decide := true}) only [if_true, if_false]
    have h9 := Lib.itoa_length_le n (by omega) (by omega)
    unfold Bd
    simp only [wt_mk, cnt_mk, wts, cnts, szP_append, nm_append, szP, nm, and_true, lC, lN, if_true, if_false, Bool.false_eq_true] at *
    omega
   by_cases h2 : k = 2
   ·subst h2
    simp at hE
    simp (config := {decide := true}) only [if_true, if_false]
    have h9 := quote_le t
    unfold Bd
    simp only [wt_mk, cnt_mk, wts, cnts, szP_append, nm_append, szP, nm, and_true, lC, lN, if_true, if_false, Bool.false_eq_true] at *
    omega
   by_cases h3 : k = 3
   ·subst h3
    simp at hE
    simp (config := {decide := true}) only [if_true, if_false]
    unfold Bd
    by_cases hn : n = 1 <;> simp only [hn, wt_mk, cnt_mk, wts, cnts, szP_append, nm_append, szP, nm, and_true, lC, lN, if_true, if_false, Bool.false_eq_true] <;> omega
   by_cases h4 : k = 4
   ·subst h4
    simp at hE
    simp (config := {decide := true}) only [if_true, if_false]
    unfold Bd
    simp only [wt_mk, cnt_mk, wts, cnts, szP_append, nm_append, szP, nm, and_true, lC, lN, if_true, if_false, Bool.false_eq_true] at *
    omega
   by_cases h5 : k = 5
   ·subst h5
    simp at hE
    simp (config := {decide := true}) only [if_true, if_false]
    unfold Bd
    simp only [wt_mk, cnt_mk, wts, cnts, szP_append, nm_append, szP, nm, and_true, lC, lN, if_true, if_false, Bool.false_eq_true] at *
    omega
   by_cases h6 : k = 6
   ·subst h6
    simp at hE
    simp (config := {decide := true}) only [if_true, if_false]
    unfold Bd
    simp only [wt_mk, cnt_mk, wts, cnts, szP_append, nm_append, szP, nm, and_true, lC, lN, if_true, if_false, Bool.false_eq_true] at *
    omega
   by_cases h7 : k = 7
   ·subst h7
    simp at hE
    simp (config := {decide := true}) only [if_true, if_false]
    unfold Bd
    simp only [wt_mk, cnt_mk, wts, cnts, szP_append, nm_append, szP, nm, and_true, lC, lN, if_true, if_false, Bool.false_eq_true] at *
    omega
   by_cases h8 : k = 8
   ·subst h8
    simp at hE
    simp (config := {decide := true}) only [if_true, if_false]
    have h1 := hl l true hc hE.2
    unfold Bd
    simp only [wt_mk, cnt_mk, wts, cnts, szP_append, nm_append, szP, nm, and_true, lC, lN, if_true, if_false, Bool.false_eq_true] at *
    omega
   by_cases h9 : k = 9
   ·subst h9
    simp at hE
    simp (config := {decide := true}) only [if_true, if_false]
    have h1 := hp l true hc hE.1
    unfold Bd
    cases l.isEmpty <;> simp only [wt_mk, cnt_mk, szP_append, nm_append, szP, nm, and_true, lC, lN, if_true, if_false, Bool.false_eq_true] <;> omega
   by_cases h11 : k = 11
   ·subst h11
    rcases l with _ | ⟨p, _ | ⟨ty, _ | ⟨⟨bk, bt, bn, bl⟩, _ | ⟨z, m⟩⟩⟩⟩ <;> simp at hE
    simp (config := {decide := true}) only [if_true, if_false]
    have h1 := szPms p
    have h2 := szTyOr ty
    simp only [cnts, cnt_mk] at hc
    have h3 := hs bl (by omega) hE.2.2.2.1
    unfold Bd
    simp only [wt_mk, cnt_mk, wts, cnts, List.cons_append, szP_append, nm_append, szP, nm, and_true, lC, lN, if_true, if_false, Bool.false_eq_true] at *
    omega
   by_cases h15 : k = 15
   ·subst h15
    rcases l with _ | ⟨x, _ | ⟨y, m⟩⟩ <;> simp at hE
    simp (config := {decide := true}) only [if_true, if_false]
    simp only [cnts] at hc
    have h1 := ihE x (by omega) hE.2 9
    unfold Bd at h1
    unfold Bd
    by_cases ht : t = [116, 121, 112, 101, 111, 102] <;> simp only [ht, wt_mk, cnt_mk, wts, cnts, szP_append, nm_append, szP, nm, and_true, lC, lN, if_true, if_false, Bool.false_eq_true] <;> omega
   by_cases h16 : k = 16
   ·subst h16
    rcases l with _ | ⟨x, _ | ⟨y, _ | ⟨z, m⟩⟩⟩ <;> simp at hE
    simp (config := {decide := true}) only [if_true, if_false]
    simp only [cnts] at hc
    have h1 := ihE x (by omega) hE.2.1 (binRank t)
    have h2 := ihE y (by omega) hE.2.2 (binRank t + 1)
    unfold Bd at h1 h2
    unfold Bd
    simp only [wt_mk, cnt_mk, wts, cnts, szP_append, nm_append, szP, nm, and_true, lC, lN, if_true, if_false, Bool.false_eq_true] at *
    omega
   by_cases h17 : k = 17
   ·subst h17
    rcases l with _ | ⟨x, _ | ⟨y, _ | ⟨z, _ | ⟨z2, m⟩⟩⟩⟩ <;> simp at hE
    simp (config := {decide := true}) only [if_true, if_false]
    simp only [cnts] at hc
    have h1 := ihE x (by omega) hE.2.1.1 3
    have h2 := ihE y (by omega) hE.2.1.2 1
    have h3 := ihE z (by omega) hE.2.2 1
    unfold Bd at h1 h2 h3
    unfold Bd
    simp only [wt_mk, cnt_mk, wts, cnts, szP_append, nm_append, szP, nm, and_true, lC, lN, if_true, if_false, Bool.false_eq_true] at *
    omega
   by_cases h18 : k = 18
   ·subst h18
    rcases l with _ | ⟨x, _ | ⟨y, _ | ⟨z, m⟩⟩⟩ <;> simp at hE
    simp (config := {decide := true}) only [if_true, if_false]
    simp only [cnts] at hc
    have h1 := ihE x (by omega) hE.2.1.1 10
    have h2 := ihE y (by omega) hE.2.1.2 1
    unfold Bd at h1 h2
    unfold Bd
    simp only [wt_mk, cnt_mk, wts, cnts, szP_append, nm_append, szP, nm, and_true, lC, lN, if_true, if_false, Bool.false_eq_true] at *
    omega
   by_cases h19 : k = 19
   ·subst h19
    rcases l with _ | ⟨x, r⟩
    ·simp at hE
    simp [allE] at hE
    simp (config := {decide := true}) only [if_true, if_false]
    simp only [cnts] at hc
    have h1 := ihE x (by omega) hE.2.1 10
    have h2 := hl r true (by omega) hE.2.2
    unfold Bd at h1
    unfold Bd
    simp only [wt_mk, cnt_mk, wts, cnts, szP_append, nm_append, szP, nm, and_true, lC, lN, if_true, if_false, Bool.false_eq_true] at *
    omega
   by_cases h20 : k = 20
   ·subst h20
    simp at hE
    simp (config := {decide := true}) only [if_true, if_false]
    have h1 := hl l true hc hE.2
    unfold Bd
    simp only [wt_mk, cnt_mk, wts, cnts, szP_append, nm_append, szP, nm, and_true, lC, lN, if_true, if_false, Bool.false_eq_true] at *
    omega
   by_cases h21 : k = 21
   ·subst h21
    rcases l with _ | ⟨x, _ | ⟨y, m⟩⟩ <;> simp at hE
    simp (config := {decide := true}) only [if_true, if_false]
    simp only [cnts] at hc
    have h1 := ihE x (by omega) hE.2 10
    unfold Bd at h1
    unfold Bd
    simp only [wt_mk, cnt_mk, wts, cnts, szP_append, nm_append, szP, nm, and_true, lC, lN, if_true, if_false, Bool.false_eq_true] at *
    omega
   by_cases h22 : k = 22
   ·subst h22
    rcases l with _ | ⟨x, _ | ⟨y, _ | ⟨z, m⟩⟩⟩ <;> simp at hE
    simp (config := {decide := true}) only [if_true, if_false]
    simp only [cnts] at hc
    have h1 := ihE x (by omega) hE.2.1 10
    have h2 := ihE y (by omega) hE.2.2 1
    unfold Bd at h1 h2
    unfold Bd
    simp only [wt_mk, cnt_mk, wts, cnts, szP_append, nm_append, szP, nm, and_true, lC, lN, if_true, if_false, Bool.false_eq_true] at *
    omega
   ·exfalso
    simp [h1, h2, h3, h4, h5, h6, h7, h8, h9, h11, h15, h16, h17, h18, h19, h20, h21, h22] at hE
  ·rintro ⟨k, t, n, l⟩ hx hS
   have hc : cnts l < N := by rw [cnt_mk] at hx; omega
   unfold isS at hS
   unfold qS
   by_cases h40 : k = 40
   ·subst h40
    rcases l with _ | ⟨x, _ | ⟨y, _ | ⟨z, m⟩⟩⟩ <;> simp at hS
    simp (config := {decide := true}) only [if_true, if_false]
    simp only [cnts] at hc
    have h1 := ihE y (by omega) hS.2.2 1
    have h2 := szTyOr x
    have h3 := cnt_pos x
    unfold Bd at h1
    unfold Bd
    by_cases hn : n = 0 <;> simp only [hn, wt_mk, cnt_mk, wts, cnts, szP_append, nm_append, szP, nm, and_true, lC, lN, if_true, if_false, Bool.false_eq_true] <;> omega
   by_cases h41 : k = 41
   ·subst h41
    rcases l with _ | ⟨p, _ | ⟨ty, _ | ⟨⟨bk, bt, bn, bl⟩, _ | ⟨z, m⟩⟩⟩⟩ <;> simp at hS
    simp (config := {decide := true}) only [if_true, if_false]
    have h1 := szPms p
    have h2 := szTyOr ty
    simp only [cnts, cnt_mk] at hc
    have h3 := hs bl (by omega) hS.2.2.2.1
    unfold Bd
    simp only [wt_mk, cnt_mk, wts, cnts, List.cons_append, szP_append, nm_append, szP, nm, and_true, lC, lN, if_true, if_false, Bool.false_eq_true] at *
    omega
   by_cases h47 : k = 47
   ·subst h47
    rcases l with _ | ⟨x, _ | ⟨y, m⟩⟩ <;> simp at hS
    simp (config := {decide := true}) only [if_true, if_false]
    simp only [cnts] at hc
    have h1 := ihE x (by omega) hS.2 1
    unfold Bd at h1
    unfold Bd
    by_cases hf : firstB (lay 0 false (qE 1 x)) = true <;> simp only [hf, wt_mk, cnt_mk, wts, cnts, szP_append, nm_append, szP, nm, and_true, lC, lN, if_true, if_false, Bool.false_eq_true] <;> omega
   by_cases h48 : k = 48
   ·subst h48
    rcases l with _ | ⟨x, _ | ⟨⟨bk, bt, bn, bl⟩, _ | ⟨⟨ck, ct, cn, cl⟩, _ | ⟨z, m⟩⟩⟩⟩ <;> simp at hS
    simp (config := {decide := true}) only [if_true, if_false]
    simp only [cnts, cnt_mk] at hc
    have h1 := ihE x (by omega) hS.2.1.1 1
    unfold Bd at h1
    have h2 := hs bl (by omega) hS.2.1.2.2.1
    have h3 : szP (linesP cl) ≤ 64 * wts cl ∧ nm (linesP cl) ≤ 3 * cnts cl := by
     rcases hS.2.2 with d | d
     ·simp [isNone, bare, Tr.l] at d; rw [d.2]; simp [linesP, szP, nm]
     ·exact hs cl (by omega) d.2.1
    unfold Bd
    by_cases hk : ck = 14 <;> simp only [hk, wt_mk, cnt_mk, wts, cnts, List.cons_append, szP_append, nm_append, szP, nm, and_true, lC, lN, if_true, if_false, Bool.false_eq_true] <;> omega
   by_cases h49 : k = 49
   ·subst h49
    rcases l with _ | ⟨x, _ | ⟨⟨bk, bt, bn, bl⟩, _ | ⟨z, m⟩⟩⟩ <;> simp at hS
    simp (config := {decide := true}) only [if_true, if_false]
    simp only [cnts, cnt_mk] at hc
    have h1 := ihE x (by omega) hS.2.1 1
    unfold Bd at h1
    have h2 := hs bl (by omega) hS.2.2.2.1
    unfold Bd
    simp only [wt_mk, cnt_mk, wts, cnts, List.cons_append, szP_append, nm_append, szP, nm, and_true, lC, lN, if_true, if_false, Bool.false_eq_true] at *
    omega
   by_cases h50 : k = 50
   ·subst h50
    rcases l with _ | ⟨x, _ | ⟨y, m⟩⟩ <;> simp at hS
    simp (config := {decide := true}) only [if_true, if_false]
    simp only [cnts] at hc
    have h1 : x.k = 14 ∨ (szP (qE 1 x) + 8 ≤ 64 * wt x ∧ nm (qE 1 x) + 1 ≤ 3 * cnt x) := by
     rcases hS.2 with d | d
     ·simp [isNone] at d; exact .inl d.1.1
     ·exact .inr (ihE x (by omega) d 1)
    unfold Bd
    rcases h1 with h1 | h1
    ·simp only [h1, wt_mk, cnt_mk, wts, cnts, szP_append, nm_append, szP, nm, and_true, lC, lN, if_true, if_false, Bool.false_eq_true]; omega
    ·by_cases hk : x.k = 14 <;> simp only [hk, wt_mk, cnt_mk, wts, cnts, szP_append, nm_append, szP, nm, and_true, lC, lN, if_true, if_false, Bool.false_eq_true] <;> omega
   by_cases h51 : k = 51
   ·subst h51
    rcases l with _ | ⟨x, _ | ⟨y, m⟩⟩ <;> simp at hS
    simp (config := {decide := true}) only [if_true, if_false]
    simp only [cnts] at hc
    have h1 := ihE x (by omega) hS.2 1
    unfold Bd at h1
    unfold Bd
    simp only [wt_mk, cnt_mk, wts, cnts, szP_append, nm_append, szP, nm, and_true, lC, lN, if_true, if_false, Bool.false_eq_true] at *
    omega
   by_cases h52 : k = 52
   ·subst h52
    simp at hS
    simp (config := {decide := true}) only [if_true, if_false]
    have h1 := hs l hc hS.1
    unfold Bd
    simp only [wt_mk, cnt_mk, List.cons_append, szP_append, nm_append, szP, nm, and_true, lC, lN, if_true, if_false, Bool.false_eq_true] at *
    omega
   ·exfalso
    simp [h40, h41, h47, h48, h49, h50, h51, h52] at hS

theorem szPE (x : Tr) (h : isE x = true) (r : Nat) : Bd (qE r x) 8 x := (szES (cnt x + 1)).1 x (Nat.lt_succ_self _) h r
theorem szPS (x : Tr) (h : isS x = true) : Bd (qS x) 8 x := (szES (cnt x + 1)).2 x (Nat.lt_succ_self _) h

/-- From the measure to what the walks ask. -/
theorem bound_of {P : List Pc} {W : Nat} (h1 : szP P ≤ 67108864) (h2 : nm P ≤ 3145728) : (lay 0 false P).length ≤ 70368744177664 ∧ P.length ≤ 4398046511104 := by
 have h3 := szP_len P
 have h4 := lay_le P 0 false 6291458 (by omega)
 have h5 : nm P * 6291458 ≤ 3145728 * 6291458 := Nat.mul_le_mul_right _ h2
 omega
theorem lay_bound (x : Tr) (h : isE x = true) (hw : wt x ≤ 1048576) : (lay 0 false (qE 1 x)).length ≤ 70368744177664 ∧ (qE 1 x).length ≤ 4398046511104 := by
 obtain ⟨h1, h2⟩ := szPE x h 1
 have h3 := cnt_wt _ x (Nat.lt_succ_self _)
 exact bound_of (W := 0) (by omega) (by omega)

end Go.Proofs.YtpmlmpibpmoclaaGreatDoor
