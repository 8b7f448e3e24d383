/-
  Bounds on what the printer gathers for items: plain.
-/
import Derived.Test.YtpmlmpibpmoclaaGreatDoorPb
import Derived.Test.YtpmlmpibpmoclaaGreatDoorRd7
namespace Go.Proofs.YtpmlmpibpmoclaaGreatDoor
set_option linter.all false
theorem blk_bd {l : List Tr} (h : allS l = true) : Bd (blkP l) 8 (.mk 52 [] 0 l) := by
 have hS : isS (.mk 52 [] 0 l) = true := by unfold isS; simp [h]
 have e : qS (.mk 52 [] 0 l) = blkP l := by (conv => lhs; unfold qS); simp [blkP]
 have := szPS _ hS
 rwa [e] at this

theorem bd_M {x : Tr} (h : CM x) : Bd (qM x) 8 x := by
 cases h with
 | field t ty y h1 h2 h3 =>
  have e : qM (.mk 43 t 0 [ty, y]) = [wd t] ++ tyOrP ty ++ [wd [32, 61, 32]] ++ qE 1 y ++ [wd [59]] := by simp [qM, Tr.k, Tr.l, Tr.t]
  have a1 := szTyOr ty
  have a2 := szPE y h3 1
  rw [e]
  unfold Bd at a2 ⊢
  simp only [wt_mk, cnt_mk, wts, cnts, szP_append, nm_append, szP, nm, and_true, lC, lN] at *
  omega
 | ctor p bl h1 h2 =>
  have e : qM (.mk 44 [] 0 [p, .mk 52 [] 0 bl]) = [wd [99, 111, 110, 115, 116, 114, 117, 99, 116, 111, 114]] ++ pmsP p ++ [wd [32]] ++ blkP bl := by simp [qM, Tr.k, Tr.l, Tr.t]
  have a1 := szPms p
  have a2 := blk_bd h2
  rw [e]
  unfold Bd at a2 ⊢
  simp only [wt_mk, cnt_mk, wts, cnts, szP_append, nm_append, szP, nm, and_true, lC, lN] at *
  omega
 | method t p ty bl h0 hn h1 h2 h3 =>
  have e : qM (.mk 45 t 0 [p, ty, .mk 52 [] 0 bl]) = [wd t] ++ (pmsP p ++ tyOrP ty ++ [wd [32]] ++ blkP bl) := by simp [qM, Tr.k, Tr.l, Tr.t, bodyP]
  have a0 := szTyOr ty
  have a1 := szPms p
  have a2 := blk_bd h3
  rw [e]
  unfold Bd at a2 ⊢
  simp only [wt_mk, cnt_mk, wts, cnts, szP_append, nm_append, szP, nm, and_true, lC, lN] at *
  omega
theorem bd_linesM : ∀ l : List Tr, (∀ x ∈ l, CM x) → szP (linesMP l) ≤ 64 * wts l ∧ nm (linesMP l) ≤ 3 * cnts l := by
 intro l
 induction l with
 | nil => intro _; simp [linesMP, szP, nm]
 | cons x r ih =>
  intro h
  have a1 := bd_M (h x (by simp))
  have a2 := ih fun y hy => h y (by simp [hy])
  unfold Bd at a1
  simp only [linesMP, List.cons_append, wts, cnts, szP_append, nm_append, szP, nm] at *
  omega
theorem kid0_wt (y : Tr) : 1 + (kid0 y).t.length ≤ wt y := by
 obtain ⟨k, t, n, l⟩ := y
 rcases l with _ | ⟨⟨k', t', n', l'⟩, r⟩
 ·simp [kid0, Tr.l, Tr.t, wt]
 ·simp [kid0, Tr.l, Tr.t, wt, wts]
  omega
theorem bd_linesN : ∀ l : List Tr, szP (linesNP l) ≤ 64 * wts l ∧ nm (linesNP l) ≤ 3 * cnts l := by
 intro l
 induction l with
 | nil => simp [linesNP, szP, nm]
 | cons x r ih =>
  have a1 := kid0_wt x
  obtain ⟨k, t, n, l⟩ := x
  simp only [linesNP, List.cons_append, List.nil_append, wt_mk, cnt_mk, wts, cnts, szP_append, nm_append, szP, nm, Tr.t, lC, lN] at *
  omega
theorem bd_one (o : Tr) : szP (oneP o) + 8 ≤ 64 * wt o ∧ nm (oneP o) = 0 := by
 obtain ⟨k, t, n, l⟩ := o
 rcases l with _ | ⟨⟨k', t', n', l'⟩, _ | ⟨z, m⟩⟩
 ·simp only [oneP, Tr.l, szP, nm, and_true, wt_mk]; omega
 ·have e : oneP (.mk k t n [.mk k' t' n' l']) = [wd t] ++ (if k' = 14 ∨ (k = 61 ∧ t' = t) then [] else [wd [32, 97, 115, 32], wd t']) := rfl
  rw [e]
  by_cases h : k' = 14 ∨ k = 61 ∧ t' = t
  ·rw [if_pos h]; simp only [wt_mk, wts, szP_append, nm_append, szP, nm, and_true, lC, lN]; omega
  ·rw [if_neg h]; simp only [wt_mk, wts, szP_append, nm_append, szP, nm, and_true, lC, lN]; omega
 ·simp only [oneP, Tr.l, szP, nm, and_true, wt_mk]; omega
theorem bd_names : ∀ (l : List Tr) (b : Bool), szP (namesP b l) ≤ 64 * wts l ∧ nm (namesP b l) = 0 := by
 intro l
 induction l with
 | nil => intro b; simp [namesP, szP, nm]
 | cons x r ih =>
  intro b
  have a1 := bd_one x
  have a2 := ih false
  simp only [namesP, wts, szP_append, nm_append]
  cases b <;> simp only [szP, nm, and_true, lC, lN, if_true, if_false, Bool.false_eq_true] <;> omega
theorem bd_rest : ∀ l : List Tr, szP (restP l) ≤ 12 + 64 * wts l ∧ nm (restP l) = 0 := by
 intro l
 rcases l with _ | ⟨y, r⟩
 ·simp [restP, szP, nm]
 ·have a1 := kid0_wt y
  have a2 := bd_names (y :: r) true
  simp only [restP]
  simp only [wts] at *
  split <;> simp only [szP_append, nm_append, szP, nm, and_true, lC, lN] <;> omega
theorem bd_import (x : Tr) : szP (importP x) ≤ 64 * wt x ∧ nm (importP x) = 0 := by
 obtain ⟨k, t, n, l⟩ := x
 have q := quote_le t
 rcases l with _ | ⟨y, r⟩
 ·simp only [importP, Tr.l, Tr.t, wt_mk, wts, szP_append, nm_append, szP, nm, and_true, lC, lN]; omega
 ·have a1 := kid0_wt y
  have a2 := bd_rest r
  have a3 := bd_rest (y :: r)
  simp only [wts] at *
  have b1 : szP (if n = 1 then [wd [116, 121, 112, 101, 32]] else []) ≤ 6 ∧ nm (if n = 1 then [wd [116, 121, 112, 101, 32]] else []) = 0 := by
   by_cases h : n = 1 <;> simp [h, szP, nm]
  have b2 : szP (if r.isEmpty then [] else [wd [44, 32]]) ≤ 3 ∧ nm (if r.isEmpty then [] else [wd [44, 32]]) = 0 := by
   cases r <;> simp [szP, nm]
  have b3 : szP (if y.t = [100, 101, 102, 97, 117, 108, 116] then [wd (kid0 y).t] ++ (if r.isEmpty then [] else [wd [44, 32]]) ++ restP r else restP (y :: r)) ≤ 15 + 64 * (wt y + wts r) ∧ nm (if y.t = [100, 101, 102, 97, 117, 108, 116] then [wd (kid0 y).t] ++ (if r.isEmpty then [] else [wd [44, 32]]) ++ restP r else restP (y :: r)) = 0 := by
   by_cases h : y.t = [100, 101, 102, 97, 117, 108, 116]
   ·rw [if_pos h]
    simp only [szP_append, nm_append, szP, nm, and_true]
    omega
   ·rw [if_neg h]
    omega
  have e : importP (.mk k t n (y :: r)) = [wd [105, 109, 112, 111, 114, 116, 32]] ++ ((if n = 1 then [wd [116, 121, 112, 101, 32]] else []) ++ (if y.t = [100, 101, 102, 97, 117, 108, 116] then [wd (kid0 y).t] ++ (if r.isEmpty then [] else [wd [44, 32]]) ++ restP r else restP (y :: r)) ++ [wd [32, 102, 114, 111, 109, 32]]) ++ [wd (quote t), wd [59]] := rfl
  rw [e]
  simp only [wt_mk, wts, szP_append, nm_append, b1.2, b3.2, szP, nm, and_true, lC, lN]
  omega
theorem bd_export (x : Tr) : szP (exportP x) ≤ 64 * wt x ∧ nm (exportP x) = 0 := by
 obtain ⟨k, t, n, l⟩ := x
 have q := quote_le t
 have b1 : szP (if n = 1 then [wd [116, 121, 112, 101, 32]] else []) ≤ 6 ∧ nm (if n = 1 then [wd [116, 121, 112, 101, 32]] else []) = 0 := by
  by_cases h : n = 1 <;> simp [h, szP, nm]
 have b2 : szP (if t = [] then [] else [wd [32, 102, 114, 111, 109, 32], wd (quote t)]) ≤ 10 + 6 * t.length ∧ nm (if t = [] then [] else [wd [32, 102, 114, 111, 109, 32], wd (quote t)]) = 0 := by
  by_cases h : t = []
  ·simp [h, szP, nm]
  ·rw [if_neg h]; simp only [szP, nm, and_true, lC, lN]; omega
 rcases l with _ | ⟨y, r⟩
 ·have e : exportP (.mk k t n []) = [wd [101, 120, 112, 111, 114, 116, 32]] ++ (if n = 1 then [wd [116, 121, 112, 101, 32]] else []) ++ [] ++ (if t = [] then [] else [wd [32, 102, 114, 111, 109, 32], wd (quote t)]) ++ [wd [59]] := rfl
  rw [e]
  simp only [wt_mk, wts, szP_append, nm_append, b1.2, b2.2, szP, nm, and_true, lC, lN]
  omega
 ·have a1 := kid0_wt y
  have a2 := bd_names (y :: r) true
  have b3 : szP (if y.t = star then [wd [42]] ++ (if (kid0 y).k = 14 then [] else [wd [32, 97, 115, 32], wd (kid0 y).t]) else [wd [123, 32]] ++ namesP true (y :: r) ++ [wd [32, 125]]) ≤ 8 + 64 * (wt y + wts r) ∧ nm (if y.t = star then [wd [42]] ++ (if (kid0 y).k = 14 then [] else [wd [32, 97, 115, 32], wd (kid0 y).t]) else [wd [123, 32]] ++ namesP true (y :: r) ++ [wd [32, 125]]) = 0 := by
   simp only [wts] at *
   by_cases h : y.t = star
   ·rw [if_pos h]
    by_cases h2 : (kid0 y).k = 14
    ·rw [if_pos h2]; simp only [szP_append, nm_append, szP, nm, and_true, lC, lN]; omega
    ·rw [if_neg h2]; simp only [szP_append, nm_append, szP, nm, and_true, lC, lN]; omega
   ·rw [if_neg h]
    simp only [szP_append, nm_append, szP, nm, and_true, lC, lN]
    omega
  have e : exportP (.mk k t n (y :: r)) = [wd [101, 120, 112, 111, 114, 116, 32]] ++ (if n = 1 then [wd [116, 121, 112, 101, 32]] else []) ++ (if y.t = star then [wd [42]] ++ (if (kid0 y).k = 14 then [] else [wd [32, 97, 115, 32], wd (kid0 y).t]) else [wd [123, 32]] ++ namesP true (y :: r) ++ [wd [32, 125]]) ++ (if t = [] then [] else [wd [32, 102, 114, 111, 109, 32], wd (quote t)]) ++ [wd [59]] := rfl
  rw [e]
  simp only [wt_mk, wts, szP_append, nm_append, b1.2, b2.2, b3.2, szP, nm, and_true, lC, lN]
  omega

/-- What the printer prints as an item. -/
def ItW (x : Tr) : Prop := isS x = true ∨ (isClass x = true) ∨ (x.k = 46 ∧ isIt x = true) ∨ (x.k = 60 ∧ isImport x = true) ∨ (x.k = 64 ∧ isFrom x = true) ∨ isSpace x = true

theorem stmt_kind {x : Tr} (h : isS x = true) : x.k = 40 ∨ x.k = 41 ∨ x.k = 47 ∨ x.k = 48 ∨ x.k = 49 ∨ x.k = 50 ∨ x.k = 51 ∨ x.k = 52 := by
 cases isS_inv h <;> simp [Tr.k]
theorem qIt_stmt {x : Tr} (h : isS x = true) : qIt x = qS x := by
 have := stmt_kind h
 unfold qIt
 rw [if_neg (by omega), if_neg (by omega), if_neg (by omega), if_neg (by omega), if_neg (by omega)]

theorem bd_It {x : Tr} (hx : ItW x) : szP (qIt x) ≤ 64 * wt x ∧ nm (qIt x) + 1 ≤ 3 * cnt x := by
 have hc := cnt_pos x
 rcases hx with hx | hx | ⟨hk, hx⟩ | ⟨hk, hx⟩ | ⟨hk, hx⟩ | hx
 ·rw [qIt_stmt hx]
  have := szPS x hx
  unfold Bd at this
  omega
 ·obtain ⟨k, t, n, l⟩ := x
  simp only [isClass, Bool.and_eq_true, beq_iff_eq, Tr.k, Tr.t, Tr.n, Tr.l] at hx
  obtain ⟨⟨⟨rfl, _⟩, rfl⟩, hm⟩ := hx
  have e : qIt (.mk 42 t 0 l) = [wd [99, 108, 97, 115, 115, 32], wd t, wd [32]] ++ (.opn :: (linesMP l ++ [.shut])) := by simp [qIt, Tr.k, Tr.t, Tr.l]
  have a1 := bd_linesM l (mems_all l 0 [] hm)
  rw [e]
  simp only [wt_mk, cnt_mk, szP_append, nm_append, szP, nm, and_true, lC, lN]
  omega
 ·obtain ⟨k, t, n, l⟩ := x
  simp only [Tr.k] at hk
  subst hk
  rcases l with _ | ⟨y, _ | ⟨z, m⟩⟩
  ·simp [isIt, Tr.k, Tr.t, Tr.n, Tr.l] at hx
  ·have e : qIt (.mk 46 t n [y]) = [wd [116, 121, 112, 101, 32], wd t, wd [32, 61, 32]] ++ qT y ++ [wd [59]] := by simp [qIt, Tr.k, Tr.t, Tr.l]
   have a1 := szPT y
   have a2 := cnt_pos y
   rw [e]
   simp only [wt_mk, cnt_mk, wts, cnts, szP_append, nm_append, szP, nm, and_true, lC, lN]
   omega
  ·simp [isIt, Tr.k, Tr.t, Tr.n, Tr.l] at hx
 ·have e : qIt x = importP x := by unfold qIt; rw [if_neg (by omega), if_neg (by omega), if_pos hk]
  have := bd_import x
  rw [e]
  omega
 ·have e : qIt x = exportP x := by unfold qIt; rw [if_neg (by omega), if_neg (by omega), if_neg (by omega), if_pos hk]
  have := bd_export x
  rw [e]
  omega
 ·obtain ⟨k, t, n, l⟩ := x
  simp only [isSpace, Bool.and_eq_true, beq_iff_eq, Tr.k, Tr.t, Tr.n, Tr.l] at hx
  obtain ⟨⟨⟨rfl, _⟩, rfl⟩, hm⟩ := hx
  have e : qIt (.mk 66 t 0 l) = [wd [110, 97, 109, 101, 115, 112, 97, 99, 101, 32], wd t, wd [32]] ++ (.opn :: (linesNP l ++ [.shut])) := by simp [qIt, Tr.k, Tr.t, Tr.l]
  have a1 := bd_linesN l
  rw [e]
  simp only [wt_mk, cnt_mk, szP_append, nm_append, szP, nm, and_true, lC, lN]
  omega

theorem itW_of {x : Tr} (h : isIt x = true) : ItW x := by
 unfold isIt at h
 split at h
 ·exact .inr (.inl h)
 split at h
 ·rename_i h1 h2
  exact .inr (.inr (.inl ⟨h2, by unfold isIt; rw [if_neg h1, if_pos h2]; exact h⟩))
 split at h
 ·rename_i h3
  exact .inr (.inr (.inr (.inl ⟨h3, h⟩)))
 split at h
 ·rename_i h4
  exact .inr (.inr (.inr (.inr (.inl ⟨h4, h⟩))))
 ·exact .inl h

theorem itW_kind {x : Tr} (h : ItW x) : ¬ x.k = 62 ∧ ¬ x.k = 63 := by
 rcases h with h | h | ⟨h, _⟩ | ⟨h, _⟩ | ⟨h, _⟩ | h
 ·have := stmt_kind h; omega
 ·simp only [isClass, Bool.and_eq_true, beq_iff_eq] at h; omega
 ·omega
 ·omega
 ·omega
 ·simp only [isSpace, Bool.and_eq_true, beq_iff_eq] at h; omega
theorem qI_it {x : Tr} (h : ItW x) : qI x = qIt x := by
 have := itW_kind h
 unfold qI
 rw [if_neg this.1, if_neg this.2]
theorem item62_inv {t : Bs} {n : Int} {l : List Tr} (h : isItem (.mk 62 t n l) = true) : ∃ y, l = [y] ∧ t = [] ∧ n = 0 ∧ isIt y = true := by
 rcases l with _ | ⟨y, _ | ⟨z, m⟩⟩
 ·have h2 : ((t == [] && n == 0) && false) = true := h
  simp at h2
 ·have h2 : ((t == [] && n == 0) && ((y.k == 40 || y.k == 41 || y.k == 42 || y.k == 46) && isIt y)) = true := h
  simp only [Bool.and_eq_true, beq_iff_eq] at h2
  exact ⟨y, rfl, h2.1.1, h2.1.2, h2.2.2⟩
 ·have h2 : ((t == [] && n == 0) && false) = true := h
  simp at h2
theorem item63_inv {t : Bs} {n : Int} {l : List Tr} (h : isItem (.mk 63 t n l) = true) : ∃ y, l = [y] ∧ t = [] ∧ n = 0 ∧ (isE y = true ∨ ((y.k = 41 ∨ y.k = 42) ∧ isIt y = true)) := by
 rcases l with _ | ⟨y, _ | ⟨z, m⟩⟩
 ·have h2 : ((t == [] && n == 0) && false) = true := h
  simp at h2
 ·have h2 : ((t == [] && n == 0) && (isE y || ((y.k == 41 || y.k == 42) && isIt y))) = true := h
  simp only [Bool.and_eq_true, Bool.or_eq_true, beq_iff_eq] at h2
  exact ⟨y, rfl, h2.1.1, h2.1.2, h2.2⟩
 ·have h2 : ((t == [] && n == 0) && false) = true := h
  simp at h2
theorem qI_63 (y : Tr) : qI (.mk 63 [] 0 [y]) = [wd [101, 120, 112, 111, 114, 116, 32, 100, 101, 102, 97, 117, 108, 116, 32]] ++ (if y.k = 41 ∨ y.k = 42 then qIt y else aloneP y) := rfl
theorem item_it_eq {k n : Int} {t : Bs} {l : List Tr} (hk : ¬ k = 62) (hk3 : ¬ k = 63) : isItem (.mk k t n l) = isIt (.mk k t n l) := by
 unfold isItem
 rw [if_neg (show ¬ (Tr.mk k t n l).k = 62 from hk), if_neg (show ¬ (Tr.mk k t n l).k = 63 from hk3)]

theorem bd_I {x : Tr} (hx : isItem x = true ∨ ItW x) : szP (qI x) ≤ 64 * wt x ∧ nm (qI x) + 1 ≤ 3 * cnt x := by
 by_cases hi : ItW x
 ·rw [qI_it hi]
  exact bd_It hi
 replace hx := hx.resolve_right hi
 obtain ⟨k, t, n, l⟩ := x
 by_cases hk : k = 62
 ·subst hk
  obtain ⟨y, rfl, rfl, rfl, hy⟩ := item62_inv hx
  have e : qI (.mk 62 [] 0 [y]) = [wd [101, 120, 112, 111, 114, 116, 32]] ++ qIt y := by simp [qI, Tr.k, Tr.l]
  have := bd_It (itW_of hy)
  rw [e]
  simp only [wt_mk, cnt_mk, wts, cnts, szP_append, nm_append, szP, nm, and_true, lC, lN]
  omega
 by_cases hk3 : k = 63
 ·subst hk3
  obtain ⟨y, rfl, rfl, rfl, hy⟩ := item63_inv hx
  rw [qI_63]
  have key : szP (if y.k = 41 ∨ y.k = 42 then qIt y else aloneP y) ≤ 64 * wt y + 8 ∧ nm (if y.k = 41 ∨ y.k = 42 then qIt y else aloneP y) + 1 ≤ 3 * cnt y := by
   by_cases h : y.k = 41 ∨ y.k = 42
   ·rw [if_pos h]
    have hI : isIt y = true := by
     rcases hy with hy | hy
     ·exfalso
      obtain ⟨k, t, n, l⟩ := y
      simp only [Tr.k] at h
      unfold isE at hy
      rcases h with rfl | rfl <;> simp at hy
     ·exact hy.2
    have := bd_It (itW_of hI)
    omega
   ·rw [if_neg h]
    have hE := hy.resolve_right fun hy => h hy.1
    have := szPE y hE 1
    unfold Bd at this
    unfold aloneP
    split <;> simp only [szP_append, nm_append, szP, nm, and_true, lC, lN] <;> omega
  simp only [wt_mk, cnt_mk, wts, cnts, szP_append, nm_append, szP, nm, and_true, lC, lN]
  omega
 ·rw [item_it_eq hk hk3] at hx
  exact absurd (itW_of hx) hi

theorem quad {P : List Pc} {W : Nat} (hW : 1 ≤ W) (h1 : szP P ≤ 64 * W) (h2 : nm P + 1 ≤ 3 * W) : (lay 0 false P).length + 1 ≤ 128 * (W * W) := by
 have h3 := szP_len P
 have h4 := lay_le P 0 false (6 * W) (by omega)
 have h5 : nm P * (6 * W) ≤ (3 * W) * (6 * W) := Nat.mul_le_mul_right _ (by omega)
 have h6 : (3 * W) * (6 * W) = 18 * (W * W) := by rw [Nat.mul_mul_mul_comm]
 have h7 : W * 1 ≤ W * W := Nat.mul_le_mul_left _ hW
 omega
theorem quads : ∀ l : List Tr, (∀ y ∈ l, isItem y = true ∨ ItW y) → (l.flatMap fun y => lay 0 false (qI y) ++ [10]).length ≤ 128 * (wts l * wts l) := by
 intro l
 induction l with
 | nil => intro _; simp
 | cons x r ih =>
  intro h
  have a1 := bd_I (h x (by simp))
  have a2 := ih fun y hy => h y (by simp [hy])
  have a3 := cnt_wt _ x (Nat.lt_succ_self _)
  have a4 := quad (W := wt x) (by have := wt_pos x; omega) a1.1 (by omega)
  have e : (wt x + wts r) * (wt x + wts r) = wt x * wt x + wt x * wts r + (wts r * wt x + wts r * wts r) := by rw [Nat.add_mul, Nat.mul_add, Nat.mul_add]
  simp only [List.flatMap_cons, lA, lC, lN, wts]
  rw [e]
  omega
theorem item_bound {x : Tr} (hx : isItem x = true ∨ ItW x) (hw : wt x ≤ 1048576) : (lay 0 false (qI x)).length ≤ 70368744177664 ∧ (qI x).length ≤ 4398046511104 := by
 obtain ⟨h1, h2⟩ := bd_I hx
 have h3 := cnt_wt _ x (Nat.lt_succ_self _)
 exact bound_of (W := 0) (by omega) (by omega)
theorem typ_bound {x : Tr} (hw : wt x ≤ 1048576) : (lay 0 false (qT x)).length ≤ 70368744177664 ∧ (qT x).length ≤ 4398046511104 := by
 obtain ⟨h1, h2⟩ := szPT x
 exact bound_of (W := 0) (by omega) (by omega)

end Go.Proofs.YtpmlmpibpmoclaaGreatDoor
