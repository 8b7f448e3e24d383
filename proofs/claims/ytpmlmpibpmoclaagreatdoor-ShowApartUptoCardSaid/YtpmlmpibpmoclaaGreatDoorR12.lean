/-
  The document's answer on trees: items.
-/
import Derived.Test.YtpmlmpibpmoclaaGreatDoorR11
namespace Go.Proofs.YtpmlmpibpmoclaaGreatDoor
set_option linter.all false
set_option maxRecDepth 20000
set_option maxHeartbeats 4000000
open Go.RowKit

/-- An answer of the document on a form; a statement may be told an item. -/
def FormOk (f : Int) (x : Tr) : Prop :=
 (f = 1 ∧ isE x = true) ∨ (f = 2 ∧ isT x = true) ∨ (f = 3 ∧ isS x = true) ∨ (f = 4 ∧ isItem x = true) ∨
 (f = 5 ∧ x.k = 68 ∧ plainT x = true ∧ x.l.all (fun y => isItem y && !dollar y) = true) ∨ (f = 6 ∧ x.k = 69 ∧ plainT x = true ∧ x.l.all (fun y => isS y || isClass y || isSpace y) = true)

theorem isItem_it {x : Tr} (h1 : ¬ x.k = 62) (h2 : ¬ x.k = 63) (h : isIt x = true) : isItem x = true := by unfold isItem; rw [if_neg h1, if_neg h2]; exact h
theorem isIt_class {x : Tr} (h1 : x.k = 42) (h : isClass x = true) : isIt x = true := by unfold isIt; rw [if_pos h1]; exact h
theorem isIt_alias {t : Bs} {a : Tr} (h1 : isId t = true) (h2 : isT a = true) : isIt (.mk 46 t 0 [a]) = true := by
 unfold isIt; simp [Tr.k, Tr.t, Tr.n, Tr.l, h1, h2]
theorem isIt_import {t : Bs} {n : Int} {l : List Tr} (h : isImport (.mk 60 t n l) = true) : isIt (.mk 60 t n l) = true := by
 unfold isIt; rw [if_neg (by simp [Tr.k]), if_neg (by simp [Tr.k]), if_pos (show (Tr.mk 60 t n l).k = 60 from rfl)]; exact h
theorem isIt_from {t : Bs} {n : Int} {l : List Tr} (h : isFrom (.mk 64 t n l) = true) : isIt (.mk 64 t n l) = true := by
 unfold isIt; rw [if_neg (by simp [Tr.k]), if_neg (by simp [Tr.k]), if_neg (by simp [Tr.k]), if_pos (show (Tr.mk 64 t n l).k = 64 from rfl)]; exact h
theorem isIt_stmt {k : Int} {t : Bs} {n : Int} {l : List Tr} (h1 : ¬ k = 42) (h2 : ¬ k = 46) (h3 : ¬ k = 60) (h4 : ¬ k = 64) (h : isS (.mk k t n l) = true) : isIt (.mk k t n l) = true := by
 unfold isIt; rw [if_neg (show ¬ (Tr.mk k t n l).k = 42 from h1), if_neg (show ¬ (Tr.mk k t n l).k = 46 from h2), if_neg (show ¬ (Tr.mk k t n l).k = 60 from h3), if_neg (show ¬ (Tr.mk k t n l).k = 64 from h4)]; exact h
theorem isItem_62 {t : Bs} {n : Int} {a : Tr} (h1 : plainT (.mk 62 t n [a]) = true) (h2 : a.k = 40 ∨ a.k = 41 ∨ a.k = 42 ∨ a.k = 46) (h3 : isIt a = true) : isItem (.mk 62 t n [a]) = true := by
 unfold isItem
 rw [if_pos (show (Tr.mk 62 t n [a]).k = 62 from rfl), h1]
 show (true && ((a.k == 40 || a.k == 41 || a.k == 42 || a.k == 46) && isIt a)) = true
 rw [h3]
 rcases h2 with h | h | h | h <;> rw [h] <;> rfl
theorem isItem_63 {t : Bs} {n : Int} {a : Tr} (h1 : plainT (.mk 63 t n [a]) = true) (h2 : isE a = true ∨ ((a.k = 41 ∨ a.k = 42) ∧ isIt a = true)) : isItem (.mk 63 t n [a]) = true := by
 unfold isItem
 rw [if_neg (by simp [Tr.k]), if_pos (show (Tr.mk 63 t n [a]).k = 63 from rfl), h1]
 show (true && (isE a || ((a.k == 41 || a.k == 42) && isIt a))) = true
 rcases h2 with h | ⟨h, h'⟩
 ·rw [h]; rfl
 ·rw [h']
  rcases h with h | h <;> rw [h] <;> simp

theorem import_any (t : Bs) (n : Int) (l : List Tr) (B : Nat) (v : Value) (w : World) (h : NodeAt B w v (.mk 60 t n l)) : Calls Tryz.prog 53 #[v] w (Snd (isImport (.mk 60 t n l) = true) w) := by
 by_cases hn : n = 0 ∨ n = 1
 ·exact import_round n hn t l B v w h
 obtain ⟨sl, rfl, hks, hkr, hnr, htl⟩ := id h.open
 have xx : Fx w (w.alloc (.cells #[.int .i64 60, .string (sv t), .int .i64 n, sl] 24)) := Ext.alloc _ _ _
 obtain ⟨c0, c1, c2, c3⟩ := nd_cells w 60 n (sv t) sl
 have h0 : ¬ n = 0 := fun h => hn (.inl h)
 have h1 : ¬ n = 1 := fun h => hn (.inr h)
 have h2 : (n != 0) = true := by simpa using h0
 have h3 : (n != 1) = true := by simpa using h1
 clear h hks hkr hnr hn
 simp only [nv, Tr.k, Tr.t, Tr.n] at htl ⊢
 go_enter Tryz.func53, Tryz.ntmps53
 go_wp2_with (go_at_call 43; refine (valid_any t _ htl).mono ?_; rintro e w43 ⟨_ | _, rfl, hb43, z_⟩ <;> replace hb43 := hid hb43 <;> (replace xx := xx.of_eq z_; replace ⟨c0, c1, c2, c3⟩ := F4 z_ c0 c1 c2 c3))
 all_goals
  go_ret
  exact .no xx

theorem item_42 (t : Bs) (n : Int) (l : List Tr) (B : Nat) (v : Value) (w : World) (h : NodeAt B w v (.mk 42 t n l)) : Calls Tryz.prog 21 #[v] w (Snd (isItem (.mk 42 t n l) = true) w) := by
 have hsv := sv_list
 obtain ⟨p, c, rfl, hks, hkr, hnr, htl, hcp, hkid, xw, C, hd, hk⟩ := hR h
 have xx := xw
 obtain ⟨c0, c1, c2, c3⟩ := C.out
 have K := hid hkid
 have hll := hid hcp.2
 clear h hks hkid hcp hkr hnr
 simp only [nv, Tr.k, Tr.t, Tr.n] at hd ⊢
 go_enter Tryz.func21, Tryz.ntmps21
 go_wp2_with (go_at_call 24; refine (class_any _ B _ _ hd.out).mono ?_; rintro e w24 ⟨_ | _, rfl, hb24, z_⟩ <;> replace hb24 := hid hb24 <;> (replace xx := xx.of_eq z_))
 all_goals
  go_ret
  first
   | exact .no xx
   | exact .yes (isItem_it (by simp [Tr.k]) (by simp [Tr.k]) (isIt_class rfl (hb24.out (by trivial)))) xx

theorem item_60 (t : Bs) (n : Int) (l : List Tr) (B : Nat) (v : Value) (w : World) (h : NodeAt B w v (.mk 60 t n l)) : Calls Tryz.prog 21 #[v] w (Snd (isItem (.mk 60 t n l) = true) w) := by
 have hsv := sv_list
 obtain ⟨p, c, rfl, hks, hkr, hnr, htl, hcp, hkid, xw, C, hd, hk⟩ := hR h
 have xx := xw
 obtain ⟨c0, c1, c2, c3⟩ := C.out
 have K := hid hkid
 have hll := hid hcp.2
 clear h hks hkid hcp hkr hnr
 simp only [nv, Tr.k, Tr.t, Tr.n] at hd ⊢
 go_enter Tryz.func21, Tryz.ntmps21
 go_wp2_with (go_at_call 53; refine (import_any t n l B _ _ hd.out).mono ?_; rintro e w53 ⟨_ | _, rfl, hb53, z_⟩ <;> replace hb53 := hid hb53 <;> (replace xx := xx.of_eq z_))
 all_goals
  go_ret
  first
   | exact .no xx
   | exact .yes (isItem_it (by simp [Tr.k]) (by simp [Tr.k]) (isIt_import (hb53.out (by trivial)))) xx

theorem item_64 (t : Bs) (n : Int) (l : List Tr) (B : Nat) (v : Value) (w : World) (h : NodeAt B w v (.mk 64 t n l)) : Calls Tryz.prog 21 #[v] w (Snd (isItem (.mk 64 t n l) = true) w) := by
 have hsv := sv_list
 obtain ⟨p, c, rfl, hks, hkr, hnr, htl, hcp, hkid, xw, C, hd, hk⟩ := hR h
 have xx := xw
 obtain ⟨c0, c1, c2, c3⟩ := C.out
 have K := hid hkid
 have hll := hid hcp.2
 clear h hks hkid hcp hkr hnr
 simp only [nv, Tr.k, Tr.t, Tr.n] at hd ⊢
 go_enter Tryz.func21, Tryz.ntmps21
 go_wp2_with (go_at_call 54; refine (from_any t n l B _ _ hd.out).mono ?_; rintro e w54 ⟨_ | _, rfl, hb54, z_⟩ <;> replace hb54 := hid hb54 <;> (replace xx := xx.of_eq z_))
 all_goals
  go_ret
  first
   | exact .no xx
   | exact .yes (isItem_it (by simp [Tr.k]) (by simp [Tr.k]) (isIt_from (hb54.out (by trivial)))) xx

theorem item_46 (t : Bs) (n : Int) (l : List Tr) (B : Nat) (v : Value) (w : World) (h : NodeAt B w v (.mk 46 t n l)) : Calls Tryz.prog 21 #[v] w (Snd (isItem (.mk 46 t n l) = true) w) := by
 have hsv := sv_list
 obtain ⟨p, c, rfl, hks, hkr, hnr, htl, hcp, hkid, xw, C, hd, hk⟩ := hR h
 have xx := xw
 obtain ⟨c0, c1, c2, c3⟩ := C.out
 have K := hid hkid
 have hll := hid hcp.2
 clear h hks hkid hcp hkr hnr
 simp only [nv, Tr.k, Tr.t, Tr.n] at hd ⊢
 by_cases hn : n = 0
 ·subst hn
  by_cases hl1 : l.length = 1
  ·obtain ⟨a, rfl⟩ := kid_one hl1
   obtain ⟨g, o, s0, rfl, hgB, a0, a1, a2, a3, ha⟩ := K.out 0 (by simp)
   simp only [gZ, gS, zM, oM, aZ, lC, lN, zA, Nat.reduceAdd, Nat.reduceMul] at *
   replace ⟨a0, a1, a2, a3⟩ := F4 xw a0 a1 a2 a3
   replace ha := hid (ha.keepF xw)
   simp only [nv] at ha
   clear hl1 K
   go_enter Tryz.func21, Tryz.ntmps21
   go_wp2_with (first
    | (go_at_call 44; refine (id_any t _ htl).mono ?_; rintro e w44 ⟨_ | _, rfl, hb44, z_⟩ <;> replace hb44 := hid hb44 <;> (replace xx := xx.of_eq z_; replace ⟨c0, c1, c2, c3⟩ := F4 z_ c0 c1 c2 c3; replace ⟨a0, a1, a2, a3⟩ := F4 z_ a0 a1 a2 a3; replace hd := hid (hd.out.keepF z_); replace hk := hid (hk.out.keepF z_); replace ha := hid (ha.out.keepF z_)))
    | (go_at_call 19; refine (type_all (cnt a + 1) a (by omega) B _ _ ha.out).mono ?_; rintro e w19 ⟨_ | _, rfl, hb19, z_⟩ <;> replace hb19 := hid hb19 <;> (replace xx := xx.of_eq z_; )))
   all_goals
    go_ret
    first
     | exact .no xx
     | exact .yes (isItem_it (by simp [Tr.k]) (by simp [Tr.k]) (isIt_alias (hb44.out (by trivial)) (hb19.out (by trivial)))) xx
  ·have hl2 : ¬ (l.length : Int) = 1 := by omega
   have hl3 : ((l.length : Int) == 1) = false := by simpa using hl2
   clear hl1
   go_enter Tryz.func21, Tryz.ntmps21
   go_wp2_with (go_at_call 44; refine (id_any t _ htl).mono ?_; rintro e w44 ⟨_ | _, rfl, hb44, z_⟩ <;> replace hb44 := hid hb44 <;> (replace xx := xx.of_eq z_; replace ⟨c0, c1, c2, c3⟩ := F4 z_ c0 c1 c2 c3; replace hd := hid (hd.out.keepF z_); replace hk := hid (hk.out.keepF z_)))
   all_goals
    go_ret
    first
     | exact .no xx
 ·skip
  go_enter Tryz.func21, Tryz.ntmps21
  go_wp2_with (go_at_call 44; refine (id_any t _ htl).mono ?_; rintro e w44 ⟨_ | _, rfl, hb44, z_⟩ <;> replace hb44 := hid hb44 <;> (replace xx := xx.of_eq z_; replace ⟨c0, c1, c2, c3⟩ := F4 z_ c0 c1 c2 c3; replace hd := hid (hd.out.keepF z_); replace hk := hid (hk.out.keepF z_)))
  all_goals
   go_ret
   first
    | exact .no xx

theorem item_stmt (k : Int) (t : Bs) (n : Int) (l : List Tr) (h1 : ¬ k = 42) (h2 : ¬ k = 46) (h3 : ¬ k = 60) (h4 : ¬ k = 62) (h5 : ¬ k = 63) (h6 : ¬ k = 64) (B : Nat) (v : Value) (w : World) (h : NodeAt B w v (.mk k t n l)) : Calls Tryz.prog 21 #[v] w (Snd (isItem (.mk k t n l) = true) w) := by
 obtain ⟨sl, rfl, hks, hkr, hnr, htl⟩ := id h.open
 have xx : Fx w (w.alloc (.cells #[.int .i64 k, .string (sv t), .int .i64 n, sl] 24)) := Ext.alloc _ _ _
 obtain ⟨c0, c1, c2, c3⟩ := nd_cells w k n (sv t) sl
 have hd := hid (h.keepF xx)
 clear h hks hkr hnr htl
 simp only [nv, Tr.k, Tr.t, Tr.n] at hd ⊢
 have H := hid (fun (hs : isS (.mk k t n l) = true) => isItem_it (x := .mk k t n l) h4 h5 (isIt_stmt h1 h2 h3 h6 hs))
 go_enter Tryz.func21, Tryz.ntmps21
 go_wp2_with (go_at_call 20; refine (stmt_all _ B _ _ hd.out).mono ?_; rintro e w20 ⟨b, rfl, hb20, z_⟩ <;> replace hb20 := hid hb20 <;> (replace xx := xx.of_eq z_))
 go_ret
 exact ⟨b, rfl, fun hh => H.out (hb20.out hh), xx⟩

theorem item_it (x : Tr) (h62 : ¬ x.k = 62) (h63 : ¬ x.k = 63) (B : Nat) (v : Value) (w : World) (h : NodeAt B w v x) : Calls Tryz.prog 21 #[v] w (Snd (isIt x = true) w) := by
 have key : Calls Tryz.prog 21 #[v] w (Snd (isItem x = true) w) := by
  obtain ⟨k, t, n, l⟩ := x
  by_cases h1 : k = 42
  ·subst h1; exact item_42 t n l B v w h
  by_cases h2 : k = 46
  ·subst h2; exact item_46 t n l B v w h
  by_cases h3 : k = 60
  ·subst h3; exact item_60 t n l B v w h
  by_cases h6 : k = 64
  ·subst h6; exact item_64 t n l B v w h
  exact item_stmt k t n l h1 h2 h3 h62 h63 h6 B v w h
 exact key.mono fun _ _ ⟨b, e, q, r⟩ => ⟨b, e, fun hb => by have := q hb; unfold isItem at this; rw [if_neg h62, if_neg h63] at this; exact this, r⟩

theorem item_62 (t : Bs) (n : Int) (l : List Tr) (B : Nat) (v : Value) (w : World) (h : NodeAt B w v (.mk 62 t n l)) : Calls Tryz.prog 21 #[v] w (Snd (isItem (.mk 62 t n l) = true) w) := by
 have hsv := sv_list
 obtain ⟨p, c, rfl, hks, hkr, hnr, htl, hcp, hkid, xw, C, hd, hk⟩ := hR h
 have xx := xw
 obtain ⟨c0, c1, c2, c3⟩ := C.out
 have K := hid hkid
 have hll := hid hcp.2
 clear h hks hkid hcp hkr hnr
 simp only [nv, Tr.k, Tr.t, Tr.n] at hd ⊢
 by_cases hl1 : l.length = 1
 ·obtain ⟨a, rfl⟩ := kid_one hl1
  obtain ⟨g, o, s0, rfl, hgB, a0, a1, a2, a3, ha⟩ := K.out 0 (by simp)
  simp only [gZ, gS, zM, oM, aZ, lC, lN, zA, Nat.reduceAdd, Nat.reduceMul] at *
  replace ⟨a0, a1, a2, a3⟩ := F4 xw a0 a1 a2 a3
  replace ha := hid (ha.keepF xw)
  simp only [nv] at ha
  clear hl1 K
  obtain ⟨ak, atx, an, al⟩ := a
  simp only [Tr.k, Tr.t, Tr.n] at *
  by_cases h6 : ak = 40 ∨ ak = 41 ∨ ak = 42 ∨ ak = 46
  ·rcases h6 with rfl | rfl | rfl | rfl
   all_goals
    go_enter Tryz.func21, Tryz.ntmps21
    go_wp2_with (first
     | (go_at_call 22; refine (plain_any B _ _ _ hd.out).mono ?_; rintro e w22 ⟨rfl, z_⟩; replace xx := xx.of_eq z_; replace ⟨c0, c1, c2, c3⟩ := F4 z_ c0 c1 c2 c3; replace ⟨a0, a1, a2, a3⟩ := F4 z_ a0 a1 a2 a3; replace hd := hid (hd.out.keepF z_); replace hk := hid (hk.out.keepF z_); replace ha := hid (ha.out.keepF z_))
     | (go_at_call 21; refine (item_it _ (by simp [Tr.k]) (by simp [Tr.k]) B _ _ ha.out).mono ?_; rintro e w21 ⟨_ | _, rfl, hb21, z_⟩ <;> replace hb21 := hid hb21 <;> (replace xx := xx.of_eq z_; )))
    all_goals
     go_ret
     first
      | exact .no xx
      | exact .yes (isItem_62 (by assumption) (by simp [Tr.k]) (hb21.out (by trivial))) xx
  ·have hk1 : ¬ ak = 40 := fun h => h6 (.inl h)
   have hk2 : ¬ ak = 41 := fun h => h6 (.inr (.inl h))
   have hk3 : ¬ ak = 42 := fun h => h6 (.inr (.inr (.inl h)))
   have hk4 : ¬ ak = 46 := fun h => h6 (.inr (.inr (.inr h)))
   have hb1 : (ak == 40) = false := by simpa using hk1
   have hb2 : (ak == 41) = false := by simpa using hk2
   have hb3 : (ak == 42) = false := by simpa using hk3
   have hb4 : (ak == 46) = false := by simpa using hk4
   clear h6
   go_enter Tryz.func21, Tryz.ntmps21
   go_wp2_with (go_at_call 22; refine (plain_any B _ _ _ hd.out).mono ?_; rintro e w22 ⟨rfl, z_⟩; replace xx := xx.of_eq z_; replace ⟨c0, c1, c2, c3⟩ := F4 z_ c0 c1 c2 c3; replace ⟨a0, a1, a2, a3⟩ := F4 z_ a0 a1 a2 a3; replace hd := hid (hd.out.keepF z_); replace hk := hid (hk.out.keepF z_); replace ha := hid (ha.out.keepF z_))
   all_goals
    go_ret
    first
     | exact .no xx
 ·have hl2 : ¬ (l.length : Int) = 1 := by omega
  have hl3 : ((l.length : Int) == 1) = false := by simpa using hl2
  clear hl1
  go_enter Tryz.func21, Tryz.ntmps21
  go_wp2_with (go_at_call 22; refine (plain_any B _ _ _ hd.out).mono ?_; rintro e w22 ⟨rfl, z_⟩; replace xx := xx.of_eq z_; replace ⟨c0, c1, c2, c3⟩ := F4 z_ c0 c1 c2 c3; replace hd := hid (hd.out.keepF z_); replace hk := hid (hk.out.keepF z_))
  all_goals
   go_ret
   first
    | exact .no xx

theorem item_63 (t : Bs) (n : Int) (l : List Tr) (B : Nat) (v : Value) (w : World) (h : NodeAt B w v (.mk 63 t n l)) : Calls Tryz.prog 21 #[v] w (Snd (isItem (.mk 63 t n l) = true) w) := by
 have hsv := sv_list
 obtain ⟨p, c, rfl, hks, hkr, hnr, htl, hcp, hkid, xw, C, hd, hk⟩ := hR h
 have xx := xw
 obtain ⟨c0, c1, c2, c3⟩ := C.out
 have K := hid hkid
 have hll := hid hcp.2
 clear h hks hkid hcp hkr hnr
 simp only [nv, Tr.k, Tr.t, Tr.n] at hd ⊢
 by_cases hl1 : l.length = 1
 ·obtain ⟨a, rfl⟩ := kid_one hl1
  obtain ⟨g, o, s0, rfl, hgB, a0, a1, a2, a3, ha⟩ := K.out 0 (by simp)
  simp only [gZ, gS, zM, oM, aZ, lC, lN, zA, Nat.reduceAdd, Nat.reduceMul] at *
  replace ⟨a0, a1, a2, a3⟩ := F4 xw a0 a1 a2 a3
  replace ha := hid (ha.keepF xw)
  simp only [nv] at ha
  clear hl1 K
  obtain ⟨ak, atx, an, al⟩ := a
  simp only [Tr.k, Tr.t, Tr.n] at *
  by_cases h6 : ak = 41 ∨ ak = 42
  ·rcases h6 with rfl | rfl
   all_goals
    go_enter Tryz.func21, Tryz.ntmps21
    go_wp2_with (first
     | ((first | (go_at_call 22; refine (plain_any B _ _ _ hd.out).mono ?_; rintro e w22 ⟨rfl, z_⟩) | (go_at_call 18; refine (expr_all _ B _ _ ha.out).mono ?_; rintro e w18 ⟨_ | _, rfl, hb18, z_⟩ <;> replace hb18 := hid hb18)) <;> (replace xx := xx.of_eq z_; replace ⟨c0, c1, c2, c3⟩ := F4 z_ c0 c1 c2 c3; replace ⟨a0, a1, a2, a3⟩ := F4 z_ a0 a1 a2 a3; replace hd := hid (hd.out.keepF z_); replace hk := hid (hk.out.keepF z_); replace ha := hid (ha.out.keepF z_)))
     | (go_at_call 21; refine (item_it _ (by simp [Tr.k]) (by simp [Tr.k]) B _ _ ha.out).mono ?_; rintro e w21 ⟨_ | _, rfl, hb21, z_⟩ <;> replace hb21 := hid hb21 <;> (replace xx := xx.of_eq z_; )))
    all_goals
     go_ret
     first
      | exact .no xx
      | exact .yes (isItem_63 (by assumption) (.inl (hb18.out (by trivial)))) xx
      | exact .yes (isItem_63 (by assumption) (.inr ⟨by simp [Tr.k], hb21.out (by trivial)⟩)) xx
  ·have hk2 : ¬ ak = 41 := fun h => h6 (.inl h)
   have hk3 : ¬ ak = 42 := fun h => h6 (.inr h)
   have hb2 : (ak == 41) = false := by simpa using hk2
   have hb3 : (ak == 42) = false := by simpa using hk3
   clear h6
   go_enter Tryz.func21, Tryz.ntmps21
   go_wp2_with ((first | (go_at_call 22; refine (plain_any B _ _ _ hd.out).mono ?_; rintro e w22 ⟨rfl, z_⟩) | (go_at_call 18; refine (expr_all _ B _ _ ha.out).mono ?_; rintro e w18 ⟨_ | _, rfl, hb18, z_⟩ <;> replace hb18 := hid hb18)) <;> (replace xx := xx.of_eq z_; replace ⟨c0, c1, c2, c3⟩ := F4 z_ c0 c1 c2 c3; replace ⟨a0, a1, a2, a3⟩ := F4 z_ a0 a1 a2 a3; replace hd := hid (hd.out.keepF z_); replace hk := hid (hk.out.keepF z_); replace ha := hid (ha.out.keepF z_)))
   all_goals
    go_ret
    first
     | exact .no xx
     | exact .yes (isItem_63 (by assumption) (.inl (hb18.out (by trivial)))) xx
 ·have hl2 : ¬ (l.length : Int) = 1 := by omega
  have hl3 : ((l.length : Int) == 1) = false := by simpa using hl2
  clear hl1
  go_enter Tryz.func21, Tryz.ntmps21
  go_wp2_with (go_at_call 22; refine (plain_any B _ _ _ hd.out).mono ?_; rintro e w22 ⟨rfl, z_⟩; replace xx := xx.of_eq z_; replace ⟨c0, c1, c2, c3⟩ := F4 z_ c0 c1 c2 c3; replace hd := hid (hd.out.keepF z_); replace hk := hid (hk.out.keepF z_))
  all_goals
   go_ret
   first
    | exact .no xx

theorem item_all (x : Tr) (B : Nat) (v : Value) (w : World) (h : NodeAt B w v x) : Calls Tryz.prog 21 #[v] w (Snd (isItem x = true) w) := by
 by_cases h1 : x.k = 62
 ·obtain ⟨k, t, n, l⟩ := x
  simp only [Tr.k] at h1
  subst h1
  exact item_62 t n l B v w h
 by_cases h2 : x.k = 63
 ·obtain ⟨k, t, n, l⟩ := x
  simp only [Tr.k] at h2
  subst h2
  exact item_63 t n l B v w h
 exact (item_it x h1 h2 B v w h).mono fun _ _ ⟨b, e, q, r⟩ => ⟨b, e, fun hb => isItem_it h1 h2 (q hb), r⟩

set_option maxRecDepth 20000
set_option maxHeartbeats 8000000

/-- What Form answers: a form that the tree has, or 0. -/
def FormP (x : Tr) (w : World) (e : Ending) (w' : World) : Prop := ∃ f : Int, e = .returned (.int .i64 f) ∧ (f ≠ 0 → FormOk f x) ∧ Fx w w'
theorem FormP.zero (x : Tr) {w w' : World} (h : Fx w w') : FormP x w (.returned (.int .i64 0)) w' := ⟨0, rfl, fun h => absurd rfl h, h⟩
theorem FormP.one {x : Tr} {w w' : World} (hx : isE x = true) (h : Fx w w') : FormP x w (.returned (.int .i64 1)) w' := ⟨1, rfl, fun _ => .inl ⟨rfl, hx⟩, h⟩
theorem FormP.two {x : Tr} {w w' : World} (hx : isT x = true) (h : Fx w w') : FormP x w (.returned (.int .i64 2)) w' := ⟨2, rfl, fun _ => .inr (.inl ⟨rfl, hx⟩), h⟩
theorem FormP.three {x : Tr} {w w' : World} (hx : isS x = true) (h : Fx w w') : FormP x w (.returned (.int .i64 3)) w' := ⟨3, rfl, fun _ => .inr (.inr (.inl ⟨rfl, hx⟩)), h⟩
theorem FormP.four {x : Tr} {w w' : World} (hx : isItem x = true) (h : Fx w w') : FormP x w (.returned (.int .i64 4)) w' := ⟨4, rfl, fun _ => .inr (.inr (.inr (.inl ⟨rfl, hx⟩))), h⟩
theorem FormP.five {x : Tr} {w w' : World} (h1 : x.k = 68) (h2 : plainT x = true) (h3 : x.l.all (fun y => isItem y && !dollar y) = true) (h : Fx w w') : FormP x w (.returned (.int .i64 5)) w' :=
 ⟨5, rfl, fun _ => .inr (.inr (.inr (.inr (.inl ⟨rfl, h1, h2, h3⟩)))), h⟩
theorem FormP.six {x : Tr} {w w' : World} (h1 : x.k = 69) (h2 : plainT x = true) (h3 : x.l.all (fun y => isS y || isClass y || isSpace y) = true) (h : Fx w w') : FormP x w (.returned (.int .i64 6)) w' :=
 ⟨6, rfl, fun _ => .inr (.inr (.inr (.inr (.inr ⟨rfl, h1, h2, h3⟩)))), h⟩
theorem typeX (x : Tr) (B : Nat) (v : Value) (w : World) (h : NodeAt B w v x) : Calls Tryz.prog 19 #[v] w (Snd (isT x = true) w) := type_all (cnt x + 1) x (by omega) B v w h
def okMod (y : Tr) : Bool := isItem y && !dollar y
def okScr (y : Tr) : Bool := isS y || isClass y || isSpace y

theorem okMod_of {y : Tr} (h1 : isItem y = true) (h2 : dollar y = false) : okMod y = true := by unfold okMod; rw [h1, h2]; rfl
theorem okScr_1 {y : Tr} (h1 : isS y = true) : okScr y = true := by unfold okScr; rw [h1]; rfl
theorem okScr_2 {y : Tr} (h1 : isClass y = true) : okScr y = true := by unfold okScr; rw [h1]; simp
theorem okScr_3 {y : Tr} (h1 : isSpace y = true) : okScr y = true := by unfold okScr; rw [h1]; simp

theorem form_68 (t : Bs) (n : Int) (l : List Tr) (B : Nat) (v : Value) (w : World) (h : NodeAt B w v (.mk 68 t n l)) : Calls Tryz.prog 7 #[v] w (FormP (.mk 68 t n l) w) := by
 obtain ⟨p, c, rfl, hks, hkr, hnr, htl, hcp, hkid, xw, C, hd, _⟩ := hR h
 have xx := xw
 have xb : Fx (w.alloc (.cells #[.int .i64 68, .string (sv t), .int .i64 n, .slice p l.length c] 24)) (w.alloc (.cells #[.int .i64 68, .string (sv t), .int .i64 n, .slice p l.length c] 24)) := Ext.refl _ _
 obtain ⟨c0, c1, c2, c3⟩ := C.out
 have K := hid hkid
 have hll := hid hcp.2
 clear h hks hkid hcp hkr hnr
 simp only [nv, Tr.k, Tr.t, Tr.n] at hd ⊢
 cases hpl0 : plainT (Tr.mk 68 t n l)
 ·go_enter Tryz.func7, Tryz.ntmps7
  go_wp2_with ((first | (go_at_call 18; refine (expr_all _ B _ _ hd.out).mono ?_; rintro e w18 ⟨_ | _, rfl, hb18, z_⟩ <;> replace hb18 := hid hb18) | (go_at_call 19; refine (typeX _ B _ _ hd.out).mono ?_; rintro e w19 ⟨_ | _, rfl, hb19, z_⟩ <;> replace hb19 := hid hb19) | (go_at_call 20; refine (stmt_all _ B _ _ hd.out).mono ?_; rintro e w20 ⟨_ | _, rfl, hb20, z_⟩ <;> replace hb20 := hid hb20) | (go_at_call 21; refine (item_all _ B _ _ hd.out).mono ?_; rintro e w21 ⟨_ | _, rfl, hb21, z_⟩ <;> replace hb21 := hid hb21) | (go_at_call 22; refine (plain_any B _ _ _ hd.out).mono ?_; rintro e w22 ⟨rfl, z_⟩)) <;> (replace xx := xx.of_eq z_; replace xb := xb.of_eq z_; replace ⟨c0, c1, c2, c3⟩ := F4 z_ c0 c1 c2 c3; replace hd := hid (hd.out.keepF z_)))
  all_goals first
   | (go_ret; exact .one (hb18.out (by trivial)) xx)
   | (go_ret; exact .two (hb19.out (by trivial)) xx)
   | (go_ret; exact .three (hb20.out (by trivial)) xx)
   | (go_ret; exact .four (hb21.out (by trivial)) xx)
   | (go_ret; exact .zero _ xx)
   | skip
 have hpl := hid hpl0
 go_enter Tryz.func7, Tryz.ntmps7
 go_wp2_with ((first | (go_at_call 18; refine (expr_all _ B _ _ hd.out).mono ?_; rintro e w18 ⟨_ | _, rfl, hb18, z_⟩ <;> replace hb18 := hid hb18) | (go_at_call 19; refine (typeX _ B _ _ hd.out).mono ?_; rintro e w19 ⟨_ | _, rfl, hb19, z_⟩ <;> replace hb19 := hid hb19) | (go_at_call 20; refine (stmt_all _ B _ _ hd.out).mono ?_; rintro e w20 ⟨_ | _, rfl, hb20, z_⟩ <;> replace hb20 := hid hb20) | (go_at_call 21; refine (item_all _ B _ _ hd.out).mono ?_; rintro e w21 ⟨_ | _, rfl, hb21, z_⟩ <;> replace hb21 := hid hb21) | (go_at_call 22; refine (plain_any B _ _ _ hd.out).mono ?_; rintro e w22 ⟨rfl, z_⟩)) <;> (replace xx := xx.of_eq z_; replace xb := xb.of_eq z_; replace ⟨c0, c1, c2, c3⟩ := F4 z_ c0 c1 c2 c3; replace hd := hid (hd.out.keepF z_)))
 all_goals first
  | (go_ret; exact .one (hb18.out (by trivial)) xx)
  | (go_ret; exact .two (hb19.out (by trivial)) xx)
  | (go_ret; exact .three (hb20.out (by trivial)) xx)
  | (go_ret; exact .four (hb21.out (by trivial)) xx)
  | (go_ret; exact .zero _ xx)
  | skip
 clear c0 c1 c2 c3 xx hd
 go_loopw [3] (fun i wr => ∃ j : Nat, j ≤ l.length ∧ i = .int .i64 j ∧ Hid ((l.drop j).all okMod = true → l.all okMod = true) ∧ Fx (w.alloc (.cells #[.int .i64 68, .string (sv t), .int .i64 n, .slice p l.length c] 24)) wr) (fun i _ => l.length - (intOf i).toNat)
 case atStart => exact ⟨0, Nat.zero_le _, rfl, hid (fun h => h), xb⟩
 case round =>
  clear xb
  obtain ⟨j, hj, rfl, hinv, x2⟩ := hrel
  have c0 := x2.cellF C.out.1
  have c1 := x2.cellF C.out.2.1
  have c2 := x2.cellF C.out.2.2.1
  have c3 := x2.cellF C.out.2.2.2
  have xx := xw.of_eq x2
  have hj4 : (j : Int) ≤ 4398046511104 := by have := hll.out; omega
  by_cases hlt : j < l.length
  ·skip
   obtain ⟨g, o, s, rfl, hgB, e0, e1, e2, e3, hy⟩ := K.out j hlt
   have hdr := hid (List.drop_eq_getElem_cons hlt)
   generalize l[j] = y at *
   replace ⟨e0, e1, e2, e3⟩ := F4 xx e0 e1 e2 e3
   replace hy := hid (hy.keepF xx)
   simp only [nv] at hy
   go_wp2_with ((first | (go_at_call 21; refine (item_all y B _ _ hy.out).mono ?_; rintro e w21 ⟨_ | _, rfl, hb21, z_⟩ <;> replace hb21 := hid hb21) | (go_at_call 23; refine (dollar_all y B _ _ hy.out).mono ?_; rintro e w23 ⟨_ | _, rfl, hb23, z_⟩ <;> replace hb23 := hid hb23)) <;> (replace xx := xx.of_eq z_; replace x2 := x2.of_eq z_; replace ⟨c0, c1, c2, c3⟩ := F4 z_ c0 c1 c2 c3; replace ⟨e0, e1, e2, e3⟩ := F4 z_ e0 e1 e2 e3; replace hy := hid (hy.out.keepF z_)))
   all_goals first
    | (go_ret; exact .zero _ xx)
    | skip
   all_goals
    have hstep := hid (fun hr : (l.drop (j + 1)).all okMod = true => hinv.out (by
     rw [hdr.out]
     exact all_step (okMod_of (hb21.out (by trivial)) (hb23.out (by trivial))) hr))
    go_roundw
    case rel => exact ⟨j + 1, by omega, by go_num, hstep, x2⟩
    case measure => simp [intOf]; omega
  ·have hfin := hid (show l.all okMod = true from hinv.out (by rw [List.drop_of_length_le (by omega)]; rfl))
   clear hinv
   go_wp2
   go_ret
   exact .five rfl hpl.out hfin.out xx

theorem form_69 (t : Bs) (n : Int) (l : List Tr) (B : Nat) (v : Value) (w : World) (h : NodeAt B w v (.mk 69 t n l)) : Calls Tryz.prog 7 #[v] w (FormP (.mk 69 t n l) w) := by
 obtain ⟨p, c, rfl, hks, hkr, hnr, htl, hcp, hkid, xw, C, hd, _⟩ := hR h
 have xx := xw
 have xb : Fx (w.alloc (.cells #[.int .i64 69, .string (sv t), .int .i64 n, .slice p l.length c] 24)) (w.alloc (.cells #[.int .i64 69, .string (sv t), .int .i64 n, .slice p l.length c] 24)) := Ext.refl _ _
 obtain ⟨c0, c1, c2, c3⟩ := C.out
 have K := hid hkid
 have hll := hid hcp.2
 clear h hks hkid hcp hkr hnr
 simp only [nv, Tr.k, Tr.t, Tr.n] at hd ⊢
 cases hpl0 : plainT (Tr.mk 69 t n l)
 ·go_enter Tryz.func7, Tryz.ntmps7
  go_wp2_with ((first | (go_at_call 18; refine (expr_all _ B _ _ hd.out).mono ?_; rintro e w18 ⟨_ | _, rfl, hb18, z_⟩ <;> replace hb18 := hid hb18) | (go_at_call 19; refine (typeX _ B _ _ hd.out).mono ?_; rintro e w19 ⟨_ | _, rfl, hb19, z_⟩ <;> replace hb19 := hid hb19) | (go_at_call 20; refine (stmt_all _ B _ _ hd.out).mono ?_; rintro e w20 ⟨_ | _, rfl, hb20, z_⟩ <;> replace hb20 := hid hb20) | (go_at_call 21; refine (item_all _ B _ _ hd.out).mono ?_; rintro e w21 ⟨_ | _, rfl, hb21, z_⟩ <;> replace hb21 := hid hb21) | (go_at_call 22; refine (plain_any B _ _ _ hd.out).mono ?_; rintro e w22 ⟨rfl, z_⟩)) <;> (replace xx := xx.of_eq z_; replace xb := xb.of_eq z_; replace ⟨c0, c1, c2, c3⟩ := F4 z_ c0 c1 c2 c3; replace hd := hid (hd.out.keepF z_)))
  all_goals first
   | (go_ret; exact .one (hb18.out (by trivial)) xx)
   | (go_ret; exact .two (hb19.out (by trivial)) xx)
   | (go_ret; exact .three (hb20.out (by trivial)) xx)
   | (go_ret; exact .four (hb21.out (by trivial)) xx)
   | (go_ret; exact .zero _ xx)
   | skip
 have hpl := hid hpl0
 go_enter Tryz.func7, Tryz.ntmps7
 go_wp2_with ((first | (go_at_call 18; refine (expr_all _ B _ _ hd.out).mono ?_; rintro e w18 ⟨_ | _, rfl, hb18, z_⟩ <;> replace hb18 := hid hb18) | (go_at_call 19; refine (typeX _ B _ _ hd.out).mono ?_; rintro e w19 ⟨_ | _, rfl, hb19, z_⟩ <;> replace hb19 := hid hb19) | (go_at_call 20; refine (stmt_all _ B _ _ hd.out).mono ?_; rintro e w20 ⟨_ | _, rfl, hb20, z_⟩ <;> replace hb20 := hid hb20) | (go_at_call 21; refine (item_all _ B _ _ hd.out).mono ?_; rintro e w21 ⟨_ | _, rfl, hb21, z_⟩ <;> replace hb21 := hid hb21) | (go_at_call 22; refine (plain_any B _ _ _ hd.out).mono ?_; rintro e w22 ⟨rfl, z_⟩)) <;> (replace xx := xx.of_eq z_; replace xb := xb.of_eq z_; replace ⟨c0, c1, c2, c3⟩ := F4 z_ c0 c1 c2 c3; replace hd := hid (hd.out.keepF z_)))
 all_goals first
  | (go_ret; exact .one (hb18.out (by trivial)) xx)
  | (go_ret; exact .two (hb19.out (by trivial)) xx)
  | (go_ret; exact .three (hb20.out (by trivial)) xx)
  | (go_ret; exact .four (hb21.out (by trivial)) xx)
  | (go_ret; exact .zero _ xx)
  | skip
 clear c0 c1 c2 c3 xx hd
 go_loopw [4] (fun i wr => ∃ j : Nat, j ≤ l.length ∧ i = .int .i64 j ∧ Hid ((l.drop j).all okScr = true → l.all okScr = true) ∧ Fx (w.alloc (.cells #[.int .i64 69, .string (sv t), .int .i64 n, .slice p l.length c] 24)) wr) (fun i _ => l.length - (intOf i).toNat)
 case atStart => exact ⟨0, Nat.zero_le _, rfl, hid (fun h => h), xb⟩
 case round =>
  clear xb
  obtain ⟨j, hj, rfl, hinv, x2⟩ := hrel
  have c0 := x2.cellF C.out.1
  have c1 := x2.cellF C.out.2.1
  have c2 := x2.cellF C.out.2.2.1
  have c3 := x2.cellF C.out.2.2.2
  have xx := xw.of_eq x2
  have hj4 : (j : Int) ≤ 4398046511104 := by have := hll.out; omega
  by_cases hlt : j < l.length
  ·skip
   obtain ⟨g, o, s, rfl, hgB, e0, e1, e2, e3, hy⟩ := K.out j hlt
   have hdr := hid (List.drop_eq_getElem_cons hlt)
   generalize l[j] = y at *
   replace ⟨e0, e1, e2, e3⟩ := F4 xx e0 e1 e2 e3
   replace hy := hid (hy.keepF xx)
   simp only [nv] at hy
   go_wp2_with ((first | (go_at_call 20; refine (stmt_all y B _ _ hy.out).mono ?_; rintro e w20 ⟨_ | _, rfl, hb20, z_⟩ <;> replace hb20 := hid hb20) | (go_at_call 24; refine (class_any y B _ _ hy.out).mono ?_; rintro e w24 ⟨_ | _, rfl, hb24, z_⟩ <;> replace hb24 := hid hb24) | (go_at_call 25; refine (space_any y B _ _ hy.out).mono ?_; rintro e w25 ⟨_ | _, rfl, hb25, z_⟩ <;> replace hb25 := hid hb25)) <;> (replace xx := xx.of_eq z_; replace x2 := x2.of_eq z_; replace ⟨c0, c1, c2, c3⟩ := F4 z_ c0 c1 c2 c3; replace ⟨e0, e1, e2, e3⟩ := F4 z_ e0 e1 e2 e3; replace hy := hid (hy.out.keepF z_)))
   all_goals first
    | (go_ret; exact .zero _ xx)
    | skip
   all_goals
    have hstep := hid (fun hr : (l.drop (j + 1)).all okScr = true => hinv.out (by
     rw [hdr.out]
     exact all_step (by first | exact okScr_1 (hb20.out (by trivial)) | exact okScr_2 (hb24.out (by trivial)) | exact okScr_3 (hb25.out (by trivial))) hr))
    go_roundw
    case rel => exact ⟨j + 1, by omega, by go_num, hstep, x2⟩
    case measure => simp [intOf]; omega
  ·have hfin := hid (show l.all okScr = true from hinv.out (by rw [List.drop_of_length_le (by omega)]; rfl))
   clear hinv
   go_wp2
   go_ret
   exact .six rfl hpl.out hfin.out xx

theorem form_else (k : Int) (t : Bs) (n : Int) (l : List Tr) (h68 : ¬ k = 68) (h69 : ¬ k = 69) (B : Nat) (v : Value) (w : World) (h : NodeAt B w v (.mk k t n l)) : Calls Tryz.prog 7 #[v] w (FormP (.mk k t n l) w) := by
 obtain ⟨p, c, rfl, hks, hkr, hnr, htl, hcp, hkid, xw, C, hd, _⟩ := hR h
 have xx := xw
 have xb : Fx (w.alloc (.cells #[.int .i64 k, .string (sv t), .int .i64 n, .slice p l.length c] 24)) (w.alloc (.cells #[.int .i64 k, .string (sv t), .int .i64 n, .slice p l.length c] 24)) := Ext.refl _ _
 obtain ⟨c0, c1, c2, c3⟩ := C.out
 have K := hid hkid
 have hll := hid hcp.2
 clear h hks hkid hcp hkr hnr
 simp only [nv, Tr.k, Tr.t, Tr.n] at hd ⊢
 go_enter Tryz.func7, Tryz.ntmps7
 go_wp2_with ((first | (go_at_call 18; refine (expr_all _ B _ _ hd.out).mono ?_; rintro e w18 ⟨_ | _, rfl, hb18, z_⟩ <;> replace hb18 := hid hb18) | (go_at_call 19; refine (typeX _ B _ _ hd.out).mono ?_; rintro e w19 ⟨_ | _, rfl, hb19, z_⟩ <;> replace hb19 := hid hb19) | (go_at_call 20; refine (stmt_all _ B _ _ hd.out).mono ?_; rintro e w20 ⟨_ | _, rfl, hb20, z_⟩ <;> replace hb20 := hid hb20) | (go_at_call 21; refine (item_all _ B _ _ hd.out).mono ?_; rintro e w21 ⟨_ | _, rfl, hb21, z_⟩ <;> replace hb21 := hid hb21) | (go_at_call 22; refine (plain_any B _ _ _ hd.out).mono ?_; rintro e w22 ⟨rfl, z_⟩)) <;> (replace xx := xx.of_eq z_; replace xb := xb.of_eq z_; replace ⟨c0, c1, c2, c3⟩ := F4 z_ c0 c1 c2 c3; replace hd := hid (hd.out.keepF z_)))
 all_goals
  go_ret
  first
   | exact .one (hb18.out (by trivial)) xx
   | exact .two (hb19.out (by trivial)) xx
   | exact .three (hb20.out (by trivial)) xx
   | exact .four (hb21.out (by trivial)) xx
   | exact .zero _ xx

theorem form_any (x : Tr) (B : Nat) (v : Value) (w : World) (h : NodeAt B w v x) : Calls Tryz.prog 7 #[v] w (FormP x w) := by
 obtain ⟨k, t, n, l⟩ := x
 by_cases h1 : k = 68
 ·subst h1; exact form_68 t n l B v w h
 by_cases h2 : k = 69
 ·subst h2; exact form_69 t n l B v w h
 exact form_else k t n l h1 h2 B v w h

end Go.Proofs.YtpmlmpibpmoclaaGreatDoor
