/-
  The document's answer on trees: statements, and all expressions.
-/
import Derived.Test.YtpmlmpibpmoclaaGreatDoorR6
namespace Go.Proofs.YtpmlmpibpmoclaaGreatDoor
set_option linter.all false
set_option maxRecDepth 20000
set_option maxHeartbeats 4000000
open Go.RowKit

theorem isS_40 {t : Bs} {n : Int} {a b : Tr} (h1 : isId t = true) (h2 : n = 0 ∨ n = 1) (h3 : isTyOr a = true) (h4 : isE b = true) : isS (.mk 40 t n [a, b]) = true := by
 unfold isS; simp_all
theorem isS_41 {t : Bs} {l : List Tr} (h1 : isId t = true) (h3 : isBody l = true) : isS (.mk 41 t 0 l) = true := by
 obtain ⟨p, ty, bk, bt, bn, bl, rfl, h5, h6, h7⟩ := isBody_e h3
 unfold isS
 simp_all
theorem isS_47 {k : Int} {t : Bs} {n : Int} {a : Tr} (hk : k = 47 ∨ k = 51) (h1 : plainT (.mk k t n [a]) = true) (h3 : isE a = true) : isS (.mk k t n [a]) = true := by
 rcases hk with rfl | rfl <;> unfold isS <;> simp_all [plainT, Tr.n, Tr.t]
theorem isS_48 {t : Bs} {n : Int} {a b q : Tr} (h1 : plainT (.mk 48 t n [a, b, q]) = true) (h3 : isE a = true) (h4 : isBlk b = true) (h5 : isNone q = true ∨ isBlk q = true) : isS (.mk 48 t n [a, b, q]) = true := by
 obtain ⟨bk, bt, bn, bl⟩ := b
 obtain ⟨ck, ct, cn, cl⟩ := q
 have h6 := isS_blk h4
 have h7 : (isNone (.mk ck ct cn cl) || (ck == 52 && (allS cl && (ct == [] && cn == 0)))) = true := by
  rcases h5 with h | h
  ·rw [h]; rfl
  ·rw [isS_blk h]; simp
 unfold isS
 simp only [plainT, Tr.n, Tr.t] at h1
 simp_all
theorem isS_49 {t : Bs} {n : Int} {a b : Tr} (h1 : plainT (.mk 49 t n [a, b]) = true) (h3 : isE a = true) (h4 : isBlk b = true) : isS (.mk 49 t n [a, b]) = true := by
 obtain ⟨bk, bt, bn, bl⟩ := b
 have h6 := isS_blk h4
 unfold isS
 simp only [plainT, Tr.n, Tr.t] at h1
 simp_all
theorem isS_50 {t : Bs} {n : Int} {a : Tr} (h1 : plainT (.mk 50 t n [a]) = true) (h3 : isNone a = true ∨ isE a = true) : isS (.mk 50 t n [a]) = true := by
 unfold isS
 simp_all [plainT, Tr.n, Tr.t]
theorem isS_52 {t : Bs} {n : Int} {l : List Tr} (h1 : plainT (.mk 52 t n l) = true) (h3 : allS l = true) : isS (.mk 52 t n l) = true := by
 unfold isS
 simp_all [plainT, Tr.n, Tr.t]
theorem allS_step {y : Tr} {r : List Tr} (h1 : isS y = true) (h : allS r = true) : allS (y :: r) = true := by simp [allS, h1, h]

theorem stmt_40 {N : Nat} (ih : ExprC N) (t : Bs) (n : Int) (l : List Tr) (hx : cnts l < N) (B : Nat) (v : Value) (w : World) (h : NodeAt B w v (.mk 40 t n l)) : Calls Tryz.prog 20 #[v] w (Snd (isS (.mk 40 t n l) = true) w) := by
 have hsv := sv_list
 obtain ⟨p, c, rfl, hks, hkr, hnr, htl, hcp, hkid, xw, C, hd, hk⟩ := hR h
 have xx := xw
 obtain ⟨c0, c1, c2, c3⟩ := C.out
 have K := hid hkid
 have hll := hid hcp.2
 clear h hks hkid hcp hkr hnr
 simp only [nv, Tr.k, Tr.t, Tr.n] at hd ⊢
 have hcn := hid hx
 clear hx
 by_cases hn : n = 0
 ·subst hn
  by_cases hl1 : l.length = 2
  ·obtain ⟨a, b, rfl⟩ := kid_two hl1
   have hnb := hid (show cnt b < N from by have := hcn.out; simp [cnts] at this; omega)
   obtain ⟨g, o, s0, rfl, hgB, a0, a1, a2, a3, ha⟩ := K.out 0 (by simp)
   obtain ⟨g1, o1, s1, hgo, hgB1, b0, b1, b2, b3, hb⟩ := K.out 1 (by simp)
   simp only [Option.some.injEq, Addr.mk.injEq, and_true] at hgo
   obtain ⟨rfl, rfl⟩ := hgo
   simp only [gZ, gS, zM, oM, aZ, lC, lN, zA, Nat.reduceAdd, Nat.reduceMul] at *
   replace ⟨a0, a1, a2, a3⟩ := F4 xw a0 a1 a2 a3
   replace ha := hid (ha.keepF xw)
   simp only [nv] at ha
   replace ⟨b0, b1, b2, b3⟩ := F4 xw b0 b1 b2 b3
   replace hb := hid (hb.keepF xw)
   simp only [nv] at hb
   clear hl1 K
   go_enter Tryz.func20, Tryz.ntmps20
   go_wp2_with (first
    | ((first | (go_at_call 44; refine (id_any t _ htl).mono ?_; rintro e w44 ⟨_ | _, rfl, hb44, z_⟩ <;> replace hb44 := hid hb44) | (go_at_call 50; refine (typeOr_all a B _ _ ha.out).mono ?_; rintro e w50 ⟨_ | _, rfl, hb50, z_⟩ <;> replace hb50 := hid hb50)) <;> (replace xx := xx.of_eq z_; replace ⟨c0, c1, c2, c3⟩ := F4 z_ c0 c1 c2 c3; replace ⟨a0, a1, a2, a3⟩ := F4 z_ a0 a1 a2 a3; replace ⟨b0, b1, b2, b3⟩ := F4 z_ b0 b1 b2 b3; replace hd := hid (hd.out.keepF z_); replace hk := hid (hk.out.keepF z_); replace ha := hid (ha.out.keepF z_); replace hb := hid (hb.out.keepF z_)))
    | (go_at_call 18; refine (ih b hnb.out B _ _ hb.out).mono ?_; rintro e w18 ⟨_ | _, rfl, hb18, z_⟩ <;> replace hb18 := hid hb18 <;> (replace xx := xx.of_eq z_; )))
   all_goals
    go_ret
    first
     | exact .no xx
     | exact .yes (isS_40 (hb44.out (by trivial)) (.inl rfl) (hb50.out (by trivial)) (hb18.out (by trivial))) xx
  ·have hl2 : ¬ (l.length : Int) = 2 := by omega
   have hl3 : ((l.length : Int) == 2) = false := by simpa using hl2
   clear hl1
   go_enter Tryz.func20, Tryz.ntmps20
   go_wp2_with (go_at_call 44; refine (id_any t _ htl).mono ?_; rintro e w44 ⟨_ | _, rfl, hb44, z_⟩ <;> replace hb44 := hid hb44 <;> (replace xx := xx.of_eq z_; replace ⟨c0, c1, c2, c3⟩ := F4 z_ c0 c1 c2 c3; replace hd := hid (hd.out.keepF z_); replace hk := hid (hk.out.keepF z_)))
   all_goals
    go_ret
    first
     | exact .no xx
 by_cases hn1 : n = 1
 ·subst hn1
  by_cases hl1 : l.length = 2
  ·obtain ⟨a, b, rfl⟩ := kid_two hl1
   have hnb := hid (show cnt b < N from by have := hcn.out; simp [cnts] at this; omega)
   obtain ⟨g, o, s0, rfl, hgB, a0, a1, a2, a3, ha⟩ := K.out 0 (by simp)
   obtain ⟨g1, o1, s1, hgo, hgB1, b0, b1, b2, b3, hb⟩ := K.out 1 (by simp)
   simp only [Option.some.injEq, Addr.mk.injEq, and_true] at hgo
   obtain ⟨rfl, rfl⟩ := hgo
   simp only [gZ, gS, zM, oM, aZ, lC, lN, zA, Nat.reduceAdd, Nat.reduceMul] at *
   replace ⟨a0, a1, a2, a3⟩ := F4 xw a0 a1 a2 a3
   replace ha := hid (ha.keepF xw)
   simp only [nv] at ha
   replace ⟨b0, b1, b2, b3⟩ := F4 xw b0 b1 b2 b3
   replace hb := hid (hb.keepF xw)
   simp only [nv] at hb
   clear hl1 K
   go_enter Tryz.func20, Tryz.ntmps20
   go_wp2_with (first
    | ((first | (go_at_call 44; refine (id_any t _ htl).mono ?_; rintro e w44 ⟨_ | _, rfl, hb44, z_⟩ <;> replace hb44 := hid hb44) | (go_at_call 50; refine (typeOr_all a B _ _ ha.out).mono ?_; rintro e w50 ⟨_ | _, rfl, hb50, z_⟩ <;> replace hb50 := hid hb50)) <;> (replace xx := xx.of_eq z_; replace ⟨c0, c1, c2, c3⟩ := F4 z_ c0 c1 c2 c3; replace ⟨a0, a1, a2, a3⟩ := F4 z_ a0 a1 a2 a3; replace ⟨b0, b1, b2, b3⟩ := F4 z_ b0 b1 b2 b3; replace hd := hid (hd.out.keepF z_); replace hk := hid (hk.out.keepF z_); replace ha := hid (ha.out.keepF z_); replace hb := hid (hb.out.keepF z_)))
    | (go_at_call 18; refine (ih b hnb.out B _ _ hb.out).mono ?_; rintro e w18 ⟨_ | _, rfl, hb18, z_⟩ <;> replace hb18 := hid hb18 <;> (replace xx := xx.of_eq z_; )))
   all_goals
    go_ret
    first
     | exact .no xx
     | exact .yes (isS_40 (hb44.out (by trivial)) (.inr rfl) (hb50.out (by trivial)) (hb18.out (by trivial))) xx
  ·have hl2 : ¬ (l.length : Int) = 2 := by omega
   have hl3 : ((l.length : Int) == 2) = false := by simpa using hl2
   clear hl1
   go_enter Tryz.func20, Tryz.ntmps20
   go_wp2_with (go_at_call 44; refine (id_any t _ htl).mono ?_; rintro e w44 ⟨_ | _, rfl, hb44, z_⟩ <;> replace hb44 := hid hb44 <;> (replace xx := xx.of_eq z_; replace ⟨c0, c1, c2, c3⟩ := F4 z_ c0 c1 c2 c3; replace hd := hid (hd.out.keepF z_); replace hk := hid (hk.out.keepF z_)))
   all_goals
    go_ret
    first
     | exact .no xx
 ·skip
  go_enter Tryz.func20, Tryz.ntmps20
  go_wp2_with (go_at_call 44; refine (id_any t _ htl).mono ?_; rintro e w44 ⟨_ | _, rfl, hb44, z_⟩ <;> replace hb44 := hid hb44 <;> (replace xx := xx.of_eq z_; replace ⟨c0, c1, c2, c3⟩ := F4 z_ c0 c1 c2 c3; replace hd := hid (hd.out.keepF z_); replace hk := hid (hk.out.keepF z_)))
  all_goals
   go_ret
   first
    | exact .no xx

theorem stmt_41 {N : Nat} (ihs : StmtC N) (t : Bs) (n : Int) (l : List Tr) (hx : cnts l < N) (B : Nat) (v : Value) (w : World) (h : NodeAt B w v (.mk 41 t n l)) : Calls Tryz.prog 20 #[v] w (Snd (isS (.mk 41 t n l) = true) w) := by
 have hsv := sv_list
 obtain ⟨p, c, rfl, hks, hkr, hnr, htl, hcp, hkid, xw, C, hd, hk⟩ := hR h
 have xx := xw
 obtain ⟨c0, c1, c2, c3⟩ := C.out
 have K := hid hkid
 have hll := hid hcp.2
 clear h hks hkid hcp hkr hnr
 simp only [nv, Tr.k, Tr.t, Tr.n] at hd ⊢
 have hcn := hid hx
 clear hx
 by_cases hn : n = 0
 ·subst hn
  go_enter Tryz.func20, Tryz.ntmps20
  go_wp2_with ((first | (go_at_call 44; refine (id_any t _ htl).mono ?_; rintro e w44 ⟨_ | _, rfl, hb44, z_⟩ <;> replace hb44 := hid hb44) | (go_at_call 47; refine (body_any ihs l hcn.out B _ _ hk.out).mono ?_; rintro e w47 ⟨_ | _, rfl, hb47, z_⟩ <;> replace hb47 := hid hb47)) <;> (replace xx := xx.of_eq z_; replace ⟨c0, c1, c2, c3⟩ := F4 z_ c0 c1 c2 c3; replace hd := hid (hd.out.keepF z_); replace hk := hid (hk.out.keepF z_)))
  all_goals
   go_ret
   first
    | exact .no xx
    | exact .yes (isS_41 (hb44.out (by trivial)) (hb47.out (by trivial))) xx
 ·skip
  go_enter Tryz.func20, Tryz.ntmps20
  go_wp2_with (go_at_call 44; refine (id_any t _ htl).mono ?_; rintro e w44 ⟨_ | _, rfl, hb44, z_⟩ <;> replace hb44 := hid hb44 <;> (replace xx := xx.of_eq z_; replace ⟨c0, c1, c2, c3⟩ := F4 z_ c0 c1 c2 c3; replace hd := hid (hd.out.keepF z_); replace hk := hid (hk.out.keepF z_)))
  all_goals
   go_ret
   first
    | exact .no xx

theorem stmt_47 {N : Nat} (ih : ExprC N) (t : Bs) (n : Int) (l : List Tr) (hx : cnts l < N) (B : Nat) (v : Value) (w : World) (h : NodeAt B w v (.mk 47 t n l)) : Calls Tryz.prog 20 #[v] w (Snd (isS (.mk 47 t n l) = true) w) := by
 have hsv := sv_list
 obtain ⟨p, c, rfl, hks, hkr, hnr, htl, hcp, hkid, xw, C, hd, hk⟩ := hR h
 have xx := xw
 obtain ⟨c0, c1, c2, c3⟩ := C.out
 have K := hid hkid
 have hll := hid hcp.2
 clear h hks hkid hcp hkr hnr
 simp only [nv, Tr.k, Tr.t, Tr.n] at hd ⊢
 have hcn := hid hx
 clear hx
 by_cases hl1 : l.length = 1
 ·obtain ⟨a, rfl⟩ := kid_one hl1
  have hna := hid (show cnt a < N from by have := hcn.out; simp [cnts] at this; omega)
  obtain ⟨g, o, s0, rfl, hgB, a0, a1, a2, a3, ha⟩ := K.out 0 (by simp)
  simp only [gZ, gS, zM, oM, aZ, lC, lN, zA, Nat.reduceAdd, Nat.reduceMul] at *
  replace ⟨a0, a1, a2, a3⟩ := F4 xw a0 a1 a2 a3
  replace ha := hid (ha.keepF xw)
  simp only [nv] at ha
  clear hl1 K
  go_enter Tryz.func20, Tryz.ntmps20
  go_wp2_with (first
   | (go_at_call 22; refine (plain_any B _ _ _ hd.out).mono ?_; rintro e w22 ⟨rfl, z_⟩; replace xx := xx.of_eq z_; replace ⟨c0, c1, c2, c3⟩ := F4 z_ c0 c1 c2 c3; replace ⟨a0, a1, a2, a3⟩ := F4 z_ a0 a1 a2 a3; replace hd := hid (hd.out.keepF z_); replace hk := hid (hk.out.keepF z_); replace ha := hid (ha.out.keepF z_))
   | (go_at_call 18; refine (ih a hna.out B _ _ ha.out).mono ?_; rintro e w18 ⟨_ | _, rfl, hb18, z_⟩ <;> replace hb18 := hid hb18 <;> (replace xx := xx.of_eq z_; )))
  all_goals
   go_ret
   first
    | exact .no xx
    | exact .yes (isS_47 (by decide) (by assumption) (hb18.out (by trivial))) xx
 ·have hl2 : ¬ (l.length : Int) = 1 := by omega
  have hl3 : ((l.length : Int) == 1) = false := by simpa using hl2
  clear hl1
  go_enter Tryz.func20, Tryz.ntmps20
  go_wp2_with (go_at_call 22; refine (plain_any B _ _ _ hd.out).mono ?_; rintro e w22 ⟨rfl, z_⟩; replace xx := xx.of_eq z_; replace ⟨c0, c1, c2, c3⟩ := F4 z_ c0 c1 c2 c3; replace hd := hid (hd.out.keepF z_); replace hk := hid (hk.out.keepF z_))
  all_goals
   go_ret
   first
    | exact .no xx

theorem stmt_51 {N : Nat} (ih : ExprC N) (t : Bs) (n : Int) (l : List Tr) (hx : cnts l < N) (B : Nat) (v : Value) (w : World) (h : NodeAt B w v (.mk 51 t n l)) : Calls Tryz.prog 20 #[v] w (Snd (isS (.mk 51 t n l) = true) w) := by
 have hsv := sv_list
 obtain ⟨p, c, rfl, hks, hkr, hnr, htl, hcp, hkid, xw, C, hd, hk⟩ := hR h
 have xx := xw
 obtain ⟨c0, c1, c2, c3⟩ := C.out
 have K := hid hkid
 have hll := hid hcp.2
 clear h hks hkid hcp hkr hnr
 simp only [nv, Tr.k, Tr.t, Tr.n] at hd ⊢
 have hcn := hid hx
 clear hx
 by_cases hl1 : l.length = 1
 ·obtain ⟨a, rfl⟩ := kid_one hl1
  have hna := hid (show cnt a < N from by have := hcn.out; simp [cnts] at this; omega)
  obtain ⟨g, o, s0, rfl, hgB, a0, a1, a2, a3, ha⟩ := K.out 0 (by simp)
  simp only [gZ, gS, zM, oM, aZ, lC, lN, zA, Nat.reduceAdd, Nat.reduceMul] at *
  replace ⟨a0, a1, a2, a3⟩ := F4 xw a0 a1 a2 a3
  replace ha := hid (ha.keepF xw)
  simp only [nv] at ha
  clear hl1 K
  go_enter Tryz.func20, Tryz.ntmps20
  go_wp2_with (first
   | (go_at_call 22; refine (plain_any B _ _ _ hd.out).mono ?_; rintro e w22 ⟨rfl, z_⟩; replace xx := xx.of_eq z_; replace ⟨c0, c1, c2, c3⟩ := F4 z_ c0 c1 c2 c3; replace ⟨a0, a1, a2, a3⟩ := F4 z_ a0 a1 a2 a3; replace hd := hid (hd.out.keepF z_); replace hk := hid (hk.out.keepF z_); replace ha := hid (ha.out.keepF z_))
   | (go_at_call 18; refine (ih a hna.out B _ _ ha.out).mono ?_; rintro e w18 ⟨_ | _, rfl, hb18, z_⟩ <;> replace hb18 := hid hb18 <;> (replace xx := xx.of_eq z_; )))
  all_goals
   go_ret
   first
    | exact .no xx
    | exact .yes (isS_47 (by decide) (by assumption) (hb18.out (by trivial))) xx
 ·have hl2 : ¬ (l.length : Int) = 1 := by omega
  have hl3 : ((l.length : Int) == 1) = false := by simpa using hl2
  clear hl1
  go_enter Tryz.func20, Tryz.ntmps20
  go_wp2_with (go_at_call 22; refine (plain_any B _ _ _ hd.out).mono ?_; rintro e w22 ⟨rfl, z_⟩; replace xx := xx.of_eq z_; replace ⟨c0, c1, c2, c3⟩ := F4 z_ c0 c1 c2 c3; replace hd := hid (hd.out.keepF z_); replace hk := hid (hk.out.keepF z_))
  all_goals
   go_ret
   first
    | exact .no xx

theorem stmt_48 {N : Nat} (ih : ExprC N) (ihs : StmtC N) (t : Bs) (n : Int) (l : List Tr) (hx : cnts l < N) (B : Nat) (v : Value) (w : World) (h : NodeAt B w v (.mk 48 t n l)) : Calls Tryz.prog 20 #[v] w (Snd (isS (.mk 48 t n l) = true) w) := by
 have hsv := sv_list
 obtain ⟨p, c, rfl, hks, hkr, hnr, htl, hcp, hkid, xw, C, hd, hk⟩ := hR h
 have xx := xw
 obtain ⟨c0, c1, c2, c3⟩ := C.out
 have K := hid hkid
 have hll := hid hcp.2
 clear h hks hkid hcp hkr hnr
 simp only [nv, Tr.k, Tr.t, Tr.n] at hd ⊢
 have hcn := hid hx
 clear hx
 by_cases hl1 : l.length = 3
 ·obtain ⟨a, b, q, rfl⟩ := kid_three hl1
  have hna := hid (show cnt a < N from by have := hcn.out; simp [cnts] at this; omega)
  have hnb := hid (show cnt b < N from by have := hcn.out; simp [cnts] at this; omega)
  have hnq := hid (show cnt q < N from by have := hcn.out; simp [cnts] at this; omega)
  obtain ⟨g, o, s0, rfl, hgB, a0, a1, a2, a3, ha⟩ := K.out 0 (by simp)
  obtain ⟨g1, o1, s1, hgo, hgB1, b0, b1, b2, b3, hb⟩ := K.out 1 (by simp)
  simp only [Option.some.injEq, Addr.mk.injEq, and_true] at hgo
  obtain ⟨rfl, rfl⟩ := hgo
  obtain ⟨g2, o2, s2, hgo, hgB2, q0, q1, q2, q3, hq⟩ := K.out 2 (by simp)
  simp only [Option.some.injEq, Addr.mk.injEq, and_true] at hgo
  obtain ⟨rfl, rfl⟩ := hgo
  simp only [gZ, gS, zM, oM, aZ, lC, lN, zA, Nat.reduceAdd, Nat.reduceMul] at *
  replace ⟨a0, a1, a2, a3⟩ := F4 xw a0 a1 a2 a3
  replace ha := hid (ha.keepF xw)
  simp only [nv] at ha
  replace ⟨b0, b1, b2, b3⟩ := F4 xw b0 b1 b2 b3
  replace hb := hid (hb.keepF xw)
  simp only [nv] at hb
  replace ⟨q0, q1, q2, q3⟩ := F4 xw q0 q1 q2 q3
  replace hq := hid (hq.keepF xw)
  simp only [nv] at hq
  clear hl1 K
  go_enter Tryz.func20, Tryz.ntmps20
  go_wp2_with ((first | (go_at_call 22; refine (plain_any B _ _ _ hd.out).mono ?_; rintro e w22 ⟨rfl, z_⟩) | (go_at_call 18; refine (ih a hna.out B _ _ ha.out).mono ?_; rintro e w18 ⟨_ | _, rfl, hb18, z_⟩ <;> replace hb18 := hid hb18)) <;> (replace xx := xx.of_eq z_; replace ⟨c0, c1, c2, c3⟩ := F4 z_ c0 c1 c2 c3; replace ⟨a0, a1, a2, a3⟩ := F4 z_ a0 a1 a2 a3; replace ⟨b0, b1, b2, b3⟩ := F4 z_ b0 b1 b2 b3; replace ⟨q0, q1, q2, q3⟩ := F4 z_ q0 q1 q2 q3; replace hd := hid (hd.out.keepF z_); replace hk := hid (hk.out.keepF z_); replace ha := hid (ha.out.keepF z_); replace hb := hid (hb.out.keepF z_); replace hq := hid (hq.out.keepF z_)))
  all_goals first
   | (go_ret; exact .no xx)
   | skip
  refine (block_any ihs b hnb.out B _ _ hb.out).mono ?_; rintro e w51b ⟨_ | _, rfl, hb51b, x51b⟩ <;> (replace hb51b := hid hb51b; replace xx := xx.of_eq x51b; replace ⟨q0, q1, q2, q3⟩ := F4 x51b q0 q1 q2 q3; replace hq := hid (hq.out.keepF x51b))
  all_goals
   go_wp2_with (first
    | (go_at_call 52; refine (none_any B q _ _ hq.out).mono ?_; rintro e w52 ⟨rfl, z_⟩; replace xx := xx.of_eq z_; replace ⟨q0, q1, q2, q3⟩ := F4 z_ q0 q1 q2 q3; replace hq := hid (hq.out.keepF z_))
    | (go_at_call 51; refine (block_any ihs q hnq.out B _ _ hq.out).mono ?_; rintro e w51q ⟨_ | _, rfl, hb51q, z_⟩ <;> replace hb51q := hid hb51q <;> (replace xx := xx.of_eq z_; )))
  all_goals
   go_ret
   first
    | exact .no xx
    | exact .yes (isS_48 (by assumption) (hb18.out (by trivial)) (hb51b.out (by trivial)) (.inl (by assumption))) xx
    | exact .yes (isS_48 (by assumption) (hb18.out (by trivial)) (hb51b.out (by trivial)) (.inr (hb51q.out (by trivial)))) xx
 ·have hl2 : ¬ (l.length : Int) = 3 := by omega
  have hl3 : ((l.length : Int) == 3) = false := by simpa using hl2
  clear hl1
  go_enter Tryz.func20, Tryz.ntmps20
  go_wp2_with (go_at_call 22; refine (plain_any B _ _ _ hd.out).mono ?_; rintro e w22 ⟨rfl, z_⟩; replace xx := xx.of_eq z_; replace ⟨c0, c1, c2, c3⟩ := F4 z_ c0 c1 c2 c3; replace hd := hid (hd.out.keepF z_); replace hk := hid (hk.out.keepF z_))
  all_goals
   go_ret
   first
    | exact .no xx

theorem stmt_49 {N : Nat} (ih : ExprC N) (ihs : StmtC N) (t : Bs) (n : Int) (l : List Tr) (hx : cnts l < N) (B : Nat) (v : Value) (w : World) (h : NodeAt B w v (.mk 49 t n l)) : Calls Tryz.prog 20 #[v] w (Snd (isS (.mk 49 t n l) = true) w) := by
 have hsv := sv_list
 obtain ⟨p, c, rfl, hks, hkr, hnr, htl, hcp, hkid, xw, C, hd, hk⟩ := hR h
 have xx := xw
 obtain ⟨c0, c1, c2, c3⟩ := C.out
 have K := hid hkid
 have hll := hid hcp.2
 clear h hks hkid hcp hkr hnr
 simp only [nv, Tr.k, Tr.t, Tr.n] at hd ⊢
 have hcn := hid hx
 clear hx
 by_cases hl1 : l.length = 2
 ·obtain ⟨a, b, rfl⟩ := kid_two hl1
  have hna := hid (show cnt a < N from by have := hcn.out; simp [cnts] at this; omega)
  have hnb := hid (show cnt b < N from by have := hcn.out; simp [cnts] at this; omega)
  obtain ⟨g, o, s0, rfl, hgB, a0, a1, a2, a3, ha⟩ := K.out 0 (by simp)
  obtain ⟨g1, o1, s1, hgo, hgB1, b0, b1, b2, b3, hb⟩ := K.out 1 (by simp)
  simp only [Option.some.injEq, Addr.mk.injEq, and_true] at hgo
  obtain ⟨rfl, rfl⟩ := hgo
  simp only [gZ, gS, zM, oM, aZ, lC, lN, zA, Nat.reduceAdd, Nat.reduceMul] at *
  replace ⟨a0, a1, a2, a3⟩ := F4 xw a0 a1 a2 a3
  replace ha := hid (ha.keepF xw)
  simp only [nv] at ha
  replace ⟨b0, b1, b2, b3⟩ := F4 xw b0 b1 b2 b3
  replace hb := hid (hb.keepF xw)
  simp only [nv] at hb
  clear hl1 K
  go_enter Tryz.func20, Tryz.ntmps20
  go_wp2_with (first
   | ((first | (go_at_call 22; refine (plain_any B _ _ _ hd.out).mono ?_; rintro e w22 ⟨rfl, z_⟩) | (go_at_call 18; refine (ih a hna.out B _ _ ha.out).mono ?_; rintro e w18 ⟨_ | _, rfl, hb18, z_⟩ <;> replace hb18 := hid hb18)) <;> (replace xx := xx.of_eq z_; replace ⟨c0, c1, c2, c3⟩ := F4 z_ c0 c1 c2 c3; replace ⟨a0, a1, a2, a3⟩ := F4 z_ a0 a1 a2 a3; replace ⟨b0, b1, b2, b3⟩ := F4 z_ b0 b1 b2 b3; replace hd := hid (hd.out.keepF z_); replace hk := hid (hk.out.keepF z_); replace ha := hid (ha.out.keepF z_); replace hb := hid (hb.out.keepF z_)))
   | (go_at_call 51; refine (block_any ihs b hnb.out B _ _ hb.out).mono ?_; rintro e w51 ⟨_ | _, rfl, hb51, z_⟩ <;> replace hb51 := hid hb51 <;> (replace xx := xx.of_eq z_; )))
  all_goals
   go_ret
   first
    | exact .no xx
    | exact .yes (isS_49 (by assumption) (hb18.out (by trivial)) (hb51.out (by trivial))) xx
 ·have hl2 : ¬ (l.length : Int) = 2 := by omega
  have hl3 : ((l.length : Int) == 2) = false := by simpa using hl2
  clear hl1
  go_enter Tryz.func20, Tryz.ntmps20
  go_wp2_with (go_at_call 22; refine (plain_any B _ _ _ hd.out).mono ?_; rintro e w22 ⟨rfl, z_⟩; replace xx := xx.of_eq z_; replace ⟨c0, c1, c2, c3⟩ := F4 z_ c0 c1 c2 c3; replace hd := hid (hd.out.keepF z_); replace hk := hid (hk.out.keepF z_))
  all_goals
   go_ret
   first
    | exact .no xx

theorem stmt_50 {N : Nat} (ih : ExprC N) (t : Bs) (n : Int) (l : List Tr) (hx : cnts l < N) (B : Nat) (v : Value) (w : World) (h : NodeAt B w v (.mk 50 t n l)) : Calls Tryz.prog 20 #[v] w (Snd (isS (.mk 50 t n l) = true) w) := by
 have hsv := sv_list
 obtain ⟨p, c, rfl, hks, hkr, hnr, htl, hcp, hkid, xw, C, hd, hk⟩ := hR h
 have xx := xw
 obtain ⟨c0, c1, c2, c3⟩ := C.out
 have K := hid hkid
 have hll := hid hcp.2
 clear h hks hkid hcp hkr hnr
 simp only [nv, Tr.k, Tr.t, Tr.n] at hd ⊢
 have hcn := hid hx
 clear hx
 by_cases hl1 : l.length = 1
 ·obtain ⟨a, rfl⟩ := kid_one hl1
  have hna := hid (show cnt a < N from by have := hcn.out; simp [cnts] at this; omega)
  obtain ⟨g, o, s0, rfl, hgB, a0, a1, a2, a3, ha⟩ := K.out 0 (by simp)
  simp only [gZ, gS, zM, oM, aZ, lC, lN, zA, Nat.reduceAdd, Nat.reduceMul] at *
  replace ⟨a0, a1, a2, a3⟩ := F4 xw a0 a1 a2 a3
  replace ha := hid (ha.keepF xw)
  simp only [nv] at ha
  clear hl1 K
  go_enter Tryz.func20, Tryz.ntmps20
  go_wp2_with (first
   | ((first | (go_at_call 22; refine (plain_any B _ _ _ hd.out).mono ?_; rintro e w22 ⟨rfl, z_⟩) | (go_at_call 52; refine (none_any B a _ _ ha.out).mono ?_; rintro e w52 ⟨rfl, z_⟩)) <;> (replace xx := xx.of_eq z_; replace ⟨c0, c1, c2, c3⟩ := F4 z_ c0 c1 c2 c3; replace ⟨a0, a1, a2, a3⟩ := F4 z_ a0 a1 a2 a3; replace hd := hid (hd.out.keepF z_); replace hk := hid (hk.out.keepF z_); replace ha := hid (ha.out.keepF z_)))
   | (go_at_call 18; refine (ih a hna.out B _ _ ha.out).mono ?_; rintro e w18 ⟨_ | _, rfl, hb18, z_⟩ <;> replace hb18 := hid hb18 <;> (replace xx := xx.of_eq z_; )))
  all_goals
   go_ret
   first
    | exact .no xx
    | exact .yes (isS_50 (by assumption) (.inl (by assumption))) xx
    | exact .yes (isS_50 (by assumption) (.inr (hb18.out (by trivial)))) xx
 ·have hl2 : ¬ (l.length : Int) = 1 := by omega
  have hl3 : ((l.length : Int) == 1) = false := by simpa using hl2
  clear hl1
  go_enter Tryz.func20, Tryz.ntmps20
  go_wp2_with (go_at_call 22; refine (plain_any B _ _ _ hd.out).mono ?_; rintro e w22 ⟨rfl, z_⟩; replace xx := xx.of_eq z_; replace ⟨c0, c1, c2, c3⟩ := F4 z_ c0 c1 c2 c3; replace hd := hid (hd.out.keepF z_); replace hk := hid (hk.out.keepF z_))
  all_goals
   go_ret
   first
    | exact .no xx

theorem stmt_52 {N : Nat} (ihs : StmtC N) (t : Bs) (n : Int) (l : List Tr) (hx : cnts l < N) (B : Nat) (v : Value) (w : World) (h : NodeAt B w v (.mk 52 t n l)) : Calls Tryz.prog 20 #[v] w (Snd (isS (.mk 52 t n l) = true) w) := by
 have hsv := sv_list
 obtain ⟨p, c, rfl, hks, hkr, hnr, htl, hcp, hkid, xw, C, hd, hk⟩ := hR h
 have xx := xw
 obtain ⟨c0, c1, c2, c3⟩ := C.out
 have K := hid hkid
 have hll := hid hcp.2
 clear h hks hkid hcp hkr hnr
 simp only [nv, Tr.k, Tr.t, Tr.n] at hd ⊢
 have hcn := hid hx
 go_enter Tryz.func20, Tryz.ntmps20
 go_wp2
 go_loopw [4] (fun i wr => ∃ j : Nat, j ≤ l.length ∧ i = .int .i64 j ∧ Hid (allS (l.drop j) = true → allS l = true) ∧ Fx (w.alloc (.cells #[.int .i64 52, .string (sv t), .int .i64 n, .slice p l.length c] 24)) wr) (fun i _ => l.length - (intOf i).toNat)
 case atStart => exact ⟨0, Nat.zero_le _, rfl, hid (fun h => h), Ext.refl _ _⟩
 case round =>
  obtain ⟨j, hj, rfl, hinv, x2⟩ := hrel
  replace c0 := x2.cellF C.out.1
  replace c1 := x2.cellF C.out.2.1
  replace c2 := x2.cellF C.out.2.2.1
  replace c3 := x2.cellF C.out.2.2.2
  replace xx := xw.of_eq x2
  have hj4 : (j : Int) ≤ 4398046511104 := by have := hll.out; omega
  by_cases hlt : j < l.length
  ·skip
   obtain ⟨g, o, s, rfl, hgB, e0, e1, e2, e3, hy⟩ := K.out j hlt
   have hcy := hid (show cnt l[j] < N from by have := cnt_get hlt; have := hcn.out; omega)
   have hdr := hid (List.drop_eq_getElem_cons hlt)
   generalize l[j] = y at *
   replace ⟨e0, e1, e2, e3⟩ := F4 xx e0 e1 e2 e3
   replace hy := hid (hy.keepF xx)
   simp only [nv] at hy
   go_wp2_with (go_at_call 20; refine (ihs y hcy.out B _ _ hy.out).mono ?_; rintro e w20 ⟨_ | _, rfl, hb20, x20⟩ <;> (replace hb20 := hid hb20; replace xx := xx.of_eq x20))
   all_goals first
    | (go_ret; exact .no xx)
    | skip
   all_goals
    have hstep := hid (fun hr : allS (l.drop (j + 1)) = true => hinv.out (by rw [hdr.out]; exact allS_step (hb20.out (by trivial)) hr))
    go_roundw
    case rel => exact ⟨j + 1, by omega, by go_num, hstep, x2.of_eq x20⟩
    case measure => simp [intOf]; omega
  ·have hfin := hid (show allS l = true from hinv.out (by rw [List.drop_of_length_le (by omega)]; rfl))
   have hd2 := hid (hd.out.keepF x2)
   clear hinv hd
   go_wp2_with (go_at_call 22; refine (plain_any B _ _ _ hd2.out).mono ?_; rintro e w22 ⟨rfl, z_⟩; replace xx := xx.of_eq z_)
   go_ret
   exact ⟨_, rfl, fun h => isS_52 h hfin.out, xx⟩

theorem stmt_none (k : Int) (t : Bs) (n : Int) (l : List Tr) (h0 : ¬ k = 40) (h1 : ¬ k = 41) (h2 : ¬ k = 47) (h3 : ¬ k = 48) (h4 : ¬ k = 49) (h5 : ¬ k = 50) (h6 : ¬ k = 51) (h7 : ¬ k = 52)
  (B : Nat) (v : Value) (w : World) (h : NodeAt B w v (.mk k t n l)) : Calls Tryz.prog 20 #[v] w (fun e w' => e = .returned (.bool false) ∧ Fx w w') := by
 obtain ⟨sl, rfl, hks, hkr, hnr, htl⟩ := id h.open
 have xw : Fx w (w.alloc (.cells #[.int .i64 k, .string (sv t), .int .i64 n, sl] 24)) := Ext.alloc _ _ _
 obtain ⟨c0, c1, c2, c3⟩ := nd_cells w k n (sv t) sl
 clear h hks hkr hnr htl
 simp only [nv, Tr.k, Tr.t, Tr.n]
 go_enter Tryz.func20, Tryz.ntmps20
 go_wp2
 go_ret
 exact ⟨rfl, xw⟩

theorem expr_stmt : ∀ N, ExprC N ∧ StmtC N := by
 intro N
 induction N with
 | zero => exact ⟨fun x hx => by omega, fun x hx => by omega⟩
 | succ N ih =>
  obtain ⟨ih, ihs⟩ := ih
  refine ⟨fun x hx B v w h => ?_, fun x hx B v w h => ?_⟩
  ·obtain ⟨k, t, n, l⟩ := x
   have hl : cnts l < N := by simp [cnt] at hx; omega
   by_cases h1 : k = 1
   ·subst h1; exact expr_1 t n l B v w h
   by_cases h2 : k = 2
   ·subst h2; exact expr_2 t n l B v w h
   by_cases h3 : k = 3
   ·subst h3; exact expr_3 t n l B v w h
   by_cases h4 : k = 4
   ·subst h4; exact expr_4 t n l B v w h
   by_cases h5 : k = 5
   ·subst h5; exact expr_5 t n l B v w h
   by_cases h6 : k = 6
   ·subst h6; exact expr_6 t n l B v w h
   by_cases h7 : k = 7
   ·subst h7; exact expr_7 t n l B v w h
   by_cases h8 : k = 8
   ·subst h8; exact expr_8 ih t n l hl B v w h
   by_cases h9 : k = 9
   ·subst h9; exact expr_9 ih t n l hl B v w h
   by_cases h15 : k = 15
   ·subst h15; exact expr_15 ih t n l hl B v w h
   by_cases h16 : k = 16
   ·subst h16; exact expr_16 ih t n l hl B v w h
   by_cases h17 : k = 17
   ·subst h17; exact expr_17 ih t n l hl B v w h
   by_cases h18 : k = 18
   ·subst h18; exact expr_18 ih t n l hl B v w h
   by_cases h19 : k = 19
   ·subst h19; exact expr_19 ih t n l hl B v w h
   by_cases h20 : k = 20
   ·subst h20; exact expr_20 ih t n l hl B v w h
   by_cases h21 : k = 21
   ·subst h21; exact expr_21 ih t n l hl B v w h
   by_cases h22 : k = 22
   ·subst h22; exact expr_22 ih t n l hl B v w h
   by_cases h11 : k = 11
   ·subst h11; exact expr_11 ihs t n l hl B v w h
   exact (expr_none k t n l h1 h2 h3 h4 h5 h6 h7 h8 h9 h11 h15 h16 h17 h18 h19 h20 h21 h22 B v w h).mono fun _ _ q => ⟨false, q.1, by simp, q.2⟩
  ·obtain ⟨k, t, n, l⟩ := x
   have hl : cnts l < N := by simp [cnt] at hx; omega
   by_cases h40 : k = 40
   ·subst h40; exact stmt_40 ih t n l hl B v w h
   by_cases h41 : k = 41
   ·subst h41; exact stmt_41 ihs t n l hl B v w h
   by_cases h47 : k = 47
   ·subst h47; exact stmt_47 ih t n l hl B v w h
   by_cases h48 : k = 48
   ·subst h48; exact stmt_48 ih ihs t n l hl B v w h
   by_cases h49 : k = 49
   ·subst h49; exact stmt_49 ih ihs t n l hl B v w h
   by_cases h50 : k = 50
   ·subst h50; exact stmt_50 ih t n l hl B v w h
   by_cases h51 : k = 51
   ·subst h51; exact stmt_51 ih t n l hl B v w h
   by_cases h52 : k = 52
   ·subst h52; exact stmt_52 ihs t n l hl B v w h
   exact (stmt_none k t n l h40 h41 h47 h48 h49 h50 h51 h52 B v w h).mono fun _ _ q => ⟨false, q.1, by simp, q.2⟩

theorem expr_all (x : Tr) (B : Nat) (v : Value) (w : World) (h : NodeAt B w v x) : Calls Tryz.prog 18 #[v] w (Snd (isE x = true) w) := (expr_stmt (cnt x + 1)).1 x (by omega) B v w h
theorem stmt_all (x : Tr) (B : Nat) (v : Value) (w : World) (h : NodeAt B w v x) : Calls Tryz.prog 20 #[v] w (Snd (isS x = true) w) := (expr_stmt (cnt x + 1)).2 x (by omega) B v w h
theorem block_all (x : Tr) (B : Nat) (v : Value) (w : World) (h : NodeAt B w v x) : Calls Tryz.prog 51 #[v] w (Snd (isBlk x = true) w) := block_any (expr_stmt (cnt x + 1)).2 x (by omega) B v w h
theorem body_all (l : List Tr) (B : Nat) (v : Value) (w : World) (h : KidsAt B w v l) : Calls Tryz.prog 47 #[v] w (Snd (isBody l = true) w) := body_any (expr_stmt (cnts l + 1)).2 l (by omega) B v w h

end Go.Proofs.YtpmlmpibpmoclaaGreatDoor
