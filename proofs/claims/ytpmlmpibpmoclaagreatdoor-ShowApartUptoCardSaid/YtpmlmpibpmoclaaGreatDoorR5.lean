/-
  The document's answer on trees: expressions, a kind at a time.
-/
import Derived.Test.YtpmlmpibpmoclaaGreatDoorR2
namespace Go.Proofs.YtpmlmpibpmoclaaGreatDoor
set_option linter.all false
set_option maxRecDepth 20000
set_option maxHeartbeats 4000000
open Go.RowKit

theorem isE_1 {n : Int} {l : List Tr} (h1 : 0 ≤ n) (h2 : n ≤ 9007199254740991) (h3 : bare (.mk 1 [] n l) = true) : isE (.mk 1 [] n l) = true := by
 unfold isE; simp_all [bare, Tr.l]
theorem isE_2 {t : Bs} {l : List Tr} (h1 : valid t = true) (h3 : bare (.mk 2 t 0 l) = true) : isE (.mk 2 t 0 l) = true := by
 unfold isE; simp_all [bare, Tr.l]
theorem isE_3 {n : Int} {l : List Tr} (h1 : n = 0 ∨ n = 1) (h3 : bare (.mk 3 [] n l) = true) : isE (.mk 3 [] n l) = true := by
 unfold isE; simp_all [bare, Tr.l]
theorem isE_4 {k : Int} {t : Bs} {n : Int} {l : List Tr} (hk : k = 4 ∨ k = 5 ∨ k = 7) (h1 : plainT (.mk k t n l) = true) (h3 : bare (.mk k t n l) = true) : isE (.mk k t n l) = true := by
 rcases hk with rfl | rfl | rfl <;> unfold isE <;> simp_all [bare, plainT, Tr.l, Tr.n, Tr.t]
theorem isE_6 {t : Bs} {l : List Tr} (h1 : isId t = true) (h3 : bare (.mk 6 t 0 l) = true) : isE (.mk 6 t 0 l) = true := by
 unfold isE; simp_all [bare, Tr.l]
theorem isE_8 {t : Bs} {n : Int} {l : List Tr} (h1 : plainT (.mk 8 t n l) = true) (h3 : allE l = true) : isE (.mk 8 t n l) = true := by
 unfold isE; simp_all [plainT, Tr.n, Tr.t]
theorem isE_9 {t : Bs} {n : Int} {l : List Tr} (h1 : plainT (.mk 9 t n l) = true) (h3 : propsE l = true) : isE (.mk 9 t n l) = true := by
 unfold isE; simp_all [plainT, Tr.n, Tr.t]
theorem isS_blk {bk : Int} {bt : Bs} {bn : Int} {bl : List Tr} (h : isBlk (.mk bk bt bn bl) = true) : (bk == 52 && (allS bl && (bt == [] && bn == 0))) = true := by
 unfold isBlk at h
 simp only [Tr.k, Bool.and_eq_true, beq_iff_eq] at h
 obtain ⟨rfl, h⟩ := h
 unfold isS at h
 simpa using h
theorem isBody_e {l : List Tr} (h : isBody l = true) : ∃ p ty bk bt bn bl, l = [p, ty, .mk bk bt bn bl] ∧ isPms false p = true ∧ isTyOr ty = true ∧ (bk == 52 && (allS bl && (bt == [] && bn == 0))) = true := by
 match l, h with
 | [p, ty, .mk bk bt bn bl], h =>
  simp only [isBody, Bool.and_eq_true] at h
  exact ⟨p, ty, bk, bt, bn, bl, rfl, h.1.1, h.1.2, isS_blk h.2⟩
theorem isE_11 {t : Bs} {n : Int} {l : List Tr} (h1 : plainT (.mk 11 t n l) = true) (h3 : isBody l = true) : isE (.mk 11 t n l) = true := by
 obtain ⟨p, ty, bk, bt, bn, bl, rfl, h5, h6, h7⟩ := isBody_e h3
 unfold isE
 simp_all [plainT, Tr.n, Tr.t]
theorem isE_15 {t : Bs} {x : Tr} (h1 : has unOps t = true) (h3 : allE [x] = true) : isE (.mk 15 t 0 [x]) = true := by
 unfold isE; unfold has at h1; simp_all [allE]
theorem isE_16 {t : Bs} {x y : Tr} (h1 : has binOps t = true) (h3 : allE [x, y] = true) : isE (.mk 16 t 0 [x, y]) = true := by
 unfold isE; unfold has at h1; simp_all [allE]
theorem isE_17 {t : Bs} {n : Int} {x y z : Tr} (h1 : plainT (.mk 17 t n [x, y, z]) = true) (h3 : allE [x, y, z] = true) : isE (.mk 17 t n [x, y, z]) = true := by
 unfold isE; simp_all [allE, plainT, Tr.n, Tr.t]
theorem isE_18 {t : Bs} {n : Int} {x y : Tr} (h1 : plainT (.mk 18 t n [x, y]) = true) (h3 : allE [x, y] = true) (h4 : x.k = 6 ∨ x.k = 21 ∨ x.k = 22) : isE (.mk 18 t n [x, y]) = true := by
 have h5 : target x = true := by unfold target; rcases h4 with h | h | h <;> rw [h] <;> rfl
 unfold isE; simp_all [allE, plainT, Tr.n, Tr.t]
theorem isE_19 {t : Bs} {n : Int} {x : Tr} {r : List Tr} (h1 : plainT (.mk 19 t n (x :: r)) = true) (h3 : allE (x :: r) = true) : isE (.mk 19 t n (x :: r)) = true := by
 unfold isE; simp_all [plainT, Tr.n, Tr.t]
theorem isE_20 {t : Bs} {l : List Tr} (h1 : isId t = true) (h3 : allE l = true) : isE (.mk 20 t 0 l) = true := by
 unfold isE; simp_all
theorem isE_21 {t : Bs} {x : Tr} (h1 : signs t = true) (h3 : allE [x] = true) : isE (.mk 21 t 0 [x]) = true := by
 unfold isE; simp_all [allE]
theorem isE_22 {t : Bs} {n : Int} {x y : Tr} (h1 : plainT (.mk 22 t n [x, y]) = true) (h3 : allE [x, y] = true) : isE (.mk 22 t n [x, y]) = true := by
 unfold isE; simp_all [allE, plainT, Tr.n, Tr.t]
theorem props_step {k n : Int} {t : Bs} {z : Tr} {r : List Tr} (h1 : k = 10) (h2 : n = 0) (h3 : signs t = true) (h5 : isE z = true) (h : propsE r = true) : propsE (.mk k t n [z] :: r) = true := by
 simp [propsE, h, h3, h1, h2, h5]

theorem expr_1 (t : Bs) (n : Int) (l : List Tr) (B : Nat) (v : Value) (w : World) (h : NodeAt B w v (.mk 1 t n l)) : Calls Tryz.prog 18 #[v] w (Snd (isE (.mk 1 t n l) = true) w) := by
 have hsv := sv_list
 obtain ⟨p, c, rfl, hks, hkr, hnr, htl, hcp, hkid, xw, C, hd, hk⟩ := hR h
 have xx := xw
 obtain ⟨c0, c1, c2, c3⟩ := C.out
 have K := hid hkid
 have hll := hid hcp.2
 clear h hks hkid hcp hkr hnr
 simp only [nv, Tr.k, Tr.t, Tr.n] at hd ⊢
 by_cases ht : t = []
 ·subst ht
  go_enter Tryz.func18, Tryz.ntmps18
  go_wp2_with (go_at_call 42; refine (bare_any B _ _ _ hd.out).mono ?_; rintro e w42 ⟨rfl, z_⟩; replace xx := xx.of_eq z_; replace ⟨c0, c1, c2, c3⟩ := F4 z_ c0 c1 c2 c3; replace hd := hid (hd.out.keepF z_); replace hk := hid (hk.out.keepF z_))
  all_goals
   go_ret
   first
    | exact .no xx
    | exact ⟨_, rfl, fun hh => isE_1 (by assumption) (by assumption) hh, xx⟩
 ·go_enter Tryz.func18, Tryz.ntmps18
  go_wp2
  go_ret
  exact .no xx

theorem expr_2 (t : Bs) (n : Int) (l : List Tr) (B : Nat) (v : Value) (w : World) (h : NodeAt B w v (.mk 2 t n l)) : Calls Tryz.prog 18 #[v] w (Snd (isE (.mk 2 t n l) = true) w) := by
 have hsv := sv_list
 obtain ⟨p, c, rfl, hks, hkr, hnr, htl, hcp, hkid, xw, C, hd, hk⟩ := hR h
 have xx := xw
 obtain ⟨c0, c1, c2, c3⟩ := C.out
 have K := hid hkid
 have hll := hid hcp.2
 clear h hks hkid hcp hkr hnr
 simp only [nv, Tr.k, Tr.t, Tr.n] at hd ⊢
 by_cases hn : n = 0
 ·subst hn
  go_enter Tryz.func18, Tryz.ntmps18
  go_wp2_with ((first | (go_at_call 42; refine (bare_any B _ _ _ hd.out).mono ?_; rintro e w42 ⟨rfl, z_⟩) | (go_at_call 43; refine (valid_any t _ htl).mono ?_; rintro e w43 ⟨_ | _, rfl, hb43, z_⟩ <;> replace hb43 := hid hb43)) <;> (replace xx := xx.of_eq z_; replace ⟨c0, c1, c2, c3⟩ := F4 z_ c0 c1 c2 c3; replace hd := hid (hd.out.keepF z_); replace hk := hid (hk.out.keepF z_)))
  all_goals
   go_ret
   first
    | exact .no xx
    | exact ⟨_, rfl, fun hh => isE_2 (hb43.out (by trivial)) hh, xx⟩
 ·go_enter Tryz.func18, Tryz.ntmps18
  go_wp2
  go_ret
  exact .no xx

theorem expr_3 (t : Bs) (n : Int) (l : List Tr) (B : Nat) (v : Value) (w : World) (h : NodeAt B w v (.mk 3 t n l)) : Calls Tryz.prog 18 #[v] w (Snd (isE (.mk 3 t n l) = true) w) := by
 have hsv := sv_list
 obtain ⟨p, c, rfl, hks, hkr, hnr, htl, hcp, hkid, xw, C, hd, hk⟩ := hR h
 have xx := xw
 obtain ⟨c0, c1, c2, c3⟩ := C.out
 have K := hid hkid
 have hll := hid hcp.2
 clear h hks hkid hcp hkr hnr
 simp only [nv, Tr.k, Tr.t, Tr.n] at hd ⊢
 by_cases ht : t = []
 ·subst ht
  by_cases hn : n = 0
  ·subst hn
   go_enter Tryz.func18, Tryz.ntmps18
   go_wp2_with (go_at_call 42; refine (bare_any B _ _ _ hd.out).mono ?_; rintro e w42 ⟨rfl, z_⟩; replace xx := xx.of_eq z_; replace ⟨c0, c1, c2, c3⟩ := F4 z_ c0 c1 c2 c3; replace hd := hid (hd.out.keepF z_); replace hk := hid (hk.out.keepF z_))
   all_goals
    go_ret
    first
     | exact .no xx
     | exact ⟨_, rfl, fun hh => isE_3 (.inl rfl) hh, xx⟩
  by_cases hn1 : n = 1
  ·subst hn1
   go_enter Tryz.func18, Tryz.ntmps18
   go_wp2_with (go_at_call 42; refine (bare_any B _ _ _ hd.out).mono ?_; rintro e w42 ⟨rfl, z_⟩; replace xx := xx.of_eq z_; replace ⟨c0, c1, c2, c3⟩ := F4 z_ c0 c1 c2 c3; replace hd := hid (hd.out.keepF z_); replace hk := hid (hk.out.keepF z_))
   all_goals
    go_ret
    first
     | exact .no xx
     | exact ⟨_, rfl, fun hh => isE_3 (.inr rfl) hh, xx⟩
  ·go_enter Tryz.func18, Tryz.ntmps18
   go_wp2
   go_ret
   exact .no xx
 ·go_enter Tryz.func18, Tryz.ntmps18
  go_wp2
  go_ret
  exact .no xx

theorem expr_4 (t : Bs) (n : Int) (l : List Tr) (B : Nat) (v : Value) (w : World) (h : NodeAt B w v (.mk 4 t n l)) : Calls Tryz.prog 18 #[v] w (Snd (isE (.mk 4 t n l) = true) w) := by
 have hsv := sv_list
 obtain ⟨p, c, rfl, hks, hkr, hnr, htl, hcp, hkid, xw, C, hd, hk⟩ := hR h
 have xx := xw
 obtain ⟨c0, c1, c2, c3⟩ := C.out
 have K := hid hkid
 have hll := hid hcp.2
 clear h hks hkid hcp hkr hnr
 simp only [nv, Tr.k, Tr.t, Tr.n] at hd ⊢
 go_enter Tryz.func18, Tryz.ntmps18
 go_wp2_with ((first | (go_at_call 22; refine (plain_any B _ _ _ hd.out).mono ?_; rintro e w22 ⟨rfl, z_⟩) | (go_at_call 42; refine (bare_any B _ _ _ hd.out).mono ?_; rintro e w42 ⟨rfl, z_⟩)) <;> (replace xx := xx.of_eq z_; replace ⟨c0, c1, c2, c3⟩ := F4 z_ c0 c1 c2 c3; replace hd := hid (hd.out.keepF z_); replace hk := hid (hk.out.keepF z_)))
 all_goals
  go_ret
  first
   | exact .no xx
   | exact ⟨_, rfl, fun hh => isE_4 (by decide) (by assumption) hh, xx⟩

theorem expr_5 (t : Bs) (n : Int) (l : List Tr) (B : Nat) (v : Value) (w : World) (h : NodeAt B w v (.mk 5 t n l)) : Calls Tryz.prog 18 #[v] w (Snd (isE (.mk 5 t n l) = true) w) := by
 have hsv := sv_list
 obtain ⟨p, c, rfl, hks, hkr, hnr, htl, hcp, hkid, xw, C, hd, hk⟩ := hR h
 have xx := xw
 obtain ⟨c0, c1, c2, c3⟩ := C.out
 have K := hid hkid
 have hll := hid hcp.2
 clear h hks hkid hcp hkr hnr
 simp only [nv, Tr.k, Tr.t, Tr.n] at hd ⊢
 go_enter Tryz.func18, Tryz.ntmps18
 go_wp2_with ((first | (go_at_call 22; refine (plain_any B _ _ _ hd.out).mono ?_; rintro e w22 ⟨rfl, z_⟩) | (go_at_call 42; refine (bare_any B _ _ _ hd.out).mono ?_; rintro e w42 ⟨rfl, z_⟩)) <;> (replace xx := xx.of_eq z_; replace ⟨c0, c1, c2, c3⟩ := F4 z_ c0 c1 c2 c3; replace hd := hid (hd.out.keepF z_); replace hk := hid (hk.out.keepF z_)))
 all_goals
  go_ret
  first
   | exact .no xx
   | exact ⟨_, rfl, fun hh => isE_4 (by decide) (by assumption) hh, xx⟩

theorem expr_7 (t : Bs) (n : Int) (l : List Tr) (B : Nat) (v : Value) (w : World) (h : NodeAt B w v (.mk 7 t n l)) : Calls Tryz.prog 18 #[v] w (Snd (isE (.mk 7 t n l) = true) w) := by
 have hsv := sv_list
 obtain ⟨p, c, rfl, hks, hkr, hnr, htl, hcp, hkid, xw, C, hd, hk⟩ := hR h
 have xx := xw
 obtain ⟨c0, c1, c2, c3⟩ := C.out
 have K := hid hkid
 have hll := hid hcp.2
 clear h hks hkid hcp hkr hnr
 simp only [nv, Tr.k, Tr.t, Tr.n] at hd ⊢
 go_enter Tryz.func18, Tryz.ntmps18
 go_wp2_with ((first | (go_at_call 22; refine (plain_any B _ _ _ hd.out).mono ?_; rintro e w22 ⟨rfl, z_⟩) | (go_at_call 42; refine (bare_any B _ _ _ hd.out).mono ?_; rintro e w42 ⟨rfl, z_⟩)) <;> (replace xx := xx.of_eq z_; replace ⟨c0, c1, c2, c3⟩ := F4 z_ c0 c1 c2 c3; replace hd := hid (hd.out.keepF z_); replace hk := hid (hk.out.keepF z_)))
 all_goals
  go_ret
  first
   | exact .no xx
   | exact ⟨_, rfl, fun hh => isE_4 (by decide) (by assumption) hh, xx⟩

theorem expr_6 (t : Bs) (n : Int) (l : List Tr) (B : Nat) (v : Value) (w : World) (h : NodeAt B w v (.mk 6 t n l)) : Calls Tryz.prog 18 #[v] w (Snd (isE (.mk 6 t n l) = true) w) := by
 have hsv := sv_list
 obtain ⟨p, c, rfl, hks, hkr, hnr, htl, hcp, hkid, xw, C, hd, hk⟩ := hR h
 have xx := xw
 obtain ⟨c0, c1, c2, c3⟩ := C.out
 have K := hid hkid
 have hll := hid hcp.2
 clear h hks hkid hcp hkr hnr
 simp only [nv, Tr.k, Tr.t, Tr.n] at hd ⊢
 by_cases hn : n = 0
 ·subst hn
  go_enter Tryz.func18, Tryz.ntmps18
  go_wp2_with ((first | (go_at_call 42; refine (bare_any B _ _ _ hd.out).mono ?_; rintro e w42 ⟨rfl, z_⟩) | (go_at_call 44; refine (id_any t _ htl).mono ?_; rintro e w44 ⟨_ | _, rfl, hb44, z_⟩ <;> replace hb44 := hid hb44)) <;> (replace xx := xx.of_eq z_; replace ⟨c0, c1, c2, c3⟩ := F4 z_ c0 c1 c2 c3; replace hd := hid (hd.out.keepF z_); replace hk := hid (hk.out.keepF z_)))
  all_goals
   go_ret
   first
    | exact .no xx
    | exact ⟨_, rfl, fun hh => isE_6 (hb44.out (by trivial)) hh, xx⟩
 ·go_enter Tryz.func18, Tryz.ntmps18
  go_wp2
  go_ret
  exact .no xx

theorem expr_8 {N : Nat} (ih : ExprC N) (t : Bs) (n : Int) (l : List Tr) (hx : cnts l < N) (B : Nat) (v : Value) (w : World) (h : NodeAt B w v (.mk 8 t n l)) : Calls Tryz.prog 18 #[v] w (Snd (isE (.mk 8 t n l) = true) w) := by
 have hsv := sv_list
 obtain ⟨p, c, rfl, hks, hkr, hnr, htl, hcp, hkid, xw, C, hd, hk⟩ := hR h
 have xx := xw
 obtain ⟨c0, c1, c2, c3⟩ := C.out
 have K := hid hkid
 have hll := hid hcp.2
 clear h hks hkid hcp hkr hnr
 simp only [nv, Tr.k, Tr.t, Tr.n] at hd ⊢
 have hcn := hid hx
 clear hx
 go_enter Tryz.func18, Tryz.ntmps18
 go_wp2_with ((first | (go_at_call 22; refine (plain_any B _ _ _ hd.out).mono ?_; rintro e w22 ⟨rfl, z_⟩) | (go_at_call 45; refine (exprs_any ih l (hcn.out) B _ _ hk.out).mono ?_; rintro e w45 ⟨_ | _, rfl, hb45, z_⟩ <;> replace hb45 := hid hb45)) <;> (replace xx := xx.of_eq z_; replace ⟨c0, c1, c2, c3⟩ := F4 z_ c0 c1 c2 c3; replace hd := hid (hd.out.keepF z_); replace hk := hid (hk.out.keepF z_)))
 all_goals
  go_ret
  first
   | exact .no xx
   | exact .yes (isE_8 (by assumption) (hb45.out (by trivial))) xx

theorem expr_11 {N : Nat} (ih : StmtC N) (t : Bs) (n : Int) (l : List Tr) (hx : cnts l < N) (B : Nat) (v : Value) (w : World) (h : NodeAt B w v (.mk 11 t n l)) : Calls Tryz.prog 18 #[v] w (Snd (isE (.mk 11 t n l) = true) w) := by
 have hsv := sv_list
 obtain ⟨p, c, rfl, hks, hkr, hnr, htl, hcp, hkid, xw, C, hd, hk⟩ := hR h
 have xx := xw
 obtain ⟨c0, c1, c2, c3⟩ := C.out
 have K := hid hkid
 have hll := hid hcp.2
 clear h hks hkid hcp hkr hnr
 simp only [nv, Tr.k, Tr.t, Tr.n] at hd ⊢
 have hcn := hid hx
 clear hx
 go_enter Tryz.func18, Tryz.ntmps18
 go_wp2_with ((first | (go_at_call 22; refine (plain_any B _ _ _ hd.out).mono ?_; rintro e w22 ⟨rfl, z_⟩) | (go_at_call 47; refine (body_any ih l hcn.out B _ _ hk.out).mono ?_; rintro e w47 ⟨_ | _, rfl, hb47, z_⟩ <;> replace hb47 := hid hb47)) <;> (replace xx := xx.of_eq z_; replace ⟨c0, c1, c2, c3⟩ := F4 z_ c0 c1 c2 c3; replace hd := hid (hd.out.keepF z_); replace hk := hid (hk.out.keepF z_)))
 all_goals
  go_ret
  first
   | exact .no xx
   | exact .yes (isE_11 (by assumption) (hb47.out (by trivial))) xx

theorem expr_15 {N : Nat} (ih : ExprC N) (t : Bs) (n : Int) (l : List Tr) (hx : cnts l < N) (B : Nat) (v : Value) (w : World) (h : NodeAt B w v (.mk 15 t n l)) : Calls Tryz.prog 18 #[v] w (Snd (isE (.mk 15 t n l) = true) w) := by
 have hsv := sv_list
 obtain ⟨p, c, rfl, hks, hkr, hnr, htl, hcp, hkid, xw, C, hd, hk⟩ := hR h
 have xx := xw
 obtain ⟨c0, c1, c2, c3⟩ := C.out
 have K := hid hkid
 have hll := hid hcp.2
 clear h hks hkid hcp hkr hnr
 simp only [nv, Tr.k, Tr.t, Tr.n] at hd ⊢
 have hcn := hid hx
 clear hx
 by_cases hn : n = 0
 ·subst hn
  by_cases hl1 : l.length = 1
  ·obtain ⟨a, rfl⟩ := kid_one hl1
   simp only [lC, lN, zA, Nat.reduceAdd] at *
   clear hl1
   go_enter Tryz.func18, Tryz.ntmps18
   go_wp2_with ((first | (go_at_call 48; refine (in_lit t unOps _ _ _ _ _ _ rfl rfl (by simp) (by decide)).mono ?_; rintro e w48 ⟨rfl, z_⟩) | (go_at_call 45; refine (exprs_any ih [a] hcn.out B _ _ hk.out).mono ?_; rintro e w45 ⟨_ | _, rfl, hb45, z_⟩ <;> replace hb45 := hid hb45)) <;> (replace xx := xx.of_eq z_; replace ⟨c0, c1, c2, c3⟩ := F4 z_ c0 c1 c2 c3; replace hd := hid (hd.out.keepF z_); replace hk := hid (hk.out.keepF z_)))
   all_goals
    go_ret
    first
     | exact .no xx
     | exact .yes (isE_15 (by assumption) (hb45.out (by trivial))) xx
  ·have hl2 : ¬ (l.length : Int) = 1 := by omega
   have hl3 : ((l.length : Int) == 1) = false := by simpa using hl2
   clear hl1
   go_enter Tryz.func18, Tryz.ntmps18
   go_wp2_with (go_at_call 48; refine (in_lit t unOps _ _ _ _ _ _ rfl rfl (by simp) (by decide)).mono ?_; rintro e w48 ⟨rfl, z_⟩; replace xx := xx.of_eq z_; replace ⟨c0, c1, c2, c3⟩ := F4 z_ c0 c1 c2 c3; replace hd := hid (hd.out.keepF z_); replace hk := hid (hk.out.keepF z_))
   all_goals
    go_ret
    first
     | exact .no xx
 ·go_enter Tryz.func18, Tryz.ntmps18
  go_wp2
  go_ret
  exact .no xx

theorem expr_16 {N : Nat} (ih : ExprC N) (t : Bs) (n : Int) (l : List Tr) (hx : cnts l < N) (B : Nat) (v : Value) (w : World) (h : NodeAt B w v (.mk 16 t n l)) : Calls Tryz.prog 18 #[v] w (Snd (isE (.mk 16 t n l) = true) w) := by
 have hsv := sv_list
 obtain ⟨p, c, rfl, hks, hkr, hnr, htl, hcp, hkid, xw, C, hd, hk⟩ := hR h
 have xx := xw
 obtain ⟨c0, c1, c2, c3⟩ := C.out
 have K := hid hkid
 have hll := hid hcp.2
 clear h hks hkid hcp hkr hnr
 simp only [nv, Tr.k, Tr.t, Tr.n] at hd ⊢
 have hcn := hid hx
 clear hx
 by_cases hn : n = 0
 ·subst hn
  by_cases hl1 : l.length = 2
  ·obtain ⟨a, b, rfl⟩ := kid_two hl1
   simp only [lC, lN, zA, Nat.reduceAdd] at *
   clear hl1
   go_enter Tryz.func18, Tryz.ntmps18
   go_wp2_with ((first | (go_at_call 48; refine (in_lit t binOps _ _ _ _ _ _ rfl rfl (by simp) (by decide)).mono ?_; rintro e w48 ⟨rfl, z_⟩) | (go_at_call 45; refine (exprs_any ih [a, b] hcn.out B _ _ hk.out).mono ?_; rintro e w45 ⟨_ | _, rfl, hb45, z_⟩ <;> replace hb45 := hid hb45)) <;> (replace xx := xx.of_eq z_; replace ⟨c0, c1, c2, c3⟩ := F4 z_ c0 c1 c2 c3; replace hd := hid (hd.out.keepF z_); replace hk := hid (hk.out.keepF z_)))
   all_goals
    go_ret
    first
     | exact .no xx
     | exact .yes (isE_16 (by assumption) (hb45.out (by trivial))) xx
  ·have hl2 : ¬ (l.length : Int) = 2 := by omega
   have hl3 : ((l.length : Int) == 2) = false := by simpa using hl2
   clear hl1
   go_enter Tryz.func18, Tryz.ntmps18
   go_wp2_with (go_at_call 48; refine (in_lit t binOps _ _ _ _ _ _ rfl rfl (by simp) (by decide)).mono ?_; rintro e w48 ⟨rfl, z_⟩; replace xx := xx.of_eq z_; replace ⟨c0, c1, c2, c3⟩ := F4 z_ c0 c1 c2 c3; replace hd := hid (hd.out.keepF z_); replace hk := hid (hk.out.keepF z_))
   all_goals
    go_ret
    first
     | exact .no xx
 ·go_enter Tryz.func18, Tryz.ntmps18
  go_wp2
  go_ret
  exact .no xx

end Go.Proofs.YtpmlmpibpmoclaaGreatDoor
