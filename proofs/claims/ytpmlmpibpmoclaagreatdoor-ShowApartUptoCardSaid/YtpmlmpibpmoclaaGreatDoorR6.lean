/-
  The document's answer on trees: expressions, all kinds.
-/
import Derived.Test.YtpmlmpibpmoclaaGreatDoorR5
namespace Go.Proofs.YtpmlmpibpmoclaaGreatDoor
set_option linter.all false
set_option maxRecDepth 20000
set_option maxHeartbeats 4000000
open Go.RowKit

theorem expr_17 {N : Nat} (ih : ExprC N) (t : Bs) (n : Int) (l : List Tr) (hx : cnts l < N) (B : Nat) (v : Value) (w : World) (h : NodeAt B w v (.mk 17 t n l)) : Calls Tryz.prog 18 #[v] w (Snd (isE (.mk 17 t n l) = true) w) := by
 have hsv := sv_list
 obtain ⟨p, c, rfl, hks, hkr, hnr, htl, hcp, hkid, xw, C, hd, hk⟩ := hR h
 have xx := xw
 obtain ⟨c0, c1, c2, c3⟩ := C.out
 have K := hid hkid
 have hll := hid hcp.2
 clear h hks hkid hcp hkr hnr
 simp only [nv, Tr.k, Tr.t, Tr.n] at hd ⊢
 have hcn := hid hx
 clear hx
 by_cases hl1 : l.length = 3
 ·obtain ⟨a, b, q, rfl⟩ := kid_three hl1
  simp only [lC, lN, zA, Nat.reduceAdd] at *
  clear hl1
  go_enter Tryz.func18, Tryz.ntmps18
  go_wp2_with ((first | (go_at_call 22; refine (plain_any B _ _ _ hd.out).mono ?_; rintro e w22 ⟨rfl, z_⟩) | (go_at_call 45; refine (exprs_any ih [a, b, q] hcn.out B _ _ hk.out).mono ?_; rintro e w45 ⟨_ | _, rfl, hb45, z_⟩ <;> replace hb45 := hid hb45)) <;> (replace xx := xx.of_eq z_; replace ⟨c0, c1, c2, c3⟩ := F4 z_ c0 c1 c2 c3; replace hd := hid (hd.out.keepF z_); replace hk := hid (hk.out.keepF z_)))
  all_goals
   go_ret
   first
    | exact .no xx
    | exact .yes (isE_17 (by assumption) (hb45.out (by trivial))) xx
 ·have hl2 : ¬ (l.length : Int) = 3 := by omega
  have hl3 : ((l.length : Int) == 3) = false := by simpa using hl2
  clear hl1
  go_enter Tryz.func18, Tryz.ntmps18
  go_wp2_with (go_at_call 22; refine (plain_any B _ _ _ hd.out).mono ?_; rintro e w22 ⟨rfl, z_⟩; replace xx := xx.of_eq z_; replace ⟨c0, c1, c2, c3⟩ := F4 z_ c0 c1 c2 c3; replace hd := hid (hd.out.keepF z_); replace hk := hid (hk.out.keepF z_))
  all_goals
   go_ret
   first
    | exact .no xx

theorem expr_22 {N : Nat} (ih : ExprC N) (t : Bs) (n : Int) (l : List Tr) (hx : cnts l < N) (B : Nat) (v : Value) (w : World) (h : NodeAt B w v (.mk 22 t n l)) : Calls Tryz.prog 18 #[v] w (Snd (isE (.mk 22 t n l) = true) w) := by
 have hsv := sv_list
 obtain ⟨p, c, rfl, hks, hkr, hnr, htl, hcp, hkid, xw, C, hd, hk⟩ := hR h
 have xx := xw
 obtain ⟨c0, c1, c2, c3⟩ := C.out
 have K := hid hkid
 have hll := hid hcp.2
 clear h hks hkid hcp hkr hnr
 simp only [nv, Tr.k, Tr.t, Tr.n] at hd ⊢
 have hcn := hid hx
 clear hx
 by_cases hl1 : l.length = 2
 ·obtain ⟨a, b, rfl⟩ := kid_two hl1
  simp only [lC, lN, zA, Nat.reduceAdd] at *
  clear hl1
  go_enter Tryz.func18, Tryz.ntmps18
  go_wp2_with ((first | (go_at_call 22; refine (plain_any B _ _ _ hd.out).mono ?_; rintro e w22 ⟨rfl, z_⟩) | (go_at_call 45; refine (exprs_any ih [a, b] hcn.out B _ _ hk.out).mono ?_; rintro e w45 ⟨_ | _, rfl, hb45, z_⟩ <;> replace hb45 := hid hb45)) <;> (replace xx := xx.of_eq z_; replace ⟨c0, c1, c2, c3⟩ := F4 z_ c0 c1 c2 c3; replace hd := hid (hd.out.keepF z_); replace hk := hid (hk.out.keepF z_)))
  all_goals
   go_ret
   first
    | exact .no xx
    | exact .yes (isE_22 (by assumption) (hb45.out (by trivial))) xx
 ·have hl2 : ¬ (l.length : Int) = 2 := by omega
  have hl3 : ((l.length : Int) == 2) = false := by simpa using hl2
  clear hl1
  go_enter Tryz.func18, Tryz.ntmps18
  go_wp2_with (go_at_call 22; refine (plain_any B _ _ _ hd.out).mono ?_; rintro e w22 ⟨rfl, z_⟩; replace xx := xx.of_eq z_; replace ⟨c0, c1, c2, c3⟩ := F4 z_ c0 c1 c2 c3; replace hd := hid (hd.out.keepF z_); replace hk := hid (hk.out.keepF z_))
  all_goals
   go_ret
   first
    | exact .no xx

theorem expr_18 {N : Nat} (ih : ExprC N) (t : Bs) (n : Int) (l : List Tr) (hx : cnts l < N) (B : Nat) (v : Value) (w : World) (h : NodeAt B w v (.mk 18 t n l)) : Calls Tryz.prog 18 #[v] w (Snd (isE (.mk 18 t n l) = true) w) := by
 have hsv := sv_list
 obtain ⟨p, c, rfl, hks, hkr, hnr, htl, hcp, hkid, xw, C, hd, hk⟩ := hR h
 have xx := xw
 obtain ⟨c0, c1, c2, c3⟩ := C.out
 have K := hid hkid
 have hll := hid hcp.2
 clear h hks hkid hcp hkr hnr
 simp only [nv, Tr.k, Tr.t, Tr.n] at hd ⊢
 have hcn := hid hx
 clear hx
 by_cases hl1 : l.length = 2
 ·obtain ⟨a, b, rfl⟩ := kid_two hl1
  simp only [lC, lN, zA, Nat.reduceAdd] at *
  clear hl1
  obtain ⟨g, o, s0, rfl, hgB, a0, a1, a2, a3, ha⟩ := K.out 0 (by simp)
  simp only [gZ, zM, aZ] at *
  replace a0 := xw.cellF a0
  clear K a1 a2 a3 ha
  go_enter Tryz.func18, Tryz.ntmps18
  go_wp2_with ((first | (go_at_call 22; refine (plain_any B _ _ _ hd.out).mono ?_; rintro e w22 ⟨rfl, z_⟩) | (go_at_call 45; refine (exprs_any ih [a, b] hcn.out B _ _ hk.out).mono ?_; rintro e w45 ⟨_ | _, rfl, hb45, z_⟩ <;> replace hb45 := hid hb45)) <;> (replace xx := xx.of_eq z_; replace ⟨c0, c1, c2, c3⟩ := F4 z_ c0 c1 c2 c3; replace a0 := z_.cellF a0; replace hd := hid (hd.out.keepF z_); replace hk := hid (hk.out.keepF z_)))
  all_goals
   go_ret
   first
    | exact .no xx
    | exact ⟨_, rfl, fun hh => isE_18 (by assumption) (hb45.out (by trivial)) (by first | exact .inl (by assumption) | exact .inr (.inl (by assumption)) | exact .inr (.inr (by assumption)) | simpa [or_assoc] using hh), xx⟩
 ·have hl2 : ¬ (l.length : Int) = 2 := by omega
  have hl3 : ((l.length : Int) == 2) = false := by simpa using hl2
  clear hl1
  go_enter Tryz.func18, Tryz.ntmps18
  go_wp2_with (go_at_call 22; refine (plain_any B _ _ _ hd.out).mono ?_; rintro e w22 ⟨rfl, z_⟩; replace xx := xx.of_eq z_; replace ⟨c0, c1, c2, c3⟩ := F4 z_ c0 c1 c2 c3; replace hd := hid (hd.out.keepF z_); replace hk := hid (hk.out.keepF z_))
  all_goals
   go_ret
   first
    | exact .no xx

theorem expr_19 {N : Nat} (ih : ExprC N) (t : Bs) (n : Int) (l : List Tr) (hx : cnts l < N) (B : Nat) (v : Value) (w : World) (h : NodeAt B w v (.mk 19 t n l)) : Calls Tryz.prog 18 #[v] w (Snd (isE (.mk 19 t n l) = true) w) := by
 have hsv := sv_list
 obtain ⟨p, c, rfl, hks, hkr, hnr, htl, hcp, hkid, xw, C, hd, hk⟩ := hR h
 have xx := xw
 obtain ⟨c0, c1, c2, c3⟩ := C.out
 have K := hid hkid
 have hll := hid hcp.2
 clear h hks hkid hcp hkr hnr
 simp only [nv, Tr.k, Tr.t, Tr.n] at hd ⊢
 have hcn := hid hx
 clear hx
 cases l with
 | nil =>
  go_enter Tryz.func18, Tryz.ntmps18
  go_wp2_with (go_at_call 22; refine (plain_any B _ _ _ hd.out).mono ?_; rintro e w22 ⟨rfl, z_⟩; replace xx := xx.of_eq z_; replace ⟨c0, c1, c2, c3⟩ := F4 z_ c0 c1 c2 c3; replace hd := hid (hd.out.keepF z_); replace hk := hid (hk.out.keepF z_))
  all_goals
   go_ret
   first
    | exact .no xx
 | cons a r =>
  have hl1 : (1 : Int) ≤ ((a :: r).length : Int) := by simp; omega
  go_enter Tryz.func18, Tryz.ntmps18
  go_wp2_with ((first | (go_at_call 22; refine (plain_any B _ _ _ hd.out).mono ?_; rintro e w22 ⟨rfl, z_⟩) | (go_at_call 45; refine (exprs_any ih (a :: r) hcn.out B _ _ hk.out).mono ?_; rintro e w45 ⟨_ | _, rfl, hb45, z_⟩ <;> replace hb45 := hid hb45)) <;> (replace xx := xx.of_eq z_; replace ⟨c0, c1, c2, c3⟩ := F4 z_ c0 c1 c2 c3; replace hd := hid (hd.out.keepF z_); replace hk := hid (hk.out.keepF z_)))
  all_goals
   go_ret
   first
    | exact .no xx
    | exact .yes (isE_19 (by assumption) (hb45.out (by trivial))) xx

theorem expr_20 {N : Nat} (ih : ExprC N) (t : Bs) (n : Int) (l : List Tr) (hx : cnts l < N) (B : Nat) (v : Value) (w : World) (h : NodeAt B w v (.mk 20 t n l)) : Calls Tryz.prog 18 #[v] w (Snd (isE (.mk 20 t n l) = true) w) := by
 have hsv := sv_list
 obtain ⟨p, c, rfl, hks, hkr, hnr, htl, hcp, hkid, xw, C, hd, hk⟩ := hR h
 have xx := xw
 obtain ⟨c0, c1, c2, c3⟩ := C.out
 have K := hid hkid
 have hll := hid hcp.2
 clear h hks hkid hcp hkr hnr
 simp only [nv, Tr.k, Tr.t, Tr.n] at hd ⊢
 have hcn := hid hx
 clear hx
 by_cases hn : n = 0
 ·subst hn
  go_enter Tryz.func18, Tryz.ntmps18
  go_wp2_with ((first | (go_at_call 44; refine (id_any t _ htl).mono ?_; rintro e w44 ⟨_ | _, rfl, hb44, z_⟩ <;> replace hb44 := hid hb44) | (go_at_call 45; refine (exprs_any ih l (hcn.out) B _ _ hk.out).mono ?_; rintro e w45 ⟨_ | _, rfl, hb45, z_⟩ <;> replace hb45 := hid hb45)) <;> (replace xx := xx.of_eq z_; replace ⟨c0, c1, c2, c3⟩ := F4 z_ c0 c1 c2 c3; replace hd := hid (hd.out.keepF z_); replace hk := hid (hk.out.keepF z_)))
  all_goals
   go_ret
   first
    | exact .no xx
    | exact .yes (isE_20 (hb44.out (by trivial)) (hb45.out (by trivial))) xx
 ·go_enter Tryz.func18, Tryz.ntmps18
  go_wp2
  go_ret
  exact .no xx

theorem expr_21 {N : Nat} (ih : ExprC N) (t : Bs) (n : Int) (l : List Tr) (hx : cnts l < N) (B : Nat) (v : Value) (w : World) (h : NodeAt B w v (.mk 21 t n l)) : Calls Tryz.prog 18 #[v] w (Snd (isE (.mk 21 t n l) = true) w) := by
 have hsv := sv_list
 obtain ⟨p, c, rfl, hks, hkr, hnr, htl, hcp, hkid, xw, C, hd, hk⟩ := hR h
 have xx := xw
 obtain ⟨c0, c1, c2, c3⟩ := C.out
 have K := hid hkid
 have hll := hid hcp.2
 clear h hks hkid hcp hkr hnr
 simp only [nv, Tr.k, Tr.t, Tr.n] at hd ⊢
 have hcn := hid hx
 clear hx
 by_cases hn : n = 0
 ·subst hn
  by_cases hl1 : l.length = 1
  ·obtain ⟨a, rfl⟩ := kid_one hl1
   simp only [lC, lN, zA, Nat.reduceAdd] at *
   clear hl1
   go_enter Tryz.func18, Tryz.ntmps18
   go_wp2_with ((first | (go_at_call 46; refine (prop_any t _ htl).mono ?_; rintro e w46 ⟨_ | _, rfl, hb46, z_⟩ <;> replace hb46 := hid hb46) | (go_at_call 45; refine (exprs_any ih [a] hcn.out B _ _ hk.out).mono ?_; rintro e w45 ⟨_ | _, rfl, hb45, z_⟩ <;> replace hb45 := hid hb45)) <;> (replace xx := xx.of_eq z_; replace ⟨c0, c1, c2, c3⟩ := F4 z_ c0 c1 c2 c3; replace hd := hid (hd.out.keepF z_); replace hk := hid (hk.out.keepF z_)))
   all_goals
    go_ret
    first
     | exact .no xx
     | exact .yes (isE_21 (hb46.out (by trivial)) (hb45.out (by trivial))) xx
  ·have hl2 : ¬ (l.length : Int) = 1 := by omega
   have hl3 : ((l.length : Int) == 1) = false := by simpa using hl2
   clear hl1
   go_enter Tryz.func18, Tryz.ntmps18
   go_wp2_with (go_at_call 46; refine (prop_any t _ htl).mono ?_; rintro e w46 ⟨_ | _, rfl, hb46, z_⟩ <;> replace hb46 := hid hb46 <;> (replace xx := xx.of_eq z_; replace ⟨c0, c1, c2, c3⟩ := F4 z_ c0 c1 c2 c3; replace hd := hid (hd.out.keepF z_); replace hk := hid (hk.out.keepF z_)))
   all_goals
    go_ret
    first
     | exact .no xx
 ·go_enter Tryz.func18, Tryz.ntmps18
  go_wp2
  go_ret
  exact .no xx

theorem expr_9 {N : Nat} (ih : ExprC N) (t : Bs) (n : Int) (l : List Tr) (hx : cnts l < N) (B : Nat) (v : Value) (w : World) (h : NodeAt B w v (.mk 9 t n l)) : Calls Tryz.prog 18 #[v] w (Snd (isE (.mk 9 t n l) = true) w) := by
 have hsv := sv_list
 obtain ⟨p, c, rfl, hks, hkr, hnr, htl, hcp, hkid, xw, C, hd, hk⟩ := hR h
 have xx := xw
 obtain ⟨c0, c1, c2, c3⟩ := C.out
 have K := hid hkid
 have hll := hid hcp.2
 clear h hks hkid hcp hkr hnr
 simp only [nv, Tr.k, Tr.t, Tr.n] at hd ⊢
 have hcn := hid hx
 go_enter Tryz.func18, Tryz.ntmps18
 go_wp2
 go_loopw [4] (fun i wr => ∃ j : Nat, j ≤ l.length ∧ i = .int .i64 j ∧ Hid (propsE (l.drop j) = true → propsE l = true) ∧ Fx (w.alloc (.cells #[.int .i64 9, .string (sv t), .int .i64 n, .slice p l.length c] 24)) wr) (fun i _ => l.length - (intOf i).toNat)
 case atStart => exact ⟨0, Nat.zero_le _, rfl, hid (fun h => h), Ext.refl _ _⟩
 case round =>
  obtain ⟨j, hj, rfl, hinv, x2⟩ := hrel
  replace c0 := x2.cellF C.out.1
  replace c1 := x2.cellF C.out.2.1
  replace c2 := x2.cellF C.out.2.2.1
  replace c3 := x2.cellF C.out.2.2.2
  replace xx := xw.of_eq x2
  have hj4 : (j : Int) ≤ 4398046511104 := by have := hll.out; omega
  by_cases hlt : j < l.length
  ·skip
   obtain ⟨g, o, s, rfl, hgB, e0, e1, e2, e3, hy⟩ := K.out j hlt
   have hcy := hid (show cnt l[j] < N from by have := cnt_get hlt; have := hcn.out; omega)
   have hdr := hid (List.drop_eq_getElem_cons hlt)
   generalize l[j] = y at *
   replace ⟨e0, e1, e2, e3⟩ := F4 xx e0 e1 e2 e3
   obtain ⟨sl', hs', hks, hkr, hnr, hty⟩ := id hy.open
   obtain rfl : s = sl' := by simpa [nv] using hs'
   clear hs' hkr hnr
   obtain ⟨k', t', n', l'⟩ := y
   simp only [nv, Tr.k, Tr.t, Tr.n, Tr.l] at *
   obtain ⟨p', c', rfl, hcp', hkid'⟩ := hks.kid
   have K' := hid hkid'
   clear hks hkid' hcp' hy
   have xc := x2
   by_cases hk' : k' = 10
   ·subst hk'
    by_cases hn' : n' = 0
    ·subst hn'
     by_cases hl1 : l'.length = 1
     ·obtain ⟨z, rfl⟩ := kid_one hl1
      obtain ⟨g', o', s', rfl, hgB', f0, f1, f2, f3, hz⟩ := K'.out 0 (by simp)
      have hcz := hid (show cnt z < N from by have := hcy.out; simp [cnt, cnts] at this; omega)
      simp only [gZ, zM, aZ, List.length_singleton] at *
      replace ⟨f0, f1, f2, f3⟩ := F4 xx f0 f1 f2 f3
      replace hz := hid (hz.keepF xx)
      simp only [nv] at hz
      clear hl1 K'
      go_wp2_with ((first | (go_at_call 46; refine (prop_any t' _ hty).mono ?_; rintro e w46 ⟨_ | _, rfl, hb46, z_⟩ <;> replace hb46 := hid hb46) | (go_at_call 18; refine (ih z hcz.out B _ _ hz.out).mono ?_; rintro e w18 ⟨_ | _, rfl, hb18, z_⟩ <;> replace hb18 := hid hb18)) <;> (replace xx := xx.of_eq z_; replace xc := xc.of_eq z_; replace ⟨e0, e1, e2, e3⟩ := F4 z_ e0 e1 e2 e3; replace ⟨f0, f1, f2, f3⟩ := F4 z_ f0 f1 f2 f3; replace hz := hid (hz.out.keepF z_)))
      all_goals first
       | (go_ret; exact .no xx)
       | skip
      all_goals
       have hstep := hid (fun hr : propsE (l.drop (j + 1)) = true => hinv.out (by
        rw [hdr.out]
        exact props_step rfl rfl (hb46.out (by trivial)) (hb18.out (by trivial)) hr))
       go_roundw
       case rel => exact ⟨j + 1, by omega, by go_num, hstep, xc⟩
       case measure => simp [intOf]; omega
     ·have hl2 : ¬ (l'.length : Int) = 1 := by omega
      have hl3 : ((l'.length : Int) == 1) = false := by simpa using hl2
      clear hl1
      go_wp2_with (go_at_call 46; refine (prop_any t' _ hty).mono ?_; rintro e w46 ⟨_ | _, rfl, hb46, z_⟩ <;> replace hb46 := hid hb46 <;> (replace xx := xx.of_eq z_; replace ⟨e0, e1, e2, e3⟩ := F4 z_ e0 e1 e2 e3))
      all_goals
       go_ret
       exact .no xx
    ·go_wp2
     go_ret
     exact .no xx
   ·go_wp2
    go_ret
    exact .no xx
  ·have hfin := hid (show propsE l = true from hinv.out (by rw [List.drop_of_length_le (by omega)]; rfl))
   have hd2 := hid (hd.out.keepF x2)
   clear hinv hd
   go_wp2_with (go_at_call 22; refine (plain_any B _ _ _ hd2.out).mono ?_; rintro e w22 ⟨rfl, z_⟩; replace xx := xx.of_eq z_)
   go_ret
   exact ⟨_, rfl, fun h => isE_9 h hfin.out, xx⟩

theorem expr_none (k : Int) (t : Bs) (n : Int) (l : List Tr) (h1 : ¬ k = 1) (h2 : ¬ k = 2) (h3 : ¬ k = 3) (h4 : ¬ k = 4) (h5 : ¬ k = 5) (h6 : ¬ k = 6) (h7 : ¬ k = 7) (h8 : ¬ k = 8) (h9 : ¬ k = 9) (h11 : ¬ k = 11) (h15 : ¬ k = 15) (h16 : ¬ k = 16) (h17 : ¬ k = 17) (h18 : ¬ k = 18) (h19 : ¬ k = 19) (h20 : ¬ k = 20) (h21 : ¬ k = 21) (h22 : ¬ k = 22)
  (B : Nat) (v : Value) (w : World) (h : NodeAt B w v (.mk k t n l)) : Calls Tryz.prog 18 #[v] w (fun e w' => e = .returned (.bool false) ∧ Fx w w') := by
 obtain ⟨sl, rfl, hks, hkr, hnr, htl⟩ := id h.open
 have xw : Fx w (w.alloc (.cells #[.int .i64 k, .string (sv t), .int .i64 n, sl] 24)) := Ext.alloc _ _ _
 obtain ⟨c0, c1, c2, c3⟩ := nd_cells w k n (sv t) sl
 clear h hks hkr hnr htl
 simp only [nv, Tr.k, Tr.t, Tr.n]
 go_enter Tryz.func18, Tryz.ntmps18
 go_wp2
 go_ret
 exact ⟨rfl, xw⟩

end Go.Proofs.YtpmlmpibpmoclaaGreatDoor
