/-
  The document's answer on trees: types, a kind at a time.
-/
import Derived.Test.YtpmlmpibpmoclaaGreatDoorR1
namespace Go.Proofs.YtpmlmpibpmoclaaGreatDoor
set_option linter.all false
set_option maxRecDepth 20000
set_option maxHeartbeats 4000000
open Go.RowKit

theorem kid_two {l : List Tr} (h : l.length = 2) : ∃ y z, l = [y, z] := by
 match l, h with
 | [y, z], _ => exact ⟨y, z, rfl⟩
theorem kid_three {l : List Tr} (h : l.length = 3) : ∃ x y z, l = [x, y, z] := by
 match l, h with
 | [x, y, z], _ => exact ⟨x, y, z, rfl⟩
theorem isT_35 {t : Bs} {n : Int} {y z : Tr} (h1 : plainT (.mk 35 t n [y, z]) = true) (h2 : isPms true y = true) (h3 : isT z = true) : isT (.mk 35 t n [y, z]) = true := by
 obtain ⟨k', t', n', l'⟩ := y
 simp_all [isT, isPms, plainT, Tr.t, Tr.n, Tr.k, Tr.l]

theorem type_30 (t : Bs) (n : Int) (l : List Tr) (B : Nat) (v : Value) (w : World) (h : NodeAt B w v (.mk 30 t n l)) : Calls Tryz.prog 19 #[v] w (Snd (isT (.mk 30 t n l) = true) w) := by
 have hsv := sv_list
 obtain ⟨p, c, rfl, hks, hkr, hnr, htl, hcp, hkid, xw, C, hd, hk⟩ := hR h
 have xx := xw
 obtain ⟨c0, c1, c2, c3⟩ := C.out
 have K := hid hkid
 have hll := hid hcp.2
 clear h hks hkid hcp hkr hnr
 simp only [nv, Tr.k, Tr.t, Tr.n] at hd ⊢
 by_cases hn : n = 0
 ·subst hn
  go_enter Tryz.func19, Tryz.ntmps19
  go_wp2_with ((first | (go_at_call 42; refine (bare_any B _ _ _ hd.out).mono ?_; rintro e w42 ⟨rfl, z_⟩) | (go_at_call 44; refine (id_any t _ htl).mono ?_; rintro e w44 ⟨_ | _, rfl, hb44, z_⟩ <;> replace hb44 := hid hb44)) <;> (replace xx := xx.of_eq z_; replace ⟨c0, c1, c2, c3⟩ := F4 z_ c0 c1 c2 c3; replace hd := hid (hd.out.keepF z_); replace hk := hid (hk.out.keepF z_)))
  all_goals
   go_ret
   first
    | exact .no xx
    | (refine ⟨_, rfl, fun hh => ?_, xx⟩; clear c0 c1 c2 c3 hd hk; simp_all [isT, bare, Tr.l, Hid])
 ·go_enter Tryz.func19, Tryz.ntmps19
  go_wp2
  go_ret
  exact .no xx

theorem type_31 {N : Nat} (ih : TypeC N) (t : Bs) (n : Int) (l : List Tr) (hx : cnts l < N) (B : Nat) (v : Value) (w : World) (h : NodeAt B w v (.mk 31 t n l)) : Calls Tryz.prog 19 #[v] w (Snd (isT (.mk 31 t n l) = true) w) := by
 have hsv := sv_list
 obtain ⟨p, c, rfl, hks, hkr, hnr, htl, hcp, hkid, xw, C, hd, hk⟩ := hR h
 have xx := xw
 obtain ⟨c0, c1, c2, c3⟩ := C.out
 have K := hid hkid
 have hll := hid hcp.2
 clear h hks hkid hcp hkr hnr
 simp only [nv, Tr.k, Tr.t, Tr.n] at hd ⊢
 by_cases hl1 : l.length = 1
 ·obtain ⟨z, rfl⟩ := kid_one hl1
  obtain ⟨g, o, s, rfl, hgB, e0, e1, e2, e3, hz⟩ := K.out 0 (by simp)
  have hcz := hid (show cnt z < N from by simpa [cnts] using hx)
  simp only [gZ, zM, aZ, List.length_singleton] at *
  replace ⟨e0, e1, e2, e3⟩ := F4 xw e0 e1 e2 e3
  replace hz := hid (hz.keepF xw)
  simp only [nv] at hz
  clear hl1 K
  go_enter Tryz.func19, Tryz.ntmps19
  go_wp2_with (first
   | (go_at_call 22; refine (plain_any B _ _ _ hd.out).mono ?_; rintro e w22 ⟨rfl, z_⟩; replace xx := xx.of_eq z_; replace ⟨c0, c1, c2, c3⟩ := F4 z_ c0 c1 c2 c3; replace ⟨e0, e1, e2, e3⟩ := F4 z_ e0 e1 e2 e3; replace hd := hid (hd.out.keepF z_); replace hk := hid (hk.out.keepF z_); replace hz := hid (hz.out.keepF z_))
   | (go_at_call 19; refine (ih z hcz.out B _ _ hz.out).mono ?_; rintro e w19 ⟨_ | _, rfl, hb19, z_⟩ <;> replace hb19 := hid hb19 <;> (replace xx := xx.of_eq z_; )))
  all_goals
   go_ret
   first
    | exact .no xx
    | (refine ⟨_, rfl, fun hh => ?_, xx⟩; clear c0 c1 c2 c3 e0 e1 e2 e3; have q := hb19.out (by trivial); simp_all [isT, plainT, Tr.t, Tr.n])
 ·have hl2 : ¬ (l.length : Int) = 1 := by omega
  have hl3 : ((l.length : Int) == 1) = false := by simpa using hl2
  clear hl1
  go_enter Tryz.func19, Tryz.ntmps19
  go_wp2_with (go_at_call 22; refine (plain_any B _ _ _ hd.out).mono ?_; rintro e w22 ⟨rfl, z_⟩; replace xx := xx.of_eq z_; replace ⟨c0, c1, c2, c3⟩ := F4 z_ c0 c1 c2 c3; replace hd := hid (hd.out.keepF z_); replace hk := hid (hk.out.keepF z_))
  all_goals
   go_ret
   exact .no xx

theorem type_35 {N : Nat} (ih : TypeC N) (t : Bs) (n : Int) (l : List Tr) (hx : cnts l < N) (B : Nat) (v : Value) (w : World) (h : NodeAt B w v (.mk 35 t n l)) : Calls Tryz.prog 19 #[v] w (Snd (isT (.mk 35 t n l) = true) w) := by
 have hsv := sv_list
 obtain ⟨p, c, rfl, hks, hkr, hnr, htl, hcp, hkid, xw, C, hd, hk⟩ := hR h
 have xx := xw
 obtain ⟨c0, c1, c2, c3⟩ := C.out
 have K := hid hkid
 have hll := hid hcp.2
 clear h hks hkid hcp hkr hnr
 simp only [nv, Tr.k, Tr.t, Tr.n] at hd ⊢
 by_cases hl1 : l.length = 2
 ·obtain ⟨y, z, rfl⟩ := kid_two hl1
  obtain ⟨g, o, s, rfl, hgB, e0, e1, e2, e3, hy⟩ := K.out 0 (by simp)
  obtain ⟨g2, o2, s2, hgo, hgB2, f0, f1, f2, f3, hz⟩ := K.out 1 (by simp)
  simp only [Option.some.injEq, Addr.mk.injEq, and_true] at hgo
  obtain ⟨rfl, rfl⟩ := hgo
  have hcz := hid (show cnt z < N from by simp [cnts] at hx; omega)
  have hcy := hid (show cnt y ≤ N from by simp [cnts] at hx; omega)
  simp only [gZ, gS, zM, oM, aZ, lC, lN, zA, Nat.reduceAdd] at *
  replace ⟨e0, e1, e2, e3⟩ := F4 xw e0 e1 e2 e3
  replace hy := hid (hy.keepF xw)
  replace ⟨f0, f1, f2, f3⟩ := F4 xw f0 f1 f2 f3
  replace hz := hid (hz.keepF xw)
  simp only [nv] at hy hz
  clear hl1 K
  go_enter Tryz.func19, Tryz.ntmps19
  go_wp2_with (first
   | ((first | (go_at_call 22; refine (plain_any B _ _ _ hd.out).mono ?_; rintro e w22 ⟨rfl, z_⟩) | (go_at_call 49; refine (params_any ih true y hcy.out B _ _ hy.out).mono ?_; rintro e w49 ⟨_ | _, rfl, hb49, z_⟩ <;> replace hb49 := hid hb49)) <;> (replace xx := xx.of_eq z_; replace ⟨c0, c1, c2, c3⟩ := F4 z_ c0 c1 c2 c3; replace ⟨e0, e1, e2, e3⟩ := F4 z_ e0 e1 e2 e3; replace ⟨f0, f1, f2, f3⟩ := F4 z_ f0 f1 f2 f3; replace hd := hid (hd.out.keepF z_); replace hk := hid (hk.out.keepF z_); replace hy := hid (hy.out.keepF z_); replace hz := hid (hz.out.keepF z_)))
   | (go_at_call 19; refine (ih z hcz.out B _ _ hz.out).mono ?_; rintro e w19 ⟨_ | _, rfl, hb19, z_⟩ <;> replace hb19 := hid hb19 <;> (replace xx := xx.of_eq z_; )))
  all_goals
   go_ret
   first
    | exact .no xx
    | (refine ⟨_, rfl, fun hh => ?_, xx⟩; exact isT_35 (by assumption) (hb49.out (by trivial)) (hb19.out (by trivial)))
 ·have hl2 : ¬ (l.length : Int) = 2 := by omega
  have hl3 : ((l.length : Int) == 2) = false := by simpa using hl2
  clear hl1
  go_enter Tryz.func19, Tryz.ntmps19
  go_wp2_with (go_at_call 22; refine (plain_any B _ _ _ hd.out).mono ?_; rintro e w22 ⟨rfl, z_⟩; replace xx := xx.of_eq z_; replace ⟨c0, c1, c2, c3⟩ := F4 z_ c0 c1 c2 c3; replace hd := hid (hd.out.keepF z_); replace hk := hid (hk.out.keepF z_))
  all_goals
   go_ret
   exact .no xx

theorem type_none (k : Int) (t : Bs) (n : Int) (l : List Tr) (h0 : ¬ k = 30) (h1 : ¬ k = 31) (h2 : ¬ k = 32) (h3 : ¬ k = 33) (h5 : ¬ k = 35) (B : Nat) (v : Value) (w : World) (h : NodeAt B w v (.mk k t n l)) : Calls Tryz.prog 19 #[v] w (fun e w' => e = .returned (.bool false) ∧ Fx w w') := by
 obtain ⟨sl, rfl, hks, hkr, hnr, htl⟩ := id h.open
 have xw : Fx w (w.alloc (.cells #[.int .i64 k, .string (sv t), .int .i64 n, sl] 24)) := Ext.alloc _ _ _
 obtain ⟨c0, c1, c2, c3⟩ := nd_cells w k n (sv t) sl
 clear h hks hkr hnr htl
 simp only [nv, Tr.k, Tr.t, Tr.n]
 go_enter Tryz.func19, Tryz.ntmps19
 go_wp2
 go_ret
 exact ⟨rfl, xw⟩

set_option maxRecDepth 20000
set_option maxHeartbeats 4000000

theorem union_step {y : Tr} {r : List Tr} (h1 : isT y = true) (h2 : ¬ y.k = 32) (h : unionOk r = true) : unionOk (y :: r) = true := by
 simp [unionOk, h1, h2, h]
theorem isT_32 {t : Bs} {n : Int} {l : List Tr} (h1 : plainT (.mk 32 t n l) = true) (h2 : unionOk l = true) (h3 : 2 ≤ l.length) : isT (.mk 32 t n l) = true := by
 unfold isT
 simp_all [plainT, Tr.t, Tr.n]
theorem tprops_step {S : List Bs} {k n : Int} {t : Bs} {z : Tr} {r : List Tr} (h1 : k = 34) (h2 : n = 0) (h3 : signs t = true) (h5 : isT z = true) (h7 : has S t = false)
  (h : tpropsOk (S ++ [t]).reverse r = true) : tpropsOk S.reverse (.mk k t n [z] :: r) = true := by
 rw [List.reverse_append, List.reverse_singleton, List.singleton_append] at h
 have h8 : S.reverse.contains t = false := by
  simp only [has, List.contains_eq_mem, decide_eq_false_iff_not] at h7 ⊢
  simpa using h7
 simp only [tpropsOk, h, h8, h3, h1, h2, h5]
 rfl
theorem isT_33 {t : Bs} {n : Int} {l : List Tr} (h1 : plainT (.mk 33 t n l) = true) (h2 : tpropsOk [] l = true) : isT (.mk 33 t n l) = true := by
 unfold isT
 simp_all [plainT, Tr.t, Tr.n]

theorem type_32 {N : Nat} (ih : TypeC N) (t : Bs) (n : Int) (l : List Tr) (hx : cnts l < N) (B : Nat) (v : Value) (w : World) (h : NodeAt B w v (.mk 32 t n l)) : Calls Tryz.prog 19 #[v] w (Snd (isT (.mk 32 t n l) = true) w) := by
 have hsv := sv_list
 obtain ⟨p, c, rfl, hks, hkr, hnr, htl, hcp, hkid, xw, C, hd, hk⟩ := hR h
 have xx := xw
 obtain ⟨c0, c1, c2, c3⟩ := C.out
 have K := hid hkid
 have hll := hid hcp.2
 clear h hks hkid hcp hkr hnr
 simp only [nv, Tr.k, Tr.t, Tr.n] at hd ⊢
 have hcn := hid hx
 go_enter Tryz.func19, Tryz.ntmps19
 go_wp2
 go_loopw [4] (fun i wr => ∃ j : Nat, j ≤ l.length ∧ i = .int .i64 j ∧ Hid (unionOk (l.drop j) = true → unionOk l = true) ∧ Fx (w.alloc (.cells #[.int .i64 32, .string (sv t), .int .i64 n, .slice p l.length c] 24)) wr) (fun i _ => l.length - (intOf i).toNat)
 case atStart => exact ⟨0, Nat.zero_le _, rfl, hid (fun h => h), Ext.refl _ _⟩
 case round =>
  obtain ⟨j, hj, rfl, hinv, x2⟩ := hrel
  replace c0 := x2.cellF C.out.1
  replace c1 := x2.cellF C.out.2.1
  replace c2 := x2.cellF C.out.2.2.1
  replace c3 := x2.cellF C.out.2.2.2
  replace xx := xw.of_eq x2
  have hj4 : (j : Int) ≤ 4398046511104 := by have := hll.out; omega
  by_cases hlt : j < l.length
  ·skip
   obtain ⟨g, o, s, rfl, hgB, e0, e1, e2, e3, hy⟩ := K.out j hlt
   have hcy := hid (show cnt l[j] < N from by have := cnt_get hlt; have := hcn.out; omega)
   have hdr := hid (List.drop_eq_getElem_cons hlt)
   generalize l[j] = y at *
   replace ⟨e0, e1, e2, e3⟩ := F4 xx e0 e1 e2 e3
   obtain ⟨k', t', n', l'⟩ := y
   simp only [nv, Tr.k, Tr.t, Tr.n] at *
   replace hy := hid (hy.keepF xx)
   by_cases hk' : k' = 32
   ·subst hk'
    go_wp2_with (go_at_call 19; refine (ih _ hcy.out B _ _ hy.out).mono ?_; rintro e w19 ⟨_ | _, rfl, hb19, x19⟩ <;> (replace hb19 := hid hb19; replace xx := xx.of_eq x19; replace e0 := x19.cellF e0))
    all_goals
     go_ret
     exact .no xx
   ·have hk2 := hid hk'
    go_wp2_with (go_at_call 19; refine (ih _ hcy.out B _ _ hy.out).mono ?_; rintro e w19 ⟨_ | _, rfl, hb19, x19⟩ <;> (replace hb19 := hid hb19; replace xx := xx.of_eq x19; replace e0 := x19.cellF e0))
    all_goals first
     | (go_ret; exact .no xx)
     | skip
    all_goals
     have hstep := hid (fun hr : unionOk (l.drop (j + 1)) = true => hinv.out (by rw [hdr.out]; exact union_step (hb19.out (by trivial)) hk2.out hr))
     go_roundw
     case rel => exact ⟨j + 1, by omega, by go_num, hstep, x2.of_eq x19⟩
     case measure => simp [intOf]; omega
  ·have hfin := hid (show unionOk l = true from hinv.out (by rw [List.drop_of_length_le (by omega)]; rfl))
   have hd2 := hid (hd.out.keepF x2)
   clear hinv hd
   by_cases h2 : 2 ≤ l.length
   ·have h2' : (2 : Int) ≤ l.length := by omega
    go_wp2_with (go_at_call 22; refine (plain_any B _ _ _ hd2.out).mono ?_; rintro e w22 ⟨rfl, z_⟩; replace xx := xx.of_eq z_)
    all_goals
     go_ret
     first
      | exact .no xx
      | exact .yes (isT_32 (by assumption) hfin.out h2) xx
   ·have h2' : ¬ (2 : Int) ≤ l.length := by omega
    go_wp2_with (go_at_call 22; refine (plain_any B _ _ _ hd2.out).mono ?_; rintro e w22 ⟨rfl, z_⟩; replace xx := xx.of_eq z_)
    all_goals
     go_ret
     first
      | exact .no xx
      | exact ⟨_, rfl, fun h => by have := of_decide_eq_true h; omega, xx⟩

theorem type_33 {N : Nat} (ih : TypeC N) (t : Bs) (n : Int) (l : List Tr) (hx : cnts l < N) (B : Nat) (v : Value) (w : World) (h : NodeAt B w v (.mk 33 t n l)) : Calls Tryz.prog 19 #[v] w (Snd (isT (.mk 33 t n l) = true) w) := by
 have hsv := sv_list
 obtain ⟨p, c, rfl, hks, hkr, hnr, htl, hcp, hkid, xw, C, hd, hk⟩ := hR h
 have xx := xw
 obtain ⟨c0, c1, c2, c3⟩ := C.out
 have K := hid hkid
 have hll := hid hcp.2
 clear h hks hkid hcp hkr hnr
 simp only [nv, Tr.k, Tr.t, Tr.n] at hd ⊢
 obtain ⟨ii, hi, hz0, hz1, hz2⟩ := info_parts info9
 have hcn := hid hx
 go_enter Tryz.func19, Tryz.ntmps19
 go_wp2
 go_loopw [5, 6] (fun nm i wr => ∃ (j : Nat) (S : List Bs), j ≤ l.length ∧ Hid (S.length = j) ∧ i = .int .i64 j ∧ Hid (OwnS (w.heap.size + 1) wr nm S) ∧ Hid (tpropsOk S.reverse (l.drop j) = true → tpropsOk [] l = true) ∧ Fx (w.alloc (.cells #[.int .i64 33, .string (sv t), .int .i64 n, .slice p l.length c] 24)) wr) (fun _ i _ => l.length - (intOf i).toNat)
 case atStart => exact ⟨0, [], Nat.zero_le _, hid rfl, rfl, hid (OwnS.nil _ _), hid (fun h => h), Ext.refl _ _⟩
 case round =>
  obtain ⟨j, S, hj, hSj, rfl, hown, hinv, x2⟩ := hrel
  replace c0 := x2.cellF C.out.1
  replace c1 := x2.cellF C.out.2.1
  replace c2 := x2.cellF C.out.2.2.1
  replace c3 := x2.cellF C.out.2.2.2
  replace xx := xw.of_eq x2
  have hj4 : (j : Int) ≤ 4398046511104 := by have := hll.out; omega
  by_cases hlt : j < l.length
  ·skip
   obtain ⟨g, o, s, rfl, hgB, e0, e1, e2, e3, hy⟩ := K.out j hlt
   have hcy := hid (show cnt l[j] < N from by have := cnt_get hlt; have := hcn.out; omega)
   have hdr := hid (List.drop_eq_getElem_cons hlt)
   generalize l[j] = y at *
   replace ⟨e0, e1, e2, e3⟩ := F4 xx e0 e1 e2 e3
   obtain ⟨sl', hs', hks, hkr, hnr, hty⟩ := id hy.open
   obtain rfl : s = sl' := by simpa [nv] using hs'
   clear hs' hkr hnr
   obtain ⟨k', t', n', l'⟩ := y
   simp only [nv, Tr.k, Tr.t, Tr.n, Tr.l] at *
   obtain ⟨p', c', rfl, hcp', hkid'⟩ := hks.kid
   have K' := hid hkid'
   clear hks hkid' hcp' hy
   have xc := x2
   by_cases hk' : k' = 34
   ·subst hk'
    by_cases hn' : n' = 0
    ·subst hn'
     by_cases hl1 : l'.length = 1
     ·obtain ⟨z, rfl⟩ := kid_one hl1
      obtain ⟨g', o', s', rfl, hgB', f0, f1, f2, f3, hz⟩ := K'.out 0 (by simp)
      have hcz := hid (show cnt z < N from by have := hcy.out; simp [cnt, cnts] at this; omega)
      simp only [gZ, zM, aZ, List.length_singleton] at *
      replace ⟨f0, f1, f2, f3⟩ := F4 xx f0 f1 f2 f3
      replace hz := hid (hz.keepF xx)
      simp only [nv] at hz
      have hSl := hid (show S.length ≤ 4398046511104 from by have := hSj.out; have := hll.out; omega)
      clear hl1 K'
      go_wp2_with (first
       | ((first | (go_at_call 46; refine (prop_any t' _ hty).mono ?_; rintro e w46 ⟨_ | _, rfl, hb46, z_⟩ <;> replace hb46 := hid hb46) | (go_at_call 19; refine (ih z hcz.out B _ _ hz.out).mono ?_; rintro e w19 ⟨_ | _, rfl, hb19, z_⟩ <;> replace hb19 := hid hb19)) <;> (replace xx := xx.of_eq z_; replace xc := xc.of_eq z_; replace ⟨e0, e1, e2, e3⟩ := F4 z_ e0 e1 e2 e3; replace ⟨f0, f1, f2, f3⟩ := F4 z_ f0 f1 f2 f3; replace hz := hid (hz.out.keepF z_); replace hown := hid (hown.out.keepF z_)))
       | (go_at_call 48; refine (in_any t' S _ _ hown.out.sl hSl.out).mono ?_; rintro e w48 ⟨rfl, rfl⟩)
       | (at_builtin; refine wpList_append_str rfl (.tmp 139) (.tmp 145) 68 rfl (w.heap.size + 1) ii _ Tryz.underlying68 hi hz0 hz1 hz2 rfl _ S _ _ t' rfl rfl (hown.out.keepF (Ext.alloc _ _ _)) (cell_alloc _ _ _ 0 _ rfl) hSl.out (by rw [alloc_size]; have q1 := xc.size; rw [alloc_size] at q1; omega) ?_; intro p7 n7 c7 w7 hown7 hn7 hx7; subst hn7))
      all_goals first
       | (go_ret; exact .no xx)
       | skip
      all_goals
       have hstep := hid (fun hr : tpropsOk (S ++ [t']).reverse (l.drop (j + 1)) = true => hinv.out (by
        rw [hdr.out]
        exact tprops_step rfl rfl (hb46.out (by trivial)) (hb19.out (by trivial)) (by assumption) hr))
       go_roundw
       case rel => exact ⟨j + 1, S ++ [t'], by omega, hid (by simp [hSj.out]), by go_num, hid hown7, hstep, (xc.of_eq (Ext.alloc _ _ _)).trans (hx7.mono fun k _ hk => .inr (by rw [alloc_size]; exact hk))⟩
       case measure => simp [intOf]; omega
     ·have hl2 : ¬ (l'.length : Int) = 1 := by omega
      have hl3 : ((l'.length : Int) == 1) = false := by simpa using hl2
      clear hl1
      go_wp2_with (go_at_call 46; refine (prop_any t' _ hty).mono ?_; rintro e w46 ⟨_ | _, rfl, hb46, z_⟩ <;> replace hb46 := hid hb46 <;> (replace xx := xx.of_eq z_; replace ⟨e0, e1, e2, e3⟩ := F4 z_ e0 e1 e2 e3))
      all_goals
       go_ret
       exact .no xx
    ·go_wp2
     go_ret
     exact .no xx
   ·go_wp2
    go_ret
    exact .no xx
  ·have hfin := hid (show tpropsOk [] l = true from hinv.out (by rw [List.drop_of_length_le (by omega)]; rfl))
   have hd2 := hid (hd.out.keepF x2)
   clear hinv hd
   go_wp2_with (go_at_call 22; refine (plain_any B _ _ _ hd2.out).mono ?_; rintro e w22 ⟨rfl, z_⟩; replace xx := xx.of_eq z_)
   go_ret
   exact ⟨_, rfl, fun h => isT_33 h hfin.out, xx⟩

theorem type_all : ∀ N, TypeC N := by
 intro N
 induction N with
 | zero => intro x hx; omega
 | succ N ih =>
  intro x hx B v w h
  obtain ⟨k, t, n, l⟩ := x
  have hl : cnts l < N := by simp [cnt] at hx; omega
  by_cases h0 : k = 30
  ·subst h0; exact type_30 t n l B v w h
  by_cases h1 : k = 31
  ·subst h1; exact type_31 ih t n l hl B v w h
  by_cases h2 : k = 32
  ·subst h2; exact type_32 ih t n l hl B v w h
  by_cases h3 : k = 33
  ·subst h3; exact type_33 ih t n l hl B v w h
  by_cases h5 : k = 35
  ·subst h5; exact type_35 ih t n l hl B v w h
  exact (type_none k t n l h0 h1 h2 h3 h5 B v w h).mono fun _ _ q => ⟨false, q.1, by simp, q.2⟩

set_option maxHeartbeats 1000000

theorem typeOr_all (x : Tr) (B : Nat) (v : Value) (w : World) (h : NodeAt B w v x) : Calls Tryz.prog 50 #[v] w (Snd (isTyOr x = true) w) := typeOr_any (type_all (cnt x + 1)) x (by omega) B v w h
theorem params_all (typed : Bool) (x : Tr) (B : Nat) (v : Value) (w : World) (h : NodeAt B w v x) : Calls Tryz.prog 49 #[v, .bool typed] w (Snd (isPms typed x = true) w) := params_any (type_all (cnt x)) typed x (by omega) B v w h

def ExprC (N : Nat) : Prop := ∀ x : Tr, cnt x < N → ∀ B v w, NodeAt B w v x → Calls Tryz.prog 18 #[v] w (Snd (isE x = true) w)
def StmtC (N : Nat) : Prop := ∀ x : Tr, cnt x < N → ∀ B v w, NodeAt B w v x → Calls Tryz.prog 20 #[v] w (Snd (isS x = true) w)

theorem allE_step {y : Tr} {r : List Tr} (h1 : isE y = true) (h : allE r = true) : allE (y :: r) = true := by simp [allE, h1, h]

theorem in_lit (t : Bs) (S : List Bs) (vs : Array Value) (T : TypeId) (m c g : Nat) (w : World) (hv : (strs S).toArray = vs) (hm : S.length = m) (hg : w.heap.size = g) (hl : m ≤ 4398046511104) :
  Calls Tryz.prog 48 #[.string (sv t), .slice (some ⟨g, 0, none⟩) m c] (w.alloc (.cells vs T)) fun e w' => e = .returned (.bool (has S t)) ∧ Fx w w' := by
 subst hv hm hg
 exact (in_any t S _ _ (sl_alloc w S T c) hl).mono fun _ _ h => ⟨h.1, h.2 ▸ Ext.alloc _ _ _⟩

theorem exprs_any {N : Nat} (ih : ExprC N) (l : List Tr) (hx : cnts l < N) (B : Nat) (v : Value) (w : World) (h : KidsAt B w v l) : Calls Tryz.prog 45 #[v] w (Snd (allE l = true) w) := by
 obtain ⟨p, c, rfl, hcp, hkid⟩ := h.kid
 have K := hid hkid
 have hll := hid hcp.2
 have hcn := hid hx
 clear h hkid hcp hx
 go_enter Tryz.func45, Tryz.ntmps45
 go_wp2
 go_loopw [3] (fun i wr => ∃ j : Nat, j ≤ l.length ∧ i = .int .i64 j ∧ Hid (allE (l.drop j) = true → allE l = true) ∧ Fx w wr) (fun i _ => l.length - (intOf i).toNat)
 case atStart => exact ⟨0, Nat.zero_le _, rfl, hid (fun h => h), Ext.refl _ _⟩
 case round =>
  obtain ⟨j, hj, rfl, hinv, xx⟩ := hrel
  have hj4 : (j : Int) ≤ 4398046511104 := by have := hll.out; omega
  by_cases hlt : j < l.length
  ·skip
   obtain ⟨g, o, s, rfl, hgB, e0, e1, e2, e3, hy⟩ := K.out j hlt
   have hcy := hid (show cnt l[j] < N from by have := cnt_get hlt; have := hcn.out; omega)
   have hdr := hid (List.drop_eq_getElem_cons hlt)
   generalize l[j] = y at *
   replace ⟨e0, e1, e2, e3⟩ := F4 xx e0 e1 e2 e3
   replace hy := hid (hy.keepF xx)
   simp only [nv] at hy
   go_wp2_with (go_at_call 18; refine (ih y hcy.out B _ _ hy.out).mono ?_; rintro e w18 ⟨_ | _, rfl, hb18, z_⟩ <;> replace hb18 := hid hb18 <;> (replace xx := xx.of_eq z_))
   all_goals first
    | (go_ret; exact .no xx)
    | skip
   all_goals
    have hstep := hid (fun hr : allE (l.drop (j + 1)) = true => hinv.out (by rw [hdr.out]; exact allE_step (hb18.out (by trivial)) hr))
    go_roundw
    case rel => exact ⟨j + 1, by omega, by go_num, hstep, xx⟩
    case measure => simp [intOf]; omega
  ·have hfin := hid (show allE l = true from hinv.out (by rw [List.drop_of_length_le (by omega)]; rfl))
   clear hinv
   go_wp2
   go_ret
   exact .yes hfin.out xx

theorem block_any {N : Nat} (ih : StmtC N) (x : Tr) (hx : cnt x < N) (B : Nat) (v : Value) (w : World) (h : NodeAt B w v x) : Calls Tryz.prog 51 #[v] w (Snd (isBlk x = true) w) := by
 obtain ⟨sl, rfl, hks, hkr, hnr, htl⟩ := id h.open
 obtain ⟨k, t, n, l⟩ := x
 have xw : Fx w (w.alloc (.cells #[.int .i64 k, .string (sv t), .int .i64 n, sl] 24)) := Ext.alloc _ _ _
 obtain ⟨c0, c1, c2, c3⟩ := nd_cells w k n (sv t) sl
 have hd := hid (h.keepF xw)
 have hcn := hid hx
 clear h hks htl hkr hnr hx
 simp only [nv, Tr.k, Tr.t, Tr.n] at hd ⊢
 by_cases hk : k = 52
 ·subst hk
  go_enter Tryz.func51, Tryz.ntmps51
  go_wp2_with (go_at_call 20; refine (ih _ hcn.out B _ _ hd.out).mono ?_; rintro e w20 ⟨_ | _, rfl, hb20, x20⟩ <;> (replace hb20 := hid hb20))
  all_goals
   go_ret
   first
    | exact .no (xw.of_eq x20)
    | exact .yes (by unfold isBlk; rw [hb20.out (by trivial)]; rfl) (xw.of_eq x20)
 ·go_enter Tryz.func51, Tryz.ntmps51
  go_wp2
  go_ret
  exact .no xw

theorem body_any {N : Nat} (ih : StmtC N) (l : List Tr) (hx : cnts l < N) (B : Nat) (v : Value) (w : World) (h : KidsAt B w v l) : Calls Tryz.prog 47 #[v] w (Snd (isBody l = true) w) := by
 obtain ⟨p, c, rfl, hcp, hkid⟩ := h.kid
 have K := hid hkid
 have xw : Fx w w := Ext.refl _ _
 have xx := xw
 clear hkid
 by_cases hl1 : l.length = 3
 ·obtain ⟨x, y, z, rfl⟩ := kid_three hl1
  have hcz := hid (show cnt z < N from by simp [cnts] at hx; omega)
  obtain ⟨g, o, s0, rfl, hgB, a0, a1, a2, a3, ha⟩ := K.out 0 (by simp)
  obtain ⟨g1, o1, s1, hgo, hgB1, b0, b1, b2, b3, hb⟩ := K.out 1 (by simp)
  simp only [Option.some.injEq, Addr.mk.injEq, and_true] at hgo
  obtain ⟨rfl, rfl⟩ := hgo
  obtain ⟨g2, o2, s2, hgo, hgB2, d0, d1, d2, d3, hd⟩ := K.out 2 (by simp)
  simp only [Option.some.injEq, Addr.mk.injEq, and_true] at hgo
  obtain ⟨rfl, rfl⟩ := hgo
  simp only [gZ, gS, zM, oM, aZ, lC, lN, zA, Nat.reduceAdd, Nat.reduceMul] at *
  replace ⟨a0, a1, a2, a3⟩ := F4 xw a0 a1 a2 a3
  replace ha := hid (ha.keepF xw)
  simp only [nv] at ha
  replace ⟨b0, b1, b2, b3⟩ := F4 xw b0 b1 b2 b3
  replace hb := hid (hb.keepF xw)
  simp only [nv] at hb
  replace ⟨d0, d1, d2, d3⟩ := F4 xw d0 d1 d2 d3
  replace hd := hid (hd.keepF xw)
  simp only [nv] at hd
  clear hl1 K h
  go_enter Tryz.func47, Tryz.ntmps47
  go_wp2_with (first
   | ((first | (go_at_call 49; refine (params_all false x B _ _ ha.out).mono ?_; rintro e w49 ⟨_ | _, rfl, hb49, z_⟩ <;> replace hb49 := hid hb49) | (go_at_call 50; refine (typeOr_all y B _ _ hb.out).mono ?_; rintro e w50 ⟨_ | _, rfl, hb50, z_⟩ <;> replace hb50 := hid hb50)) <;> (replace xx := xx.of_eq z_; replace ⟨b0, b1, b2, b3⟩ := F4 z_ b0 b1 b2 b3; replace ⟨d0, d1, d2, d3⟩ := F4 z_ d0 d1 d2 d3; replace hb := hid (hb.out.keepF z_); replace hd := hid (hd.out.keepF z_)))
   | (go_at_call 51; refine (block_any ih z hcz.out B _ _ hd.out).mono ?_; rintro e w51 ⟨_ | _, rfl, hb51, z_⟩ <;> replace hb51 := hid hb51 <;> (replace xx := xx.of_eq z_; )))
  all_goals
   go_ret
   first
    | exact .no xx
    | exact .yes (by show (isPms false x && isTyOr y && isBlk z) = true; rw [hb49.out (by trivial), hb50.out (by trivial), hb51.out (by trivial)]; rfl) xx
 ·have hl2 : ¬ (l.length : Int) = 3 := by omega
  have hl3 : ((l.length : Int) == 3) = false := by simpa using hl2
  clear hl1
  go_enter Tryz.func47, Tryz.ntmps47
  go_wp2
  go_ret
  exact .no xx

end Go.Proofs.YtpmlmpibpmoclaaGreatDoor
