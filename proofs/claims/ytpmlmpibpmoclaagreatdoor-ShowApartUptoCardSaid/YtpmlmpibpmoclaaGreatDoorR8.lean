/-
  The document's answer on trees: names, spaces, dollars.
-/
import Derived.Test.YtpmlmpibpmoclaaGreatDoorR7
namespace Go.Proofs.YtpmlmpibpmoclaaGreatDoor
set_option linter.all false
set_option maxRecDepth 20000
set_option maxHeartbeats 4000000
open Go.RowKit

theorem name_any (loose : Bool) (x : Tr) (B : Nat) (v : Value) (w : World) (h : NodeAt B w v x) : Calls Tryz.prog 55 #[v, .bool loose] w (Snd (isName loose x = true) w) := by
 obtain ⟨sl, rfl, hks, hkr, hnr, htl⟩ := id h.open
 obtain ⟨k, t, n, l⟩ := x
 have xw : Fx w (w.alloc (.cells #[.int .i64 k, .string (sv t), .int .i64 n, sl] 24)) := Ext.alloc _ _ _
 have xx := xw
 obtain ⟨c0, c1, c2, c3⟩ := nd_cells w k n (sv t) sl
 have hd := hid (h.keepF xw)
 clear h hks hkr hnr
 simp only [nv, Tr.k, Tr.t, Tr.n] at hd htl ⊢
 by_cases hk : k = 6
 ·subst hk
  by_cases hn : n = 0
  ·subst hn
   cases loose
   all_goals
    go_enter Tryz.func55, Tryz.ntmps55
    go_wp2_with ((first | (go_at_call 42; refine (bare_any B _ _ _ hd.out).mono ?_; rintro e w42 ⟨rfl, z_⟩) | (go_at_call 44; refine (id_any t _ htl).mono ?_; rintro e w44 ⟨_ | _, rfl, hb44, z_⟩ <;> replace hb44 := hid hb44) | (go_at_call 46; refine (prop_any t _ htl).mono ?_; rintro e w46 ⟨_ | _, rfl, hb46, z_⟩ <;> replace hb46 := hid hb46)) <;> (replace xx := xx.of_eq z_; replace ⟨c0, c1, c2, c3⟩ := F4 z_ c0 c1 c2 c3))
    all_goals
     go_ret
     first
      | exact .no xx
      | (refine ⟨_, rfl, fun hh => ?_, xx⟩; unfold isName; simp only [Tr.k, Tr.t, Tr.n]; simp_all [Hid])
      | (refine ⟨_, rfl, fun hh => ?_, xx⟩; unfold isName; simp only [Tr.k, Tr.t, Tr.n]; rw [hb44.out (by trivial)]; simp_all)
      | (refine ⟨_, rfl, fun hh => ?_, xx⟩; unfold isName; simp only [Tr.k, Tr.t, Tr.n]; rw [hb46.out (by trivial)]; simp_all)
  ·go_enter Tryz.func55, Tryz.ntmps55
   go_wp2
   go_ret
   exact .no xx
 ·go_enter Tryz.func55, Tryz.ntmps55
  go_wp2
  go_ret
  exact .no xx

def okSp (o : Tr) : Bool := o.k == 67 && o.n == 0 && signs o.t && (match o.l with | [y] => isName false y | _ => false)
theorem okSp_one {t : Bs} {z : Tr} (h1 : signs t = true) (h2 : isName false z = true) : okSp (.mk 67 t 0 [z]) = true := by
 unfold okSp; simp [Tr.k, Tr.n, Tr.t, Tr.l, h1, h2]
theorem isSpace_of {t : Bs} {l : List Tr} (h1 : isId t = true) (h2 : l.all okSp = true) : isSpace (.mk 66 t 0 l) = true := by
 unfold isSpace
 simp only [Tr.k, Tr.n, Tr.t, Tr.l, h1]
 exact h2
theorem all_step {f : Tr → Bool} {y : Tr} {r : List Tr} (h1 : f y = true) (h : r.all f = true) : (y :: r).all f = true := by simp [h1, h]

theorem space_66 (t : Bs) (l : List Tr) (B : Nat) (v : Value) (w : World) (h : NodeAt B w v (.mk 66 t 0 l)) : Calls Tryz.prog 25 #[v] w (Snd (isSpace (.mk 66 t 0 l) = true) w) := by
 obtain ⟨p, c, rfl, hks, hkr, hnr, htl, hcp, hkid, xw, C, _, _⟩ := hR h
 have xx := xw
 obtain ⟨c0, c1, c2, c3⟩ := C.out
 have K := hid hkid
 have hll := hid hcp.2
 clear h hks hkid hcp hkr hnr
 simp only [nv, Tr.k, Tr.t, Tr.n]
 go_enter Tryz.func25, Tryz.ntmps25
 go_wp2_with (go_at_call 44; refine (id_any t _ htl).mono ?_; rintro e w44 ⟨_ | _, rfl, hb44, x44⟩ <;> (replace hb44 := hid hb44; replace xx := xx.of_eq x44; replace ⟨c0, c1, c2, c3⟩ := F4 x44 c0 c1 c2 c3))
 all_goals first
  | (go_ret; exact .no xx)
  | skip
 clear c0 c1 c2 c3 xx
 go_loopw [3] (fun i wr => ∃ j : Nat, j ≤ l.length ∧ i = .int .i64 j ∧ Hid ((l.drop j).all okSp = true → l.all okSp = true) ∧ Fx (w.alloc (.cells #[.int .i64 66, .string (sv t), .int .i64 0, .slice p l.length c] 24)) wr) (fun i _ => l.length - (intOf i).toNat)
 case atStart => exact ⟨0, Nat.zero_le _, rfl, hid (fun h => h), x44⟩
 case round =>
  obtain ⟨j, hj, rfl, hinv, x2⟩ := hrel
  have c3 := x2.cellF C.out.2.2.2
  have xx := xw.of_eq x2
  have hj4 : (j : Int) ≤ 4398046511104 := by have := hll.out; omega
  by_cases hlt : j < l.length
  ·skip
   obtain ⟨g, o, s, rfl, hgB, a0, a1, a2, a3, ha⟩ := K.out j hlt
   have hdr := hid (List.drop_eq_getElem_cons hlt)
   generalize l[j] = y at *
   obtain ⟨sl', hs', hks, hkr, hnr, htl'⟩ := id ha.open
   obtain rfl : s = sl' := by simpa [nv] using hs'
   clear hs' hkr hnr
   obtain ⟨k', t', n', l'⟩ := y
   simp only [Tr.k, Tr.t, Tr.n, Tr.l] at hks htl' a0 a1 a2
   obtain ⟨p', c', rfl, hcp', hkid'⟩ := hks.kid
   replace ⟨a0, a1, a2, a3⟩ := F4 xx a0 a1 a2 a3
   have K' := hid hkid'
   have HK := hid hks
   replace hcp' := hid hcp'
   clear hks hkid' ha
   have xa := xx.of_eq (Ext.alloc _ wr (.cells #[.int .i64 k', .string (sv t'), .int .i64 n', .slice p' l'.length c'] 24))
   have xb := x2.of_eq (Ext.alloc _ wr (.cells #[.int .i64 k', .string (sv t'), .int .i64 n', .slice p' l'.length c'] 24))
   obtain ⟨d0, d1, d2, d3⟩ := nd_cells wr k' n' (sv t') (.slice p' l'.length c')
   by_cases hk' : k' = 67
   ·subst hk'
    by_cases hn' : n' = 0
    ·subst hn'
     by_cases hl1 : l'.length = 1
     ·skip
      obtain ⟨z, rfl⟩ := kid_one hl1
      obtain ⟨g', o', s', rfl, hgB', f0, f1, f2, f3, hz⟩ := K'.out 0 (by simp)
      simp only [gZ, zM, aZ, List.length_singleton] at *
      replace ⟨f0, f1, f2, f3⟩ := F4 xa f0 f1 f2 f3
      replace hz := hid (hz.keepF xa)
      simp only [nv] at hz
      clear hl1 K' HK
      have xc := xb
      go_wp2_with ((first | (go_at_call 46; refine (prop_any t' _ htl').mono ?_; rintro e w46 ⟨_ | _, rfl, hb46, z_⟩ <;> replace hb46 := hid hb46) | (go_at_call 55; refine (name_any false z B _ _ hz.out).mono ?_; rintro e w55 ⟨_ | _, rfl, hb55, z_⟩ <;> replace hb55 := hid hb55)) <;> (replace xa := xa.of_eq z_; replace xc := xc.of_eq z_; replace ⟨d0, d1, d2, d3⟩ := F4 z_ d0 d1 d2 d3; replace ⟨f0, f1, f2, f3⟩ := F4 z_ f0 f1 f2 f3; replace hz := hid (hz.out.keepF z_)))
      all_goals first
       | (go_ret; exact .no xa)
       | skip
      all_goals
       have hstep := hid (fun hr : (l.drop (j + 1)).all okSp = true => hinv.out (by
        rw [hdr.out]
        exact all_step (okSp_one (hb46.out (by trivial)) (hb55.out (by trivial))) hr))
       go_roundw
       case rel => exact ⟨j + 1, by omega, by go_num, hstep, xc⟩
       case measure => simp [intOf]; omega
     ·skip
      have hl2 : ¬ (l'.length : Int) = 1 := by omega
      have hl3 : ((l'.length : Int) == 1) = false := by simpa using hl2
      clear hl1
      go_wp2_with (go_at_call 46; refine (prop_any t' _ htl').mono ?_; rintro e w46 ⟨_ | _, rfl, hb46, z_⟩ <;> replace hb46 := hid hb46 <;> (replace xa := xa.of_eq z_; replace ⟨d0, d1, d2, d3⟩ := F4 z_ d0 d1 d2 d3))
      all_goals
       go_ret
       exact .no xa
    ·skip
     go_wp2
     go_ret
     exact .no xa
   ·skip
    go_wp2
    go_ret
    exact .no xa
  ·have hfin := hid (show l.all okSp = true from hinv.out (by rw [List.drop_of_length_le (by omega)]; rfl))
   clear hinv
   go_wp2
   go_ret
   exact .yes (isSpace_of (hb44.out (by trivial)) hfin.out) xx

theorem space_any (x : Tr) (B : Nat) (v : Value) (w : World) (h : NodeAt B w v x) : Calls Tryz.prog 25 #[v] w (Snd (isSpace x = true) w) := by
 obtain ⟨k, t, n, l⟩ := x
 by_cases hk : k = 66
 ·by_cases hn : n = 0
  ·subst hk hn
   exact space_66 t l B v w h
  ·subst hk
   obtain ⟨sl, rfl, hks, hkr, hnr, htl⟩ := id h.open
   have xx : Fx w (w.alloc (.cells #[.int .i64 66, .string (sv t), .int .i64 n, sl] 24)) := Ext.alloc _ _ _
   obtain ⟨c0, c1, c2, c3⟩ := nd_cells w 66 n (sv t) sl
   clear h hks hkr hnr
   simp only [nv, Tr.k, Tr.t, Tr.n] at htl ⊢
   go_enter Tryz.func25, Tryz.ntmps25
   go_wp2_with (go_at_call 44; refine (id_any t _ htl).mono ?_; rintro e w44 ⟨_ | _, rfl, hb44, z_⟩ <;> replace hb44 := hid hb44 <;> (replace xx := xx.of_eq z_; replace ⟨c0, c1, c2, c3⟩ := F4 z_ c0 c1 c2 c3))
   all_goals
    go_ret
    exact .no xx
 ·obtain ⟨sl, rfl, hks, hkr, hnr, htl⟩ := id h.open
  have xx : Fx w (w.alloc (.cells #[.int .i64 k, .string (sv t), .int .i64 n, sl] 24)) := Ext.alloc _ _ _
  obtain ⟨c0, c1, c2, c3⟩ := nd_cells w k n (sv t) sl
  clear h hks hkr hnr
  simp only [nv, Tr.k, Tr.t, Tr.n] at htl ⊢
  go_enter Tryz.func25, Tryz.ntmps25
  go_wp2
  go_ret
  exact .no xx

end Go.Proofs.YtpmlmpibpmoclaaGreatDoor
