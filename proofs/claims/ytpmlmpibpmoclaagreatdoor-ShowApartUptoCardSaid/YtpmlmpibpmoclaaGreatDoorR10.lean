/-
  The document's answer on trees: imports.
-/
import Derived.Test.YtpmlmpibpmoclaaGreatDoorR9
namespace Go.Proofs.YtpmlmpibpmoclaaGreatDoor
set_option linter.all false
set_option maxRecDepth 20000
set_option maxHeartbeats 8000000
open Go.RowKit

theorem class_any (x : Tr) (B : Nat) (v : Value) (w : World) (h : NodeAt B w v x) : Calls Tryz.prog 24 #[v] w (Snd (isClass x = true) w) := by
 obtain ⟨k, t, n, l⟩ := x
 by_cases hk : k = 42
 ·by_cases hn : n = 0
  ·subst hk hn
   exact class_42 t l B v w h
  ·subst hk
   obtain ⟨sl, rfl, hks, hkr, hnr, htl⟩ := id h.open
   have xx : Fx w (w.alloc (.cells #[.int .i64 42, .string (sv t), .int .i64 n, sl] 24)) := Ext.alloc _ _ _
   obtain ⟨c0, c1, c2, c3⟩ := nd_cells w 42 n (sv t) sl
   clear h hks hkr hnr
   simp only [nv, Tr.k, Tr.t, Tr.n] at htl ⊢
   go_enter Tryz.func24, Tryz.ntmps24
   go_wp2_with (go_at_call 44; refine (id_any t _ htl).mono ?_; rintro e w44 ⟨_ | _, rfl, hb44, z_⟩ <;> replace hb44 := hid hb44 <;> (replace xx := xx.of_eq z_; replace ⟨c0, c1, c2, c3⟩ := F4 z_ c0 c1 c2 c3))
   all_goals
    go_ret
    exact .no xx
 ·obtain ⟨sl, rfl, hks, hkr, hnr, htl⟩ := id h.open
  have xx : Fx w (w.alloc (.cells #[.int .i64 k, .string (sv t), .int .i64 n, sl] 24)) := Ext.alloc _ _ _
  obtain ⟨c0, c1, c2, c3⟩ := nd_cells w k n (sv t) sl
  clear h hks hkr hnr
  simp only [nv, Tr.k, Tr.t, Tr.n] at htl ⊢
  go_enter Tryz.func24, Tryz.ntmps24
  go_wp2
  go_ret
  exact .no xx

theorem imps_step {f : Bs} {i : Nat} {t : Bs} {z : Tr} {r : List Tr} (h1 : isName false z = true) (h2 : t = star ∨ signs t = true) (h3 : t = star → i ≤ 1 ∧ (i = 0 ∨ f = [100, 101, 102, 97, 117, 108, 116]) ∧ r = []) (h : impsOk f (i + 1) r = true) : impsOk f i (.mk 61 t 0 [z] :: r) = true := by
 by_cases hs : t = star
 ·obtain ⟨a, b, c⟩ := h3 hs
  subst hs c
  rcases b with rfl | rfl
  ·simp [impsOk, h1]
  ·simp [impsOk, h1, a]
 ·have h4 := h2.resolve_left hs
  simp [impsOk, h1, h, h4, hs]
def firstT (l : List Tr) : Bs := match l with | [] => [] | y :: _ => y.t
theorem isImport_of {t : Bs} {n : Int} {l : List Tr} (h1 : valid t = true) (h2 : n = 0 ∨ n = 1) (h3 : impsOk (firstT l) 0 l = true) (h4 : n = 0 ∨ (l ≠ [] ∧ hasStar l = false)) : isImport (.mk 60 t n l) = true := by
 unfold isImport
 simp only [Tr.t, Tr.n, Tr.l]
 cases l with
 | nil =>
  rcases h4 with rfl | ⟨a, b⟩
  ·rw [h1]; rfl
  ·exact absurd rfl a
 | cons y r =>
  obtain ⟨yk, yt, yn, yl⟩ := y
  simp only [firstT, Tr.t] at h3
  simp only [h1, h3]
  rcases h4 with rfl | ⟨a, b⟩
  ·rfl
  ·rw [b]
   rcases h2 with rfl | rfl <;> rfl
theorem hasStar_take {l : List Tr} {j : Nat} (h : j < l.length) {sb sb' : Bool} (h1 : hasStar (l.take j) = true → sb = true) (h2 : sb = true → sb' = true) (h3 : l[j].t = star → sb' = true) : hasStar (l.take (j + 1)) = true → sb' = true := by
 intro hh
 rw [List.take_succ_eq_append_getElem h] at hh
 unfold hasStar at hh h1
 rw [List.any_append, Bool.or_eq_true] at hh
 rcases hh with hh | hh
 ·exact h2 (h1 hh)
 ·exact h3 (by simpa using hh)

theorem import_round (n : Int) (hn01 : n = 0 ∨ n = 1) (t : Bs) (l : List Tr) (B : Nat) (v : Value) (w : World) (h : NodeAt B w v (.mk 60 t n l)) : Calls Tryz.prog 53 #[v] w (Snd (isImport (.mk 60 t n l) = true) w) := by
 have hsv := sv_list
 obtain ⟨p, c, rfl, hks, hkr, hnr, htl, hcp, hkid, xw, C, _, _⟩ := hR h
 have xx := xw
 obtain ⟨c0, c1, c2, c3⟩ := C.out
 have K := hid hkid
 have hll := hid hcp.2
 have hn := hid hn01
 clear h hks hkid hcp hkr hnr
 simp only [nv, Tr.k, Tr.t, Tr.n]
 rcases hn01 with rfl | rfl
 all_goals
  go_enter Tryz.func53, Tryz.ntmps53
  go_wp2_with (go_at_call 43; refine (valid_any t _ htl).mono ?_; rintro e w43 ⟨_ | _, rfl, hb43, x43⟩ <;> (replace hb43 := hid hb43; replace xx := xx.of_eq x43; replace ⟨c0, c1, c2, c3⟩ := F4 x43 c0 c1 c2 c3))
 all_goals first
  | (go_ret; exact .no xx)
  | skip
 all_goals
  clear c0 c1 c2 c3 xx
  go_loopw [3, 4] (fun sr i wr => ∃ (j : Nat) (sb : Bool), j ≤ l.length ∧ sr = .bool sb ∧ i = .int .i64 j ∧ Hid (impsOk (firstT l) j (l.drop j) = true → impsOk (firstT l) 0 l = true) ∧ Hid (hasStar (l.take j) = true → sb = true) ∧ Fx _ wr) (fun _ i _ => l.length - (intOf i).toNat)
  case atStart => exact ⟨0, false, Nat.zero_le _, rfl, rfl, hid (fun h => h), hid (by simp [hasStar]), x43⟩
  case round =>
   obtain ⟨j, sb, hj, rfl, rfl, hinv, hstar, x2⟩ := hrel
   have c0 := x2.cellF C.out.1
   have c1 := x2.cellF C.out.2.1
   have c2 := x2.cellF C.out.2.2.1
   have c3 := x2.cellF C.out.2.2.2
   have xx := xw.of_eq x2
   have hj4 : (j : Int) ≤ 4398046511104 := by have := hll.out; omega
   by_cases hlt : j < l.length
   ·have hjl := hid hlt
    have hst := hid (fun (sb' : Bool) => hasStar_take (sb' := sb') hlt hstar.out)
    have hfst := hid (show ∀ h0 : 0 < l.length, firstT l = l[0].t from fun h0 => by cases l with | nil => simp at h0 | cons y r => rfl)
    obtain ⟨g, o, s, rfl, hgB, a0, a1, a2, a3, ha⟩ := K.out j hlt
    have hdr := hid (List.drop_eq_getElem_cons hlt)
    generalize l[j] = y at *
    obtain ⟨sl', hs', hks, hkr, hnr, htl'⟩ := id ha.open
    obtain rfl : s = sl' := by simpa [nv] using hs'
    clear hs' hkr hnr
    obtain ⟨k', t', n', l'⟩ := y
    simp only [Tr.k, Tr.t, Tr.n, Tr.l] at hks htl' a0 a1 a2
    obtain ⟨p', c', rfl, hcp', hkid'⟩ := hks.kid
    replace ⟨a0, a1, a2, a3⟩ := F4 xx a0 a1 a2 a3
    have K' := hid hkid'
    have HK := hid hks
    replace hcp' := hid hcp'
    clear hks hkid' ha
    have xa := xx.of_eq (Ext.alloc _ wr (.cells #[.int .i64 k', .string (sv t'), .int .i64 n', .slice p' l'.length c'] 24))
    have xb := x2.of_eq (Ext.alloc _ wr (.cells #[.int .i64 k', .string (sv t'), .int .i64 n', .slice p' l'.length c'] 24))
    obtain ⟨d0, d1, d2, d3⟩ := nd_cells wr k' n' (sv t') (.slice p' l'.length c')
    have xc := xb
    have q0 := (Ext.alloc (fun _ => False) wr (.cells #[.int .i64 k', .string (sv t'), .int .i64 n', .slice p' l'.length c'] 24)).cellF c0
    have q1 := (Ext.alloc (fun _ => False) wr (.cells #[.int .i64 k', .string (sv t'), .int .i64 n', .slice p' l'.length c'] 24)).cellF c1
    have q2 := (Ext.alloc (fun _ => False) wr (.cells #[.int .i64 k', .string (sv t'), .int .i64 n', .slice p' l'.length c'] 24)).cellF c2
    have q3 := (Ext.alloc (fun _ => False) wr (.cells #[.int .i64 k', .string (sv t'), .int .i64 n', .slice p' l'.length c'] 24)).cellF c3
    by_cases hk' : k' = 61
    ·subst hk'
     by_cases hn' : n' = 0
     ·subst hn'
      by_cases hl1 : l'.length = 1
      ·have HK2 := hid (show True from trivial)
       obtain ⟨z, rfl⟩ := kid_one hl1
       obtain ⟨g', o', s', rfl, hgB', f0, f1, f2, f3, hz⟩ := K'.out 0 (by simp)
       simp only [gZ, zM, aZ, List.length_singleton] at *
       replace ⟨f0, f1, f2, f3⟩ := F4 xa f0 f1 f2 f3
       replace hz := hid (hz.keepF xa)
       simp only [nv] at hz
       clear hl1 K' HK
       by_cases ht : t' = [42]
       ·subst ht
        have hsb := hid (hst.out true (by simp) (fun _ => rfl))
        rcases (show j = 0 ∨ j = 1 ∨ 1 < j by omega) with hj0 | hj0 | hj0
        ·have hA : ((j : Int) == 1) = false := by simp; omega
         have hA2 : ¬ (1 : Int) < j := by omega
         by_cases hlast : j + 1 < l.length
         ·have hB : (j : Int) + 1 < l.length := by omega
          clear hj0 hlast
          go_wp2_with ((first | (go_at_call 55; refine (name_any false z B _ _ hz.out).mono ?_; rintro e w55 ⟨_ | _, rfl, hb55, z_⟩ <;> replace hb55 := hid hb55) | (go_at_call 46; refine (prop_any _ _ htl').mono ?_; rintro e w46 ⟨_ | _, rfl, hb46, z_⟩ <;> replace hb46 := hid hb46)) <;> (replace xa := xa.of_eq z_; replace xc := xc.of_eq z_; replace ⟨d0, d1, d2, d3⟩ := F4 z_ d0 d1 d2 d3; replace ⟨q0, q1, q2, q3⟩ := F4 z_ q0 q1 q2 q3))
          all_goals
           go_ret
           exact .no xa
         ·have hB : ¬ (j : Int) + 1 < l.length := by omega
          have hre := hid (show l.drop (j + 1) = [] from List.drop_of_length_le (by omega))
          have hj0' := hid hj0
          clear hj0 hlast
          go_wp2_with ((first | (go_at_call 55; refine (name_any false z B _ _ hz.out).mono ?_; rintro e w55 ⟨_ | _, rfl, hb55, z_⟩ <;> replace hb55 := hid hb55) | (go_at_call 46; refine (prop_any _ _ htl').mono ?_; rintro e w46 ⟨_ | _, rfl, hb46, z_⟩ <;> replace hb46 := hid hb46)) <;> (replace xa := xa.of_eq z_; replace xc := xc.of_eq z_; replace ⟨d0, d1, d2, d3⟩ := F4 z_ d0 d1 d2 d3; replace ⟨q0, q1, q2, q3⟩ := F4 z_ q0 q1 q2 q3))
          all_goals first
           | (go_ret; exact .no xa)
           | skip
          all_goals
           have hstep := hid (fun hr : impsOk (firstT l) (j + 1) (l.drop (j + 1)) = true => hinv.out (by
            rw [hdr.out]
            exact imps_step (hb55.out (by trivial)) (.inl rfl) (fun _ => ⟨by have := hj0'.out; omega, .inl hj0'.out, hre.out⟩) hr))
           go_roundw
           case rel => exact ⟨j + 1, true, by omega, rfl, by go_num, hstep, hid (fun _ => rfl), xc⟩
           case measure => simp [intOf]; omega
        ·have hA : ((j : Int) == 1) = true := by simp; omega
         have hA2 : ¬ (1 : Int) < j := by omega
         have h0l : 0 < l.length := by have := hjl.out; omega
         obtain ⟨g0, o0, s0, hp0, hg0, e0, e1, e2, e3, he⟩ := K.out 0 h0l
         simp only [Option.some.injEq, Addr.mk.injEq, and_true] at hp0
         obtain ⟨rfl, rfl⟩ := hp0
         have hf0 := hid (hfst.out h0l)
         simp only [zM, aZ] at e0 e1 e2 e3
         replace e1 := xa.cellF e1
         generalize l[0].t = ft at *
         clear e0 e2 e3 he
         have hj0' := hid hj0
         by_cases hdf : ft = [100, 101, 102, 97, 117, 108, 116]
         ·subst hdf
          by_cases hlast : j + 1 < l.length
          ·have hB : (j : Int) + 1 < l.length := by omega
           clear hj0
           go_wp2_with ((first | (go_at_call 55; refine (name_any false z B _ _ hz.out).mono ?_; rintro e w55 ⟨_ | _, rfl, hb55, z_⟩ <;> replace hb55 := hid hb55) | (go_at_call 46; refine (prop_any _ _ htl').mono ?_; rintro e w46 ⟨_ | _, rfl, hb46, z_⟩ <;> replace hb46 := hid hb46)) <;> (replace xa := xa.of_eq z_; replace xc := xc.of_eq z_; replace ⟨d0, d1, d2, d3⟩ := F4 z_ d0 d1 d2 d3; replace ⟨q0, q1, q2, q3⟩ := F4 z_ q0 q1 q2 q3; replace e1 := z_.cellF e1))
           all_goals
            go_ret
            exact .no xa
          ·have hB : ¬ (j : Int) + 1 < l.length := by omega
           have hre := hid (show l.drop (j + 1) = [] from List.drop_of_length_le (by omega))
           clear hj0 hlast
           go_wp2_with ((first | (go_at_call 55; refine (name_any false z B _ _ hz.out).mono ?_; rintro e w55 ⟨_ | _, rfl, hb55, z_⟩ <;> replace hb55 := hid hb55) | (go_at_call 46; refine (prop_any _ _ htl').mono ?_; rintro e w46 ⟨_ | _, rfl, hb46, z_⟩ <;> replace hb46 := hid hb46)) <;> (replace xa := xa.of_eq z_; replace xc := xc.of_eq z_; replace ⟨d0, d1, d2, d3⟩ := F4 z_ d0 d1 d2 d3; replace ⟨q0, q1, q2, q3⟩ := F4 z_ q0 q1 q2 q3; replace e1 := z_.cellF e1))
           all_goals first
            | (go_ret; exact .no xa)
            | skip
           all_goals
            have hstep := hid (fun hr : impsOk (firstT l) (j + 1) (l.drop (j + 1)) = true => hinv.out (by
             rw [hdr.out]
             exact imps_step (hb55.out (by trivial)) (.inl rfl) (fun _ => ⟨by have := hj0'.out; omega, .inr hf0.out, hre.out⟩) hr))
            go_roundw
            case rel => exact ⟨j + 1, true, by omega, rfl, by go_num, hstep, hid (fun _ => rfl), xc⟩
            case measure => simp [intOf]; omega
         ·clear hj0
          go_wp2_with ((first | (go_at_call 55; refine (name_any false z B _ _ hz.out).mono ?_; rintro e w55 ⟨_ | _, rfl, hb55, z_⟩ <;> replace hb55 := hid hb55) | (go_at_call 46; refine (prop_any _ _ htl').mono ?_; rintro e w46 ⟨_ | _, rfl, hb46, z_⟩ <;> replace hb46 := hid hb46)) <;> (replace xa := xa.of_eq z_; replace xc := xc.of_eq z_; replace ⟨d0, d1, d2, d3⟩ := F4 z_ d0 d1 d2 d3; replace ⟨q0, q1, q2, q3⟩ := F4 z_ q0 q1 q2 q3; replace e1 := z_.cellF e1))
          all_goals
           go_ret
           exact .no xa
        ·have hA : (1 : Int) < j := by omega
         clear hj0
         go_wp2_with ((first | (go_at_call 55; refine (name_any false z B _ _ hz.out).mono ?_; rintro e w55 ⟨_ | _, rfl, hb55, z_⟩ <;> replace hb55 := hid hb55) | (go_at_call 46; refine (prop_any _ _ htl').mono ?_; rintro e w46 ⟨_ | _, rfl, hb46, z_⟩ <;> replace hb46 := hid hb46)) <;> (replace xa := xa.of_eq z_; replace xc := xc.of_eq z_; replace ⟨d0, d1, d2, d3⟩ := F4 z_ d0 d1 d2 d3; replace ⟨q0, q1, q2, q3⟩ := F4 z_ q0 q1 q2 q3))
         all_goals
          go_ret
          exact .no xa
       ·have hsb := hid (hst.out sb (fun h => h) (fun h => absurd h ht))
        have ht2 := hid ht
        have ht3 : (t' == [42]) = false := by simpa using ht
        have ht4 : (t' != [42]) = true := by simpa using ht
        go_wp2_with ((first | (go_at_call 55; refine (name_any false z B _ _ hz.out).mono ?_; rintro e w55 ⟨_ | _, rfl, hb55, z_⟩ <;> replace hb55 := hid hb55) | (go_at_call 46; refine (prop_any _ _ htl').mono ?_; rintro e w46 ⟨_ | _, rfl, hb46, z_⟩ <;> replace hb46 := hid hb46)) <;> (replace xa := xa.of_eq z_; replace xc := xc.of_eq z_; replace ⟨d0, d1, d2, d3⟩ := F4 z_ d0 d1 d2 d3; replace ⟨q0, q1, q2, q3⟩ := F4 z_ q0 q1 q2 q3))
        all_goals first
         | (go_ret; exact .no xa)
         | skip
        all_goals
         have hstep := hid (fun hr : impsOk (firstT l) (j + 1) (l.drop (j + 1)) = true => hinv.out (by
          rw [hdr.out]
          exact imps_step (hb55.out (by trivial)) (.inr (hb46.out (by trivial))) (fun h => absurd h ht2.out) hr))
         go_roundw
         case rel => exact ⟨j + 1, sb, by omega, rfl, by go_num, hstep, hsb, xc⟩
         case measure => simp [intOf]; omega
      ·skip
       have hl2 : ¬ (l'.length : Int) = 1 := by omega
       have hl3 : ((l'.length : Int) == 1) = false := by simpa using hl2
       clear hl1
       go_wp2
       all_goals
        go_ret
        exact .no xa
     ·go_wp2
      go_ret
      exact .no xa
    ·go_wp2
     go_ret
     exact .no xa
   ·have hfin := hid (show impsOk (firstT l) 0 l = true from hinv.out (by rw [List.drop_of_length_le (by omega)]; rfl))
    have hst2 := hid (show hasStar l = true → sb = true from by have := hstar.out; rwa [List.take_of_length_le (by omega)] at this)
    clear hinv hstar
    cases sb
    all_goals
     go_wp2
    all_goals
     go_ret
     first
      | exact .no xx
      | exact .yes (isImport_of (hb43.out (by trivial)) (by decide) hfin.out (.inl rfl)) xx
      | (refine ⟨_, rfl, fun hh => isImport_of (hb43.out (by trivial)) (by decide) hfin.out (.inr ⟨fun h => by subst h; first | (simp at hh; done) | (exfalso; simp_all; done) | (exfalso; simp at *; done) | (exfalso; omega), ?_⟩), xx⟩
         cases hq : hasStar l with
         | false => rfl
         | true => have := hst2.out hq; simp_all)

end Go.Proofs.YtpmlmpibpmoclaaGreatDoor
