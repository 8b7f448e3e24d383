/-
  The document's answer on trees: exports from.
-/
import Derived.Test.YtpmlmpibpmoclaaGreatDoorR10
namespace Go.Proofs.YtpmlmpibpmoclaaGreatDoor
set_option linter.all false
set_option maxRecDepth 20000
set_option maxHeartbeats 16000000
open Go.RowKit

theorem oneOk_star {req : Bs} {num : Int} {many : Bool} {z : Tr} (h1 : isNone z = true ∨ (isName true z = true ∧ ¬ z.t = [42])) (h2 : many = false) (h3 : req ≠ []) (h4 : num = 0) : oneOk req num many (.mk 65 [42] 0 [z]) = true := by
 subst h2 h4
 obtain ⟨zk, zt, zn, zl⟩ := z
 simp only [Tr.t] at h1
 rcases h1 with h | ⟨h, h'⟩ <;> simp [oneOk, star, Tr.k, Tr.n, Tr.t, Tr.l, *]
theorem oneOk_else {req : Bs} {num : Int} {many : Bool} {t : Bs} {z : Tr} (h1 : isNone z = true ∨ (isName true z = true ∧ ¬ z.t = t)) (ht : ¬ t = [42]) (h2 : signs t = true) (h3 : req ≠ [] ∨ isId t = true) : oneOk req num many (.mk 65 t 0 [z]) = true := by
 obtain ⟨zk, zt, zn, zl⟩ := z
 simp only [Tr.t] at h1
 rcases h1 with h | ⟨h, h'⟩ <;> rcases h3 with h3 | h3 <;> simp [oneOk, star, Tr.k, Tr.n, Tr.t, Tr.l, *]
theorem isFrom_of {t : Bs} {n : Int} {l : List Tr} (h1 : valid t = true) (h2 : n = 0 ∨ n = 1) (h3 : ¬ l = []) (h4 : l.all (oneOk t n (decide (1 < l.length))) = true) : isFrom (.mk 64 t n l) = true := by
 have h5 : (Tr.mk 64 t n l).l.all (oneOk t n (decide (1 < (Tr.mk 64 t n l).l.length))) = true := h4
 have h6 : (Tr.mk 64 t n l).l.isEmpty = false := by show l.isEmpty = false; simpa using h3
 unfold isFrom
 rw [show (Tr.mk 64 t n l).t = t from rfl, show (Tr.mk 64 t n l).n = n from rfl, h1, h5, h6]
 rcases h2 with rfl | rfl <;> rfl


theorem w1 {P : Program} {ops : Array Oper} {Q : Exit → Act → World → Prop} {md : Region.Mode} (i : Nat) {o : Oper} {fuel : Nat} {listed : Array Bool} {a : Act} {w : World} (hr : Region.ready md ops listed = [i]) (ho : ops[i]? = some o)
  (h : ∀ K' : Act → World → Prop, (∀ a w, wpAny P md ops Q fuel (listed.setIfInBounds i true) a w → K' a w) → if Region.wanted o (yielded ops a.tmps) = true then Oper.wp P o a w K' Q else K' (a.put o.dst undef) w) : wpAny P md ops Q (fuel + 1) listed a w :=
 wpAny_ready hr (by simp) (.cons ho h .nil)
theorem from_round (n : Int) (hn01 : n = 0 ∨ n = 1) (t : Bs) (l : List Tr) (hl0 : ¬ l = []) (B : Nat) (v : Value) (w : World) (h : NodeAt B w v (.mk 64 t n l)) : Calls Tryz.prog 54 #[v] w (Snd (isFrom (.mk 64 t n l) = true) w) := by
 have hsv := sv_list
 obtain ⟨p, c, rfl, hks, hkr, hnr, htl, hcp, hkid, xw, C, _, _⟩ := hR h
 have xx := xw
 obtain ⟨c0, c1, c2, c3⟩ := C.out
 have K := hid hkid
 have hll := hid hcp.2
 have hle : ((l.length : Int) == 0) = false := by simpa using hl0
 have hn' := hid hn01
 have hl0' := hid hl0
 obtain ⟨nn, hnn⟩ : ∃ nn, Hid (nn = n) := ⟨_, hid rfl⟩
 obtain ⟨tt, htt⟩ : ∃ tt, Hid (tt = t) := ⟨_, hid rfl⟩
 clear h hks hkid hcp hkr hnr hl0
 simp only [nv, Tr.k, Tr.t, Tr.n]
 rcases hn01 with rfl | rfl
 all_goals
  go_enter Tryz.func54, Tryz.ntmps54
  go_wp2_with (go_at_call 43; refine (valid_any _ _ htl).mono ?_; rintro e w43 ⟨_ | _, rfl, hb43, x43⟩ <;> (replace hb43 := hid hb43; replace xx := xx.of_eq x43; replace ⟨c0, c1, c2, c3⟩ := F4 x43 c0 c1 c2 c3))
 all_goals first
  | (go_ret; exact .no xx)
  | skip
 all_goals
  clear c0 c1 c2 c3 xx
  go_loopw [3] (fun i wr => ∃ j : Nat, j ≤ l.length ∧ i = .int .i64 j ∧ Hid ((l.drop j).all (oneOk tt nn (decide (1 < l.length))) = true → l.all (oneOk tt nn (decide (1 < l.length))) = true) ∧ Fx _ wr) (fun i _ => l.length - (intOf i).toNat)
  case atStart => exact ⟨0, Nat.zero_le _, rfl, hid (fun h => h), x43⟩
  case round =>
   obtain ⟨j, hj, rfl, hinv, x2⟩ := hrel
   have c0 := x2.cellF C.out.1
   have c1 := x2.cellF C.out.2.1
   have c2 := x2.cellF C.out.2.2.1
   have c3 := x2.cellF C.out.2.2.2
   have xx := xw.of_eq x2
   have hj4 : (j : Int) ≤ 4398046511104 := by have := hll.out; omega
   by_cases hlt : j < l.length
   ·skip
    obtain ⟨g, o, s, rfl, hgB, a0, a1, a2, a3, ha⟩ := K.out j hlt
    have hdr := hid (List.drop_eq_getElem_cons hlt)
    generalize l[j] = y at *
    obtain ⟨sl', hs', hks, hkr, hnr, htl'⟩ := id ha.open
    obtain rfl : s = sl' := by simpa [nv] using hs'
    clear hs' hkr hnr
    obtain ⟨k', t', n', l'⟩ := y
    simp only [Tr.k, Tr.t, Tr.n, Tr.l] at hks htl' a0 a1 a2
    obtain ⟨p', c', rfl, hcp', hkid'⟩ := hks.kid
    replace ⟨a0, a1, a2, a3⟩ := F4 xx a0 a1 a2 a3
    have K' := hid hkid'
    have HK := hid hks
    replace hcp' := hid hcp'
    clear hks hkid' ha
    have xa := xx.of_eq (Ext.alloc _ wr (.cells #[.int .i64 k', .string (sv t'), .int .i64 n', .slice p' l'.length c'] 24))
    have xb := x2.of_eq (Ext.alloc _ wr (.cells #[.int .i64 k', .string (sv t'), .int .i64 n', .slice p' l'.length c'] 24))
    obtain ⟨d0, d1, d2, d3⟩ := nd_cells wr k' n' (sv t') (.slice p' l'.length c')
    have xc := xb
    have q0 := (Ext.alloc (fun _ => False) wr (.cells #[.int .i64 k', .string (sv t'), .int .i64 n', .slice p' l'.length c'] 24)).cellF c0
    have q1 := (Ext.alloc (fun _ => False) wr (.cells #[.int .i64 k', .string (sv t'), .int .i64 n', .slice p' l'.length c'] 24)).cellF c1
    have q2 := (Ext.alloc (fun _ => False) wr (.cells #[.int .i64 k', .string (sv t'), .int .i64 n', .slice p' l'.length c'] 24)).cellF c2
    have q3 := (Ext.alloc (fun _ => False) wr (.cells #[.int .i64 k', .string (sv t'), .int .i64 n', .slice p' l'.length c'] 24)).cellF c3
    go_wp2_with fail
    clear c0 c1 c2 c3
    have x3 := Ext.drew (fun _ => False) (wr.alloc (.cells #[.int .i64 k', .string (sv t'), .int .i64 n', .slice p' l'.length c'] 24))
    by_cases hk' : k' = 65
    ·subst hk'
     by_cases hn' : n' = 0
     ·subst hn'
      by_cases hl1 : l'.length = 1
      ·skip
       obtain ⟨z, rfl⟩ := kid_one hl1
       obtain ⟨g', o', s', rfl, hgB', f0, f1, f2, f3, hz⟩ := K'.out 0 (by simp)
       simp only [gZ, zM, aZ, List.length_singleton] at *
       replace ⟨f0, f1, f2, f3⟩ := F4 xa f0 f1 f2 f3
       replace hz := hid (hz.keepF xa)
       simp only [nv] at hz
       clear hl1 K' HK
       generalize hztg : z.t = zt at *
       replace hztg := hid hztg
       refine wp_region_any (by kernel_rfl) ?_
       try (change wpAny _ _ _ _ _ _ _ (World.drew _))
       have x3 := Ext.drew (fun _ => False) (wr.alloc (.cells #[.int .i64 65, .string (sv t'), .int .i64 0, .slice (some ⟨g', o', none⟩) 1 c'] 24))
       replace xa := xa.of_eq x3; replace xc := xc.of_eq x3; replace ⟨d0, d1, d2, d3⟩ := F4 x3 d0 d1 d2 d3; replace ⟨q0, q1, q2, q3⟩ := F4 x3 q0 q1 q2 q3; replace ⟨f0, f1, f2, f3⟩ := F4 x3 f0 f1 f2 f3; replace hz := hid (hz.out.keepF x3)
       clear x3
       generalize (wr.alloc (.cells #[.int .i64 65, .string (sv t'), .int .i64 0, .slice (some ⟨g', o', none⟩) 1 c'] 24)).drew = wd at *
       all_goals refine w1 0 (by kernel_rfl) rfl fun K hK => ?_
       all_goals try go_simp
       all_goals try (refine hK _ _ ?_; clear hK K)
       all_goals refine w1 1 (by kernel_rfl) rfl fun K hK => ?_
       all_goals try go_simp
       all_goals try (refine hK _ _ ?_; clear hK K)
       all_goals refine w1 2 (by kernel_rfl) rfl fun K hK => ?_
       all_goals try go_simp
       all_goals try (refine hK _ _ ?_; clear hK K)
       all_goals refine w1 3 (by kernel_rfl) rfl fun K hK => ?_
       all_goals try go_simp
       all_goals try (refine hK _ _ ?_; clear hK K)
       all_goals refine w1 4 (by kernel_rfl) rfl fun K hK => ?_
       all_goals try go_simp
       all_goals try (refine hK _ _ ?_; clear hK K)
       all_goals refine w1 5 (by kernel_rfl) rfl fun K hK => ?_
       all_goals try go_simp
       all_goals try (refine hK _ _ ?_; clear hK K)
       all_goals refine w1 6 (by kernel_rfl) rfl fun K hK => ?_
       all_goals try go_simp
       all_goals try (refine hK _ _ ?_; clear hK K)
       all_goals refine w1 7 (by kernel_rfl) rfl fun K hK => ?_
       all_goals try go_simp
       all_goals try (refine hK _ _ ?_; clear hK K)
       all_goals refine w1 8 (by kernel_rfl) rfl fun K hK => ?_
       all_goals try go_simp
       all_goals try (refine hK _ _ ?_; clear hK K)
       all_goals refine w1 9 (by kernel_rfl) rfl fun K hK => ?_
       all_goals try go_simp
       all_goals try (refine hK _ _ ?_; clear hK K)
       all_goals refine w1 10 (by kernel_rfl) rfl fun K hK => ?_
       all_goals try go_simp
       all_goals try (refine hK _ _ ?_; clear hK K)
       all_goals refine w1 11 (by kernel_rfl) rfl fun K hK => ?_
       all_goals try go_simp
       all_goals try (refine hK _ _ ?_; clear hK K)
       all_goals refine w1 12 (by kernel_rfl) rfl fun K hK => ?_
       all_goals try go_simp
       all_goals try (refine hK _ _ ?_; clear hK K)
       all_goals refine w1 13 (by kernel_rfl) rfl fun K hK => ?_
       all_goals try go_simp
       all_goals try (refine hK _ _ ?_; clear hK K)
       all_goals refine w1 14 (by kernel_rfl) rfl fun K hK => ?_
       all_goals try go_simp
       all_goals try (refine hK _ _ ?_; clear hK K)
       all_goals refine w1 15 (by kernel_rfl) rfl fun K hK => ?_
       all_goals try go_simp
       all_goals try (refine hK _ _ ?_; clear hK K)
       all_goals refine w1 16 (by kernel_rfl) rfl fun K hK => ?_
       all_goals try go_simp
       all_goals try (refine hK _ _ ?_; clear hK K)
       all_goals refine w1 17 (by kernel_rfl) rfl fun K hK => ?_
       all_goals try go_simp
       all_goals try (refine hK _ _ ?_; clear hK K)
       all_goals refine w1 18 (by kernel_rfl) rfl fun K hK => ?_
       all_goals try go_simp
       all_goals try (refine hK _ _ ?_; clear hK K)
       all_goals refine w1 19 (by kernel_rfl) rfl fun K hK => ?_
       all_goals try go_simp
       all_goals try (go_wp2_with ((go_at_call 52; refine (none_any B z _ _ hz.out).mono ?_; rintro e w52 ⟨rfl, x52⟩; replace xa := xa.of_eq x52; replace xc := xc.of_eq x52; replace ⟨d0, d1, d2, d3⟩ := F4 x52 d0 d1 d2 d3; replace ⟨q0, q1, q2, q3⟩ := F4 x52 q0 q1 q2 q3; replace ⟨f0, f1, f2, f3⟩ := F4 x52 f0 f1 f2 f3; replace hz := hid (hz.out.keepF x52))))
       all_goals try (refine hK _ _ ?_; clear hK K)
       all_goals refine w1 20 (by kernel_rfl) rfl fun K hK => ?_
       all_goals try go_simp
       all_goals try split
       all_goals try (refine hK _ _ ?_; clear hK K)
       all_goals refine w1 21 (by kernel_rfl) rfl fun K hK => ?_
       all_goals try go_simp
       all_goals try split
       all_goals try (refine hK _ _ ?_; clear hK K)
       all_goals refine w1 22 (by kernel_rfl) rfl fun K hK => ?_
       all_goals try go_simp
       all_goals try split
       all_goals try (refine hK _ _ ?_; clear hK K)
       all_goals refine w1 23 (by kernel_rfl) rfl fun K hK => ?_
       all_goals try go_simp
       all_goals try split
       all_goals try (refine hK _ _ ?_; clear hK K)
       all_goals refine w1 24 (by kernel_rfl) rfl fun K hK => ?_
       all_goals try go_simp
       all_goals try split
       all_goals try (refine hK _ _ ?_; clear hK K)
       all_goals refine w1 25 (by kernel_rfl) rfl fun K hK => ?_
       all_goals try go_simp
       all_goals try split
       all_goals try (refine hK _ _ ?_; clear hK K)
       all_goals refine w1 26 (by kernel_rfl) rfl fun K hK => ?_
       all_goals try go_simp
       all_goals try (go_wp2_with ((go_at_call 55; refine (name_any true z B _ _ hz.out).mono ?_; rintro e w55 ⟨_ | _, rfl, hb55, x55⟩ <;> (replace hb55 := hid hb55; replace xa := xa.of_eq x55; replace xc := xc.of_eq x55; replace ⟨d0, d1, d2, d3⟩ := F4 x55 d0 d1 d2 d3; replace ⟨q0, q1, q2, q3⟩ := F4 x55 q0 q1 q2 q3; replace ⟨f0, f1, f2, f3⟩ := F4 x55 f0 f1 f2 f3; replace hz := hid (hz.out.keepF x55)))))
       all_goals try split
       all_goals try (refine hK _ _ ?_; clear hK K)
       all_goals refine w1 27 (by kernel_rfl) rfl fun K hK => ?_
       all_goals try go_simp
       all_goals try split
       all_goals try (refine hK _ _ ?_; clear hK K)
       all_goals refine w1 28 (by kernel_rfl) rfl fun K hK => ?_
       all_goals try go_simp
       all_goals try split
       all_goals try (refine hK _ _ ?_; clear hK K)
       ·skip
        refine wpAny_take (i := 29) (v := undef) rfl (by kernel_rfl) (by kernel_rfl) (by kernel_rfl) (fun _ _ _ h => h) (Or.inr ⟨by rfl, rfl⟩) ?_
        refine wpAny_take (i := 30) (v := undef) rfl (by kernel_rfl) (by kernel_rfl) (by kernel_rfl) (fun _ _ _ h => h) (Or.inr ⟨by rfl, rfl⟩) ?_
        refine wpAny_take (i := 31) (v := undef) rfl (by kernel_rfl) (by kernel_rfl) (by kernel_rfl) (fun _ _ _ h => h) (Or.inr ⟨by rfl, rfl⟩) ?_
        refine wpAny_take (i := 32) (v := undef) rfl (by kernel_rfl) (by kernel_rfl) (by kernel_rfl) (fun _ _ _ h => h) (Or.inr ⟨by rfl, rfl⟩) ?_
        refine wpAny_take (i := 33) (v := undef) rfl (by kernel_rfl) (by kernel_rfl) (by kernel_rfl) (fun _ _ _ h => h) (Or.inr ⟨by rfl, rfl⟩) ?_
        refine w1 34 (by kernel_rfl) rfl fun K hK => ?_
        go_simp
        refine hK _ _ ?_; clear hK K
        refine w1 35 (by kernel_rfl) rfl fun K hK => ?_
        go_simp
        refine hK _ _ ?_; clear hK K
        refine w1 36 (by kernel_rfl) rfl fun K hK => ?_
        go_simp
        refine hK _ _ ?_; clear hK K
        refine w1 37 (by kernel_rfl) rfl fun K hK => ?_
        go_simp
        refine hK _ _ ?_; clear hK K
        refine w1 38 (by kernel_rfl) rfl fun K hK => ?_
        go_simp
        refine hK _ _ ?_; clear hK K
        refine w1 39 (by kernel_rfl) rfl fun K hK => ?_
        go_simp
        refine hK _ _ ?_; clear hK K
        refine wpAny_done (by kernel_rfl) ?_ _
        by_cases ht0 : t = []
        ·have hte : List.isEmpty t = true := by rw [ht0]; rfl
         clear ht0
         by_cases hstar : t' = [42]
         ·subst hstar
          go_wp2_with fail
          all_goals
           go_ret
           exact .no xa
         ·have hs2 : (t' == [42]) = false := by simpa using hstar
          have hs3 := hid hstar
          clear hstar
          go_wp2_with ((first | (go_at_call 46; refine (prop_any _ _ htl').mono ?_; rintro e w46 ⟨_ | _, rfl, hb46, z_⟩ <;> replace hb46 := hid hb46) | (go_at_call 44; refine (id_any _ _ htl').mono ?_; rintro e w44 ⟨_ | _, rfl, hb44, z_⟩ <;> replace hb44 := hid hb44)) <;> (replace xa := xa.of_eq z_; replace xc := xc.of_eq z_; replace ⟨d0, d1, d2, d3⟩ := F4 z_ d0 d1 d2 d3; replace ⟨q0, q1, q2, q3⟩ := F4 z_ q0 q1 q2 q3))
          all_goals first
           | (go_ret; exact .no xa)
           | skip
          all_goals
           have hstep := hid (fun hr : (l.drop (j + 1)).all (oneOk tt nn (decide (1 < l.length))) = true => hinv.out (by
            rw [hdr.out]
            exact all_step (oneOk_else (.inl (by assumption)) hs3.out (hb46.out (by trivial)) (by first | exact .inr (hb44.out (by trivial)) | exact .inl (by rw [htt.out]; exact ht1.out))) hr))
           go_roundw
           case rel => exact ⟨j + 1, by omega, by go_num, hstep, xc⟩
           case measure => simp [intOf]; omega
        ·have hte : (t == []) = false := by simpa using ht0
         have ht1 := hid ht0
         by_cases hstar : t' = [42]
         ·subst hstar
          by_cases hm : 1 < l.length
          ·have hm1 : (1 : Int) < l.length := by omega
           go_wp2_with fail
           all_goals
            go_ret
            exact .no xa
          ·have hm1 : ¬ (1 : Int) < l.length := by omega
           have hm2 := hid hm
           clear hm
           go_wp2_with fail
           all_goals first
            | (go_ret; exact .no xa)
            | skip
           all_goals
            have hstep := hid (fun hr : (l.drop (j + 1)).all (oneOk tt nn (decide (1 < l.length))) = true => hinv.out (by
             rw [hdr.out]
             exact all_step (oneOk_star (.inl (by assumption)) (by simpa using hm2.out) (by rw [htt.out]; exact ht0) hnn.out) hr))
            go_roundw
            case rel => exact ⟨j + 1, by omega, by go_num, hstep, xc⟩
            case measure => simp [intOf]; omega
         ·have hs2 : (t' == [42]) = false := by simpa using hstar
          have hs3 := hid hstar
          clear hstar
          go_wp2_with ((first | (go_at_call 46; refine (prop_any _ _ htl').mono ?_; rintro e w46 ⟨_ | _, rfl, hb46, z_⟩ <;> replace hb46 := hid hb46) | (go_at_call 44; refine (id_any _ _ htl').mono ?_; rintro e w44 ⟨_ | _, rfl, hb44, z_⟩ <;> replace hb44 := hid hb44)) <;> (replace xa := xa.of_eq z_; replace xc := xc.of_eq z_; replace ⟨d0, d1, d2, d3⟩ := F4 z_ d0 d1 d2 d3; replace ⟨q0, q1, q2, q3⟩ := F4 z_ q0 q1 q2 q3))
          all_goals first
           | (go_ret; exact .no xa)
           | skip
          all_goals
           have hstep := hid (fun hr : (l.drop (j + 1)).all (oneOk tt nn (decide (1 < l.length))) = true => hinv.out (by
            rw [hdr.out]
            exact all_step (oneOk_else (.inl (by assumption)) hs3.out (hb46.out (by trivial)) (by first | exact .inr (hb44.out (by trivial)) | exact .inl (by rw [htt.out]; exact ht1.out))) hr))
           go_roundw
           case rel => exact ⟨j + 1, by omega, by go_num, hstep, xc⟩
           case measure => simp [intOf]; omega
       ·skip
        refine wpAny_take (i := 29) (v := undef) rfl (by kernel_rfl) (by kernel_rfl) (by kernel_rfl) (fun _ _ _ h => h) (Or.inr ⟨by rfl, rfl⟩) ?_
        refine wpAny_take (i := 30) (v := undef) rfl (by kernel_rfl) (by kernel_rfl) (by kernel_rfl) (fun _ _ _ h => h) (Or.inr ⟨by rfl, rfl⟩) ?_
        refine wpAny_take (i := 31) (v := undef) rfl (by kernel_rfl) (by kernel_rfl) (by kernel_rfl) (fun _ _ _ h => h) (Or.inr ⟨by rfl, rfl⟩) ?_
        refine wpAny_take (i := 32) (v := undef) rfl (by kernel_rfl) (by kernel_rfl) (by kernel_rfl) (fun _ _ _ h => h) (Or.inr ⟨by rfl, rfl⟩) ?_
        refine wpAny_take (i := 33) (v := undef) rfl (by kernel_rfl) (by kernel_rfl) (by kernel_rfl) (fun _ _ _ h => h) (Or.inr ⟨by rfl, rfl⟩) ?_
        refine w1 34 (by kernel_rfl) rfl fun K hK => ?_
        go_simp
        refine hK _ _ ?_; clear hK K
        refine w1 35 (by kernel_rfl) rfl fun K hK => ?_
        go_simp
        refine hK _ _ ?_; clear hK K
        refine w1 36 (by kernel_rfl) rfl fun K hK => ?_
        go_simp
        refine hK _ _ ?_; clear hK K
        refine w1 37 (by kernel_rfl) rfl fun K hK => ?_
        go_simp
        refine hK _ _ ?_; clear hK K
        refine w1 38 (by kernel_rfl) rfl fun K hK => ?_
        go_simp
        refine hK _ _ ?_; clear hK K
        refine w1 39 (by kernel_rfl) rfl fun K hK => ?_
        go_simp
        refine hK _ _ ?_; clear hK K
        refine wpAny_done (by kernel_rfl) ?_ _
        go_wp2_with fail
        all_goals
         go_ret
         exact .no xa
       ·skip
        refine wpAny_take (i := 29) (v := ?_) rfl (by kernel_rfl) (by kernel_rfl) (by kernel_rfl) (fun _ _ _ h => h) (Or.inl ⟨by rfl, ?_⟩) ?_
        rotate_left
        focus (intro w; go_simp; try with_reducible rfl)
        refine wpAny_take (i := 34) (v := ?_) rfl (by kernel_rfl) (by kernel_rfl) (by kernel_rfl) (fun _ _ _ h => h) (Or.inl ⟨by rfl, ?_⟩) ?_
        rotate_left
        focus (intro w; go_simp; try with_reducible rfl)
        refine wpAny_ready (rs := [30, 35]) (by kernel_rfl) (by simp) ?_
        refine AllReady.cons rfl (fun K hK => ?_) (AllReady.cons rfl (fun K hK => ?_) AllReady.nil)
        ·go_simp
         refine hK _ _ ?_; clear hK K
         refine wpAny_take (i := 31) (v := ?_) rfl (by kernel_rfl) (by kernel_rfl) (by kernel_rfl) (fun _ _ _ h => h) (Or.inl ⟨by rfl, ?_⟩) ?_
         rotate_left
         focus (intro w; go_simp; try with_reducible rfl)
         refine wpAny_take (i := 32) (v := ?_) rfl (by kernel_rfl) (by kernel_rfl) (by kernel_rfl) (fun _ _ _ h => h) (Or.inl ⟨by rfl, ?_⟩) ?_
         rotate_left
         focus (intro w; go_simp; try with_reducible rfl)
         refine wpAny_ready (rs := [33, 35]) (by kernel_rfl) (by simp) ?_
         refine AllReady.cons rfl (fun K hK => ?_) (AllReady.cons rfl (fun K hK => ?_) AllReady.nil)
         ·go_simp
          refine hK _ _ ?_; clear hK K
          refine w1 35 (by kernel_rfl) rfl fun K hK => ?_
          go_simp
          refine hK _ _ ?_; clear hK K
          refine w1 36 (by kernel_rfl) rfl fun K hK => ?_
          go_simp
          refine hK _ _ ?_; clear hK K
          refine w1 37 (by kernel_rfl) rfl fun K hK => ?_
          go_simp
          refine hK _ _ ?_; clear hK K
          refine w1 38 (by kernel_rfl) rfl fun K hK => ?_
          go_simp
          refine hK _ _ ?_; clear hK K
          refine w1 39 (by kernel_rfl) rfl fun K hK => ?_
          go_simp
          refine hK _ _ ?_; clear hK K
          refine wpAny_done (by kernel_rfl) ?_ _
          cases hzt : (zt == t')
          ·have hzt3 := hid (show ¬ z.t = t' from by rw [hztg.out]; simpa using hzt)
           clear hzt
           by_cases ht0 : t = []
           ·have hte : List.isEmpty t = true := by rw [ht0]; rfl
            clear ht0
            by_cases hstar : t' = [42]
            ·subst hstar
             go_wp2_with fail
             all_goals
              go_ret
              exact .no xa
            ·have hs2 : (t' == [42]) = false := by simpa using hstar
             have hs3 := hid hstar
             clear hstar
             go_wp2_with ((first | (go_at_call 46; refine (prop_any _ _ htl').mono ?_; rintro e w46 ⟨_ | _, rfl, hb46, z_⟩ <;> replace hb46 := hid hb46) | (go_at_call 44; refine (id_any _ _ htl').mono ?_; rintro e w44 ⟨_ | _, rfl, hb44, z_⟩ <;> replace hb44 := hid hb44)) <;> (replace xa := xa.of_eq z_; replace xc := xc.of_eq z_; replace ⟨d0, d1, d2, d3⟩ := F4 z_ d0 d1 d2 d3; replace ⟨q0, q1, q2, q3⟩ := F4 z_ q0 q1 q2 q3))
             all_goals first
              | (go_ret; exact .no xa)
              | skip
             all_goals
              have hstep := hid (fun hr : (l.drop (j + 1)).all (oneOk tt nn (decide (1 < l.length))) = true => hinv.out (by
               rw [hdr.out]
               exact all_step (oneOk_else (.inr ⟨hb55.out (by trivial), hzt3.out⟩) hs3.out (hb46.out (by trivial)) (by first | exact .inr (hb44.out (by trivial)) | exact .inl (by rw [htt.out]; exact ht1.out))) hr))
              go_roundw
              case rel => exact ⟨j + 1, by omega, by go_num, hstep, xc⟩
              case measure => simp [intOf]; omega
           ·have hte : (t == []) = false := by simpa using ht0
            have ht1 := hid ht0
            by_cases hstar : t' = [42]
            ·subst hstar
             by_cases hm : 1 < l.length
             ·have hm1 : (1 : Int) < l.length := by omega
              go_wp2_with fail
              all_goals
               go_ret
               exact .no xa
             ·have hm1 : ¬ (1 : Int) < l.length := by omega
              have hm2 := hid hm
              clear hm
              go_wp2_with fail
              all_goals first
               | (go_ret; exact .no xa)
               | skip
              all_goals
               have hstep := hid (fun hr : (l.drop (j + 1)).all (oneOk tt nn (decide (1 < l.length))) = true => hinv.out (by
                rw [hdr.out]
                exact all_step (oneOk_star (.inr ⟨hb55.out (by trivial), hzt3.out⟩) (by simpa using hm2.out) (by rw [htt.out]; exact ht0) hnn.out) hr))
               go_roundw
               case rel => exact ⟨j + 1, by omega, by go_num, hstep, xc⟩
               case measure => simp [intOf]; omega
            ·have hs2 : (t' == [42]) = false := by simpa using hstar
             have hs3 := hid hstar
             clear hstar
             go_wp2_with ((first | (go_at_call 46; refine (prop_any _ _ htl').mono ?_; rintro e w46 ⟨_ | _, rfl, hb46, z_⟩ <;> replace hb46 := hid hb46) | (go_at_call 44; refine (id_any _ _ htl').mono ?_; rintro e w44 ⟨_ | _, rfl, hb44, z_⟩ <;> replace hb44 := hid hb44)) <;> (replace xa := xa.of_eq z_; replace xc := xc.of_eq z_; replace ⟨d0, d1, d2, d3⟩ := F4 z_ d0 d1 d2 d3; replace ⟨q0, q1, q2, q3⟩ := F4 z_ q0 q1 q2 q3))
             all_goals first
              | (go_ret; exact .no xa)
              | skip
             all_goals
              have hstep := hid (fun hr : (l.drop (j + 1)).all (oneOk tt nn (decide (1 < l.length))) = true => hinv.out (by
               rw [hdr.out]
               exact all_step (oneOk_else (.inr ⟨hb55.out (by trivial), hzt3.out⟩) hs3.out (hb46.out (by trivial)) (by first | exact .inr (hb44.out (by trivial)) | exact .inl (by rw [htt.out]; exact ht1.out))) hr))
              go_roundw
              case rel => exact ⟨j + 1, by omega, by go_num, hstep, xc⟩
              case measure => simp [intOf]; omega
          ·clear hzt
           go_wp2_with fail
           all_goals
            go_ret
            exact .no xa
         ·go_simp
          refine hK _ _ ?_; clear hK K
          refine w1 33 (by kernel_rfl) rfl fun K hK => ?_
          go_simp
          refine hK _ _ ?_; clear hK K
          refine w1 36 (by kernel_rfl) rfl fun K hK => ?_
          go_simp
          refine hK _ _ ?_; clear hK K
          refine w1 37 (by kernel_rfl) rfl fun K hK => ?_
          go_simp
          refine hK _ _ ?_; clear hK K
          refine w1 38 (by kernel_rfl) rfl fun K hK => ?_
          go_simp
          refine hK _ _ ?_; clear hK K
          refine w1 39 (by kernel_rfl) rfl fun K hK => ?_
          go_simp
          refine hK _ _ ?_; clear hK K
          refine wpAny_done (by kernel_rfl) ?_ _
          cases hzt : (zt == t')
          ·have hzt3 := hid (show ¬ z.t = t' from by rw [hztg.out]; simpa using hzt)
           clear hzt
           by_cases ht0 : t = []
           ·have hte : List.isEmpty t = true := by rw [ht0]; rfl
            clear ht0
            by_cases hstar : t' = [42]
            ·subst hstar
             go_wp2_with fail
             all_goals
              go_ret
              exact .no xa
            ·have hs2 : (t' == [42]) = false := by simpa using hstar
             have hs3 := hid hstar
             clear hstar
             go_wp2_with ((first | (go_at_call 46; refine (prop_any _ _ htl').mono ?_; rintro e w46 ⟨_ | _, rfl, hb46, z_⟩ <;> replace hb46 := hid hb46) | (go_at_call 44; refine (id_any _ _ htl').mono ?_; rintro e w44 ⟨_ | _, rfl, hb44, z_⟩ <;> replace hb44 := hid hb44)) <;> (replace xa := xa.of_eq z_; replace xc := xc.of_eq z_; replace ⟨d0, d1, d2, d3⟩ := F4 z_ d0 d1 d2 d3; replace ⟨q0, q1, q2, q3⟩ := F4 z_ q0 q1 q2 q3))
             all_goals first
              | (go_ret; exact .no xa)
              | skip
             all_goals
              have hstep := hid (fun hr : (l.drop (j + 1)).all (oneOk tt nn (decide (1 < l.length))) = true => hinv.out (by
               rw [hdr.out]
               exact all_step (oneOk_else (.inr ⟨hb55.out (by trivial), hzt3.out⟩) hs3.out (hb46.out (by trivial)) (by first | exact .inr (hb44.out (by trivial)) | exact .inl (by rw [htt.out]; exact ht1.out))) hr))
              go_roundw
              case rel => exact ⟨j + 1, by omega, by go_num, hstep, xc⟩
              case measure => simp [intOf]; omega
           ·have hte : (t == []) = false := by simpa using ht0
            have ht1 := hid ht0
            by_cases hstar : t' = [42]
            ·subst hstar
             by_cases hm : 1 < l.length
             ·have hm1 : (1 : Int) < l.length := by omega
              go_wp2_with fail
              all_goals
               go_ret
               exact .no xa
             ·have hm1 : ¬ (1 : Int) < l.length := by omega
              have hm2 := hid hm
              clear hm
              go_wp2_with fail
              all_goals first
               | (go_ret; exact .no xa)
               | skip
              all_goals
               have hstep := hid (fun hr : (l.drop (j + 1)).all (oneOk tt nn (decide (1 < l.length))) = true => hinv.out (by
                rw [hdr.out]
                exact all_step (oneOk_star (.inr ⟨hb55.out (by trivial), hzt3.out⟩) (by simpa using hm2.out) (by rw [htt.out]; exact ht0) hnn.out) hr))
               go_roundw
               case rel => exact ⟨j + 1, by omega, by go_num, hstep, xc⟩
               case measure => simp [intOf]; omega
            ·have hs2 : (t' == [42]) = false := by simpa using hstar
             have hs3 := hid hstar
             clear hstar
             go_wp2_with ((first | (go_at_call 46; refine (prop_any _ _ htl').mono ?_; rintro e w46 ⟨_ | _, rfl, hb46, z_⟩ <;> replace hb46 := hid hb46) | (go_at_call 44; refine (id_any _ _ htl').mono ?_; rintro e w44 ⟨_ | _, rfl, hb44, z_⟩ <;> replace hb44 := hid hb44)) <;> (replace xa := xa.of_eq z_; replace xc := xc.of_eq z_; replace ⟨d0, d1, d2, d3⟩ := F4 z_ d0 d1 d2 d3; replace ⟨q0, q1, q2, q3⟩ := F4 z_ q0 q1 q2 q3))
             all_goals first
              | (go_ret; exact .no xa)
              | skip
             all_goals
              have hstep := hid (fun hr : (l.drop (j + 1)).all (oneOk tt nn (decide (1 < l.length))) = true => hinv.out (by
               rw [hdr.out]
               exact all_step (oneOk_else (.inr ⟨hb55.out (by trivial), hzt3.out⟩) hs3.out (hb46.out (by trivial)) (by first | exact .inr (hb44.out (by trivial)) | exact .inl (by rw [htt.out]; exact ht1.out))) hr))
              go_roundw
              case rel => exact ⟨j + 1, by omega, by go_num, hstep, xc⟩
              case measure => simp [intOf]; omega
          ·clear hzt
           go_wp2_with fail
           all_goals
            go_ret
            exact .no xa
        ·go_simp
         refine hK _ _ ?_; clear hK K
         refine w1 30 (by kernel_rfl) rfl fun K hK => ?_
         go_simp
         refine hK _ _ ?_; clear hK K
         refine wpAny_take (i := 31) (v := ?_) rfl (by kernel_rfl) (by kernel_rfl) (by kernel_rfl) (fun _ _ _ h => h) (Or.inl ⟨by rfl, ?_⟩) ?_
         rotate_left
         focus (intro w; go_simp; try with_reducible rfl)
         refine wpAny_take (i := 32) (v := ?_) rfl (by kernel_rfl) (by kernel_rfl) (by kernel_rfl) (fun _ _ _ h => h) (Or.inl ⟨by rfl, ?_⟩) ?_
         rotate_left
         focus (intro w; go_simp; try with_reducible rfl)
         refine w1 33 (by kernel_rfl) rfl fun K hK => ?_
         go_simp
         refine hK _ _ ?_; clear hK K
         refine w1 36 (by kernel_rfl) rfl fun K hK => ?_
         go_simp
         refine hK _ _ ?_; clear hK K
         refine w1 37 (by kernel_rfl) rfl fun K hK => ?_
         go_simp
         refine hK _ _ ?_; clear hK K
         refine w1 38 (by kernel_rfl) rfl fun K hK => ?_
         go_simp
         refine hK _ _ ?_; clear hK K
         refine w1 39 (by kernel_rfl) rfl fun K hK => ?_
         go_simp
         refine hK _ _ ?_; clear hK K
         refine wpAny_done (by kernel_rfl) ?_ _
         cases hzt : (zt == t')
         ·have hzt3 := hid (show ¬ z.t = t' from by rw [hztg.out]; simpa using hzt)
          clear hzt
          by_cases ht0 : t = []
          ·have hte : List.isEmpty t = true := by rw [ht0]; rfl
           clear ht0
           by_cases hstar : t' = [42]
           ·subst hstar
            go_wp2_with fail
            all_goals
             go_ret
             exact .no xa
           ·have hs2 : (t' == [42]) = false := by simpa using hstar
            have hs3 := hid hstar
            clear hstar
            go_wp2_with ((first | (go_at_call 46; refine (prop_any _ _ htl').mono ?_; rintro e w46 ⟨_ | _, rfl, hb46, z_⟩ <;> replace hb46 := hid hb46) | (go_at_call 44; refine (id_any _ _ htl').mono ?_; rintro e w44 ⟨_ | _, rfl, hb44, z_⟩ <;> replace hb44 := hid hb44)) <;> (replace xa := xa.of_eq z_; replace xc := xc.of_eq z_; replace ⟨d0, d1, d2, d3⟩ := F4 z_ d0 d1 d2 d3; replace ⟨q0, q1, q2, q3⟩ := F4 z_ q0 q1 q2 q3))
            all_goals first
             | (go_ret; exact .no xa)
             | skip
            all_goals
             have hstep := hid (fun hr : (l.drop (j + 1)).all (oneOk tt nn (decide (1 < l.length))) = true => hinv.out (by
              rw [hdr.out]
              exact all_step (oneOk_else (.inr ⟨hb55.out (by trivial), hzt3.out⟩) hs3.out (hb46.out (by trivial)) (by first | exact .inr (hb44.out (by trivial)) | exact .inl (by rw [htt.out]; exact ht1.out))) hr))
             go_roundw
             case rel => exact ⟨j + 1, by omega, by go_num, hstep, xc⟩
             case measure => simp [intOf]; omega
          ·have hte : (t == []) = false := by simpa using ht0
           have ht1 := hid ht0
           by_cases hstar : t' = [42]
           ·subst hstar
            by_cases hm : 1 < l.length
            ·have hm1 : (1 : Int) < l.length := by omega
             go_wp2_with fail
             all_goals
              go_ret
              exact .no xa
            ·have hm1 : ¬ (1 : Int) < l.length := by omega
             have hm2 := hid hm
             clear hm
             go_wp2_with fail
             all_goals first
              | (go_ret; exact .no xa)
              | skip
             all_goals
              have hstep := hid (fun hr : (l.drop (j + 1)).all (oneOk tt nn (decide (1 < l.length))) = true => hinv.out (by
               rw [hdr.out]
               exact all_step (oneOk_star (.inr ⟨hb55.out (by trivial), hzt3.out⟩) (by simpa using hm2.out) (by rw [htt.out]; exact ht0) hnn.out) hr))
              go_roundw
              case rel => exact ⟨j + 1, by omega, by go_num, hstep, xc⟩
              case measure => simp [intOf]; omega
           ·have hs2 : (t' == [42]) = false := by simpa using hstar
            have hs3 := hid hstar
            clear hstar
            go_wp2_with ((first | (go_at_call 46; refine (prop_any _ _ htl').mono ?_; rintro e w46 ⟨_ | _, rfl, hb46, z_⟩ <;> replace hb46 := hid hb46) | (go_at_call 44; refine (id_any _ _ htl').mono ?_; rintro e w44 ⟨_ | _, rfl, hb44, z_⟩ <;> replace hb44 := hid hb44)) <;> (replace xa := xa.of_eq z_; replace xc := xc.of_eq z_; replace ⟨d0, d1, d2, d3⟩ := F4 z_ d0 d1 d2 d3; replace ⟨q0, q1, q2, q3⟩ := F4 z_ q0 q1 q2 q3))
            all_goals first
             | (go_ret; exact .no xa)
             | skip
            all_goals
             have hstep := hid (fun hr : (l.drop (j + 1)).all (oneOk tt nn (decide (1 < l.length))) = true => hinv.out (by
              rw [hdr.out]
              exact all_step (oneOk_else (.inr ⟨hb55.out (by trivial), hzt3.out⟩) hs3.out (hb46.out (by trivial)) (by first | exact .inr (hb44.out (by trivial)) | exact .inl (by rw [htt.out]; exact ht1.out))) hr))
             go_roundw
             case rel => exact ⟨j + 1, by omega, by go_num, hstep, xc⟩
             case measure => simp [intOf]; omega
         ·clear hzt
          go_wp2_with fail
          all_goals
           go_ret
           exact .no xa
      ·have hl2 : ((l'.length : Int) == 1) = false := by simpa using (show ¬ (l'.length : Int) = 1 by omega)
       have hl3 : ¬ (l'.length : Int) = 1 := by omega
       clear hl1
       refine wp_region_any (by kernel_rfl) ?_
       try (change wpAny _ _ _ _ _ _ _ (World.drew _))
       replace xa := xa.of_eq x3; replace xc := xc.of_eq x3; replace ⟨d0, d1, d2, d3⟩ := F4 x3 d0 d1 d2 d3; replace ⟨q0, q1, q2, q3⟩ := F4 x3 q0 q1 q2 q3
       clear x3
       generalize (wr.alloc (.cells #[.int .i64 65, .string (sv t'), .int .i64 0, .slice p' l'.length c'] 24)).drew = wd at *
       refine w1 0 (by kernel_rfl) rfl fun K hK => ?_
       go_simp
       refine hK _ _ ?_; clear hK K
       refine w1 1 (by kernel_rfl) rfl fun K hK => ?_
       go_simp
       refine hK _ _ ?_; clear hK K
       refine w1 2 (by kernel_rfl) rfl fun K hK => ?_
       go_simp
       refine hK _ _ ?_; clear hK K
       refine w1 3 (by kernel_rfl) rfl fun K hK => ?_
       go_simp
       refine hK _ _ ?_; clear hK K
       refine w1 4 (by kernel_rfl) rfl fun K hK => ?_
       go_simp
       refine hK _ _ ?_; clear hK K
       refine w1 5 (by kernel_rfl) rfl fun K hK => ?_
       go_simp
       refine hK _ _ ?_; clear hK K
       refine w1 6 (by kernel_rfl) rfl fun K hK => ?_
       go_simp
       refine hK _ _ ?_; clear hK K
       refine w1 7 (by kernel_rfl) rfl fun K hK => ?_
       go_simp
       refine hK _ _ ?_; clear hK K
       refine w1 8 (by kernel_rfl) rfl fun K hK => ?_
       go_simp
       refine hK _ _ ?_; clear hK K
       refine w1 9 (by kernel_rfl) rfl fun K hK => ?_
       go_simp
       refine hK _ _ ?_; clear hK K
       refine w1 10 (by kernel_rfl) rfl fun K hK => ?_
       go_simp
       refine hK _ _ ?_; clear hK K
       refine w1 11 (by kernel_rfl) rfl fun K hK => ?_
       go_simp
       refine hK _ _ ?_; clear hK K
       refine w1 12 (by kernel_rfl) rfl fun K hK => ?_
       go_simp
       refine hK _ _ ?_; clear hK K
       simp only [bne, hl2, Bool.not_false]
       refine w1 13 (by kernel_rfl) rfl fun K hK => ?_
       go_simp
       refine hK _ _ ?_; clear hK K
       refine w1 14 (by kernel_rfl) rfl fun K hK => ?_
       go_simp
       refine hK _ _ ?_; clear hK K
       refine w1 15 (by kernel_rfl) rfl fun K hK => ?_
       go_simp
       refine hK _ _ ?_; clear hK K
       refine w1 16 (by kernel_rfl) rfl fun K hK => ?_
       go_simp
       refine hK _ _ ?_; clear hK K
       refine w1 17 (by kernel_rfl) rfl fun K hK => ?_
       go_simp
       refine hK _ _ ?_; clear hK K
       refine w1 18 (by kernel_rfl) rfl fun K hK => ?_
       go_simp
       refine hK _ _ ?_; clear hK K
       refine w1 19 (by kernel_rfl) rfl fun K hK => ?_
       go_simp
       refine hK _ _ ?_; clear hK K
       refine w1 20 (by kernel_rfl) rfl fun K hK => ?_
       go_simp
       refine hK _ _ ?_; clear hK K
       refine w1 21 (by kernel_rfl) rfl fun K hK => ?_
       go_simp
       refine hK _ _ ?_; clear hK K
       refine w1 22 (by kernel_rfl) rfl fun K hK => ?_
       go_simp
       refine hK _ _ ?_; clear hK K
       refine w1 23 (by kernel_rfl) rfl fun K hK => ?_
       go_simp
       refine hK _ _ ?_; clear hK K
       refine w1 24 (by kernel_rfl) rfl fun K hK => ?_
       go_simp
       refine hK _ _ ?_; clear hK K
       refine w1 25 (by kernel_rfl) rfl fun K hK => ?_
       go_simp
       refine hK _ _ ?_; clear hK K
       refine w1 26 (by kernel_rfl) rfl fun K hK => ?_
       go_simp
       refine hK _ _ ?_; clear hK K
       refine w1 27 (by kernel_rfl) rfl fun K hK => ?_
       go_simp
       refine hK _ _ ?_; clear hK K
       refine w1 28 (by kernel_rfl) rfl fun K hK => ?_
       go_simp
       refine hK _ _ ?_; clear hK K
       refine wpAny_take (i := 29) (v := undef) rfl (by kernel_rfl) (by kernel_rfl) (by kernel_rfl) (fun _ _ _ h => h) (Or.inr ⟨by rfl, rfl⟩) ?_
       refine wpAny_take (i := 30) (v := undef) rfl (by kernel_rfl) (by kernel_rfl) (by kernel_rfl) (fun _ _ _ h => h) (Or.inr ⟨by rfl, rfl⟩) ?_
       refine wpAny_take (i := 31) (v := undef) rfl (by kernel_rfl) (by kernel_rfl) (by kernel_rfl) (fun _ _ _ h => h) (Or.inr ⟨by rfl, rfl⟩) ?_
       refine wpAny_take (i := 32) (v := undef) rfl (by kernel_rfl) (by kernel_rfl) (by kernel_rfl) (fun _ _ _ h => h) (Or.inr ⟨by rfl, rfl⟩) ?_
       refine wpAny_take (i := 33) (v := undef) rfl (by kernel_rfl) (by kernel_rfl) (by kernel_rfl) (fun _ _ _ h => h) (Or.inr ⟨by rfl, rfl⟩) ?_
       refine w1 34 (by kernel_rfl) rfl fun K hK => ?_
       go_simp
       refine hK _ _ ?_; clear hK K
       refine w1 35 (by kernel_rfl) rfl fun K hK => ?_
       go_simp
       refine hK _ _ ?_; clear hK K
       refine w1 36 (by kernel_rfl) rfl fun K hK => ?_
       go_simp
       refine hK _ _ ?_; clear hK K
       refine w1 37 (by kernel_rfl) rfl fun K hK => ?_
       go_simp
       refine hK _ _ ?_; clear hK K
       refine w1 38 (by kernel_rfl) rfl fun K hK => ?_
       go_simp
       refine hK _ _ ?_; clear hK K
       refine w1 39 (by kernel_rfl) rfl fun K hK => ?_
       go_simp
       refine hK _ _ ?_; clear hK K
       refine wpAny_done (by kernel_rfl) ?_ _
       go_wp2_with fail
       all_goals
        go_ret
        exact .no xa
     ·have hn2 : (n' == 0) = false := by simpa using hn'
      refine wp_region_any (by kernel_rfl) ?_
      try (change wpAny _ _ _ _ _ _ _ (World.drew _))
      replace xa := xa.of_eq x3; replace xc := xc.of_eq x3; replace ⟨d0, d1, d2, d3⟩ := F4 x3 d0 d1 d2 d3; replace ⟨q0, q1, q2, q3⟩ := F4 x3 q0 q1 q2 q3
      clear x3
      generalize (wr.alloc (.cells #[.int .i64 65, .string (sv t'), .int .i64 n', .slice p' l'.length c'] 24)).drew = wd at *
      refine w1 0 (by kernel_rfl) rfl fun K hK => ?_
      go_simp
      refine hK _ _ ?_; clear hK K
      refine w1 1 (by kernel_rfl) rfl fun K hK => ?_
      go_simp
      refine hK _ _ ?_; clear hK K
      refine w1 2 (by kernel_rfl) rfl fun K hK => ?_
      go_simp
      refine hK _ _ ?_; clear hK K
      refine w1 3 (by kernel_rfl) rfl fun K hK => ?_
      go_simp
      refine hK _ _ ?_; clear hK K
      refine w1 4 (by kernel_rfl) rfl fun K hK => ?_
      go_simp
      refine hK _ _ ?_; clear hK K
      refine w1 5 (by kernel_rfl) rfl fun K hK => ?_
      go_simp
      refine hK _ _ ?_; clear hK K
      refine w1 6 (by kernel_rfl) rfl fun K hK => ?_
      go_simp
      refine hK _ _ ?_; clear hK K
      simp only [bne, hn2, Bool.not_false]
      refine w1 7 (by kernel_rfl) rfl fun K hK => ?_
      go_simp
      refine hK _ _ ?_; clear hK K
      refine w1 8 (by kernel_rfl) rfl fun K hK => ?_
      go_simp
      refine hK _ _ ?_; clear hK K
      refine w1 9 (by kernel_rfl) rfl fun K hK => ?_
      go_simp
      refine hK _ _ ?_; clear hK K
      refine w1 10 (by kernel_rfl) rfl fun K hK => ?_
      go_simp
      refine hK _ _ ?_; clear hK K
      refine w1 11 (by kernel_rfl) rfl fun K hK => ?_
      go_simp
      refine hK _ _ ?_; clear hK K
      refine w1 12 (by kernel_rfl) rfl fun K hK => ?_
      go_simp
      refine hK _ _ ?_; clear hK K
      refine w1 13 (by kernel_rfl) rfl fun K hK => ?_
      go_simp
      refine hK _ _ ?_; clear hK K
      refine w1 14 (by kernel_rfl) rfl fun K hK => ?_
      go_simp
      refine hK _ _ ?_; clear hK K
      refine w1 15 (by kernel_rfl) rfl fun K hK => ?_
      go_simp
      refine hK _ _ ?_; clear hK K
      refine w1 16 (by kernel_rfl) rfl fun K hK => ?_
      go_simp
      refine hK _ _ ?_; clear hK K
      refine w1 17 (by kernel_rfl) rfl fun K hK => ?_
      go_simp
      refine hK _ _ ?_; clear hK K
      refine w1 18 (by kernel_rfl) rfl fun K hK => ?_
      go_simp
      refine hK _ _ ?_; clear hK K
      refine w1 19 (by kernel_rfl) rfl fun K hK => ?_
      go_simp
      refine hK _ _ ?_; clear hK K
      refine w1 20 (by kernel_rfl) rfl fun K hK => ?_
      go_simp
      refine hK _ _ ?_; clear hK K
      refine w1 21 (by kernel_rfl) rfl fun K hK => ?_
      go_simp
      refine hK _ _ ?_; clear hK K
      refine w1 22 (by kernel_rfl) rfl fun K hK => ?_
      go_simp
      refine hK _ _ ?_; clear hK K
      refine w1 23 (by kernel_rfl) rfl fun K hK => ?_
      go_simp
      refine hK _ _ ?_; clear hK K
      refine w1 24 (by kernel_rfl) rfl fun K hK => ?_
      go_simp
      refine hK _ _ ?_; clear hK K
      refine w1 25 (by kernel_rfl) rfl fun K hK => ?_
      go_simp
      refine hK _ _ ?_; clear hK K
      refine w1 26 (by kernel_rfl) rfl fun K hK => ?_
      go_simp
      refine hK _ _ ?_; clear hK K
      refine w1 27 (by kernel_rfl) rfl fun K hK => ?_
      go_simp
      refine hK _ _ ?_; clear hK K
      refine w1 28 (by kernel_rfl) rfl fun K hK => ?_
      go_simp
      refine hK _ _ ?_; clear hK K
      refine wpAny_take (i := 29) (v := undef) rfl (by kernel_rfl) (by kernel_rfl) (by kernel_rfl) (fun _ _ _ h => h) (Or.inr ⟨by rfl, rfl⟩) ?_
      refine wpAny_take (i := 30) (v := undef) rfl (by kernel_rfl) (by kernel_rfl) (by kernel_rfl) (fun _ _ _ h => h) (Or.inr ⟨by rfl, rfl⟩) ?_
      refine wpAny_take (i := 31) (v := undef) rfl (by kernel_rfl) (by kernel_rfl) (by kernel_rfl) (fun _ _ _ h => h) (Or.inr ⟨by rfl, rfl⟩) ?_
      refine wpAny_take (i := 32) (v := undef) rfl (by kernel_rfl) (by kernel_rfl) (by kernel_rfl) (fun _ _ _ h => h) (Or.inr ⟨by rfl, rfl⟩) ?_
      refine wpAny_take (i := 33) (v := undef) rfl (by kernel_rfl) (by kernel_rfl) (by kernel_rfl) (fun _ _ _ h => h) (Or.inr ⟨by rfl, rfl⟩) ?_
      refine w1 34 (by kernel_rfl) rfl fun K hK => ?_
      go_simp
      refine hK _ _ ?_; clear hK K
      refine w1 35 (by kernel_rfl) rfl fun K hK => ?_
      go_simp
      refine hK _ _ ?_; clear hK K
      refine w1 36 (by kernel_rfl) rfl fun K hK => ?_
      go_simp
      refine hK _ _ ?_; clear hK K
      refine w1 37 (by kernel_rfl) rfl fun K hK => ?_
      go_simp
      refine hK _ _ ?_; clear hK K
      refine w1 38 (by kernel_rfl) rfl fun K hK => ?_
      go_simp
      refine hK _ _ ?_; clear hK K
      refine w1 39 (by kernel_rfl) rfl fun K hK => ?_
      go_simp
      refine hK _ _ ?_; clear hK K
      refine wpAny_done (by kernel_rfl) ?_ _
      go_wp2_with fail
      all_goals
       go_ret
       exact .no xa
    ·have hk2 : (k' == 65) = false := by simpa using hk'
     refine wp_region_any (by kernel_rfl) ?_
     try (change wpAny _ _ _ _ _ _ _ (World.drew _))
     replace xa := xa.of_eq x3; replace xc := xc.of_eq x3; replace ⟨d0, d1, d2, d3⟩ := F4 x3 d0 d1 d2 d3; replace ⟨q0, q1, q2, q3⟩ := F4 x3 q0 q1 q2 q3
     clear x3
     generalize (wr.alloc (.cells #[.int .i64 k', .string (sv t'), .int .i64 n', .slice p' l'.length c'] 24)).drew = wd at *
     refine w1 0 (by kernel_rfl) rfl fun K hK => ?_
     go_simp
     refine hK _ _ ?_; clear hK K
     refine w1 1 (by kernel_rfl) rfl fun K hK => ?_
     go_simp
     refine hK _ _ ?_; clear hK K
     refine w1 2 (by kernel_rfl) rfl fun K hK => ?_
     go_simp
     refine hK _ _ ?_; clear hK K
     simp only [bne, hk2, Bool.not_false]
     refine w1 3 (by kernel_rfl) rfl fun K hK => ?_
     go_simp
     refine hK _ _ ?_; clear hK K
     refine w1 4 (by kernel_rfl) rfl fun K hK => ?_
     go_simp
     refine hK _ _ ?_; clear hK K
     refine w1 5 (by kernel_rfl) rfl fun K hK => ?_
     go_simp
     refine hK _ _ ?_; clear hK K
     refine w1 6 (by kernel_rfl) rfl fun K hK => ?_
     go_simp
     refine hK _ _ ?_; clear hK K
     refine w1 7 (by kernel_rfl) rfl fun K hK => ?_
     go_simp
     refine hK _ _ ?_; clear hK K
     refine w1 8 (by kernel_rfl) rfl fun K hK => ?_
     go_simp
     refine hK _ _ ?_; clear hK K
     refine w1 9 (by kernel_rfl) rfl fun K hK => ?_
     go_simp
     refine hK _ _ ?_; clear hK K
     refine w1 10 (by kernel_rfl) rfl fun K hK => ?_
     go_simp
     refine hK _ _ ?_; clear hK K
     refine w1 11 (by kernel_rfl) rfl fun K hK => ?_
     go_simp
     refine hK _ _ ?_; clear hK K
     refine w1 12 (by kernel_rfl) rfl fun K hK => ?_
     go_simp
     refine hK _ _ ?_; clear hK K
     refine w1 13 (by kernel_rfl) rfl fun K hK => ?_
     go_simp
     refine hK _ _ ?_; clear hK K
     refine w1 14 (by kernel_rfl) rfl fun K hK => ?_
     go_simp
     refine hK _ _ ?_; clear hK K
     refine w1 15 (by kernel_rfl) rfl fun K hK => ?_
     go_simp
     refine hK _ _ ?_; clear hK K
     refine w1 16 (by kernel_rfl) rfl fun K hK => ?_
     go_simp
     refine hK _ _ ?_; clear hK K
     refine w1 17 (by kernel_rfl) rfl fun K hK => ?_
     go_simp
     refine hK _ _ ?_; clear hK K
     refine w1 18 (by kernel_rfl) rfl fun K hK => ?_
     go_simp
     refine hK _ _ ?_; clear hK K
     refine w1 19 (by kernel_rfl) rfl fun K hK => ?_
     go_simp
     refine hK _ _ ?_; clear hK K
     refine w1 20 (by kernel_rfl) rfl fun K hK => ?_
     go_simp
     refine hK _ _ ?_; clear hK K
     refine w1 21 (by kernel_rfl) rfl fun K hK => ?_
     go_simp
     refine hK _ _ ?_; clear hK K
     refine w1 22 (by kernel_rfl) rfl fun K hK => ?_
     go_simp
     refine hK _ _ ?_; clear hK K
     refine w1 23 (by kernel_rfl) rfl fun K hK => ?_
     go_simp
     refine hK _ _ ?_; clear hK K
     refine w1 24 (by kernel_rfl) rfl fun K hK => ?_
     go_simp
     refine hK _ _ ?_; clear hK K
     refine w1 25 (by kernel_rfl) rfl fun K hK => ?_
     go_simp
     refine hK _ _ ?_; clear hK K
     refine w1 26 (by kernel_rfl) rfl fun K hK => ?_
     go_simp
     refine hK _ _ ?_; clear hK K
     refine w1 27 (by kernel_rfl) rfl fun K hK => ?_
     go_simp
     refine hK _ _ ?_; clear hK K
     refine w1 28 (by kernel_rfl) rfl fun K hK => ?_
     go_simp
     refine hK _ _ ?_; clear hK K
     refine wpAny_take (i := 29) (v := undef) rfl (by kernel_rfl) (by kernel_rfl) (by kernel_rfl) (fun _ _ _ h => h) (Or.inr ⟨by rfl, rfl⟩) ?_
     refine wpAny_take (i := 30) (v := undef) rfl (by kernel_rfl) (by kernel_rfl) (by kernel_rfl) (fun _ _ _ h => h) (Or.inr ⟨by rfl, rfl⟩) ?_
     refine wpAny_take (i := 31) (v := undef) rfl (by kernel_rfl) (by kernel_rfl) (by kernel_rfl) (fun _ _ _ h => h) (Or.inr ⟨by rfl, rfl⟩) ?_
     refine wpAny_take (i := 32) (v := undef) rfl (by kernel_rfl) (by kernel_rfl) (by kernel_rfl) (fun _ _ _ h => h) (Or.inr ⟨by rfl, rfl⟩) ?_
     refine wpAny_take (i := 33) (v := undef) rfl (by kernel_rfl) (by kernel_rfl) (by kernel_rfl) (fun _ _ _ h => h) (Or.inr ⟨by rfl, rfl⟩) ?_
     refine w1 34 (by kernel_rfl) rfl fun K hK => ?_
     go_simp
     refine hK _ _ ?_; clear hK K
     refine w1 35 (by kernel_rfl) rfl fun K hK => ?_
     go_simp
     refine hK _ _ ?_; clear hK K
     refine w1 36 (by kernel_rfl) rfl fun K hK => ?_
     go_simp
     refine hK _ _ ?_; clear hK K
     refine w1 37 (by kernel_rfl) rfl fun K hK => ?_
     go_simp
     refine hK _ _ ?_; clear hK K
     refine w1 38 (by kernel_rfl) rfl fun K hK => ?_
     go_simp
     refine hK _ _ ?_; clear hK K
     refine w1 39 (by kernel_rfl) rfl fun K hK => ?_
     go_simp
     refine hK _ _ ?_; clear hK K
     refine wpAny_done (by kernel_rfl) ?_ _
     go_wp2_with fail
     all_goals
      go_ret
      exact .no xa
   ·have hfin := hid (show l.all (oneOk tt nn (decide (1 < l.length))) = true from hinv.out (by rw [List.drop_of_length_le (by omega)]; rfl))
    clear hinv
    go_wp2
    all_goals
     go_ret
     exact .yes (by have h1 := isFrom_of (n := nn) (hb43.out (by trivial)) (by rw [hnn.out]; decide) hl0'.out (by have := hfin.out; rw [htt.out] at this; exact this); rw [hnn.out] at h1; exact h1) xx

theorem from_any (t : Bs) (n : Int) (l : List Tr) (B : Nat) (v : Value) (w : World) (h : NodeAt B w v (.mk 64 t n l)) : Calls Tryz.prog 54 #[v] w (Snd (isFrom (.mk 64 t n l) = true) w) := by
 have hsv := sv_list
 obtain ⟨sl, rfl, hks, hkr, hnr, htl⟩ := id h.open
 simp only [Tr.t, Tr.l] at hks htl
 obtain ⟨p, c, rfl, hcp, _⟩ := hks.kid
 by_cases hl0 : l = []
 ·subst hl0
  have xx : Fx w (w.alloc (.cells #[.int .i64 64, .string (sv t), .int .i64 n, .slice p (List.length ([] : List Tr)) c] 24)) := Ext.alloc _ _ _
  obtain ⟨c0, c1, c2, c3⟩ := nd_cells w 64 n (sv t) (.slice p (List.length ([] : List Tr)) c)
  clear h hks hcp hkr hnr
  simp only [nv, Tr.k, Tr.t, Tr.n, lN] at *
  go_enter Tryz.func54, Tryz.ntmps54
  go_wp2_with (go_at_call 43; refine (valid_any t _ htl).mono ?_; rintro e w43 ⟨_ | _, rfl, hb43, z_⟩ <;> replace hb43 := hid hb43 <;> (replace xx := xx.of_eq z_; replace ⟨c0, c1, c2, c3⟩ := F4 z_ c0 c1 c2 c3))
  all_goals
   go_ret
   exact .no xx
 by_cases hn : n = 0 ∨ n = 1
 ·exact from_round n hn t l hl0 B _ w h
 have xx : Fx w (w.alloc (.cells #[.int .i64 64, .string (sv t), .int .i64 n, .slice p l.length c] 24)) := Ext.alloc _ _ _
 obtain ⟨c0, c1, c2, c3⟩ := nd_cells w 64 n (sv t) (.slice p l.length c)
 have h0 : ¬ n = 0 := fun h => hn (.inl h)
 have h1 : ¬ n = 1 := fun h => hn (.inr h)
 have h2 : (n != 0) = true := by simpa using h0
 have h3 : (n != 1) = true := by simpa using h1
 clear h hks hcp hkr hnr hn
 simp only [nv, Tr.k, Tr.t, Tr.n] at htl ⊢
 go_enter Tryz.func54, Tryz.ntmps54
 go_wp2_with (go_at_call 43; refine (valid_any t _ htl).mono ?_; rintro e w43 ⟨_ | _, rfl, hb43, z_⟩ <;> replace hb43 := hid hb43 <;> (replace xx := xx.of_eq z_; replace ⟨c0, c1, c2, c3⟩ := F4 z_ c0 c1 c2 c3))
 all_goals
  go_ret
  exact .no xx

end Go.Proofs.YtpmlmpibpmoclaaGreatDoor
