/-
  The document's answer on trees: types.
-/
import Derived.Test.YtpmlmpibpmoclaaGreatDoorW4
namespace Go.Proofs.YtpmlmpibpmoclaaGreatDoor
set_option linter.all false
set_option maxRecDepth 20000
set_option maxHeartbeats 4000000
open Go.RowKit

abbrev Fx (w w' : World) : Prop := Ext (fun _ => False) w w'

def TypeC (N : Nat) : Prop := ∀ x : Tr, cnt x < N → ∀ B v w, NodeAt B w v x → Calls Tryz.prog 19 #[v] w (Snd (isT x = true) w)

theorem typeOr_any {N : Nat} (ih : TypeC N) (x : Tr) (hx : cnt x < N) (B : Nat) (v : Value) (w : World) (h : NodeAt B w v x) : Calls Tryz.prog 50 #[v] w (Snd (isTyOr x = true) w) := by
 obtain ⟨sl, rfl, hks, _, _, htl⟩ := id h.open
 have H := hid h
 have xw : Fx w (w.alloc (.cells #[.int .i64 x.k, .string (sv x.t), .int .i64 x.n, sl] 24)) := Ext.alloc _ _ _
 obtain ⟨c0, c1, c2, c3⟩ := nd_cells w x.k x.n (sv x.t) sl
 have hd := hid (h.keepF xw)
 clear h hks htl
 simp only [nv] at hd H ⊢
 go_enter Tryz.func50, Tryz.ntmps50
 go_wp2_with (first
  | (go_at_call 52; refine (none_any B x _ _ hd.out).mono ?_; rintro e w1 ⟨rfl, x1⟩; replace ⟨c0, c1, c2, c3⟩ := F4 x1 c0 c1 c2 c3; have hd1 := hid (hd.out.keepF x1))
  | (go_at_call 19; refine (ih x hx B _ _ hd1.out).mono ?_; rintro e w2 ⟨b, rfl, hb, x2⟩; replace hb := hid hb))
 all_goals
  go_ret
  first
   | exact .yes (by simp [isTyOr, *]) (xw.of_eq x1)
   | exact ⟨b, rfl, fun h => by simp [isTyOr, hb.out h], (xw.of_eq x1).of_eq x2⟩

theorem pms_step {typed : Bool} {S : List Bs} {p : Tr} {r : List Tr} (h1 : p.k = 13) (h2 : p.n = 0) (h3 : isId p.t = true) {y : Tr} (h4 : p.l = [y]) (h5 : isTyOr y = true) (h6 : ¬ (typed = true ∧ isNone y = true)) (h7 : has S p.t = false)
  (h : pms typed (S ++ [p.t]).reverse r = true) : pms typed S.reverse (p :: r) = true := by
 obtain ⟨k, t, n, l⟩ := p
 simp only [Tr.k, Tr.t, Tr.n, Tr.l] at *
 subst h1 h2 h4
 rw [List.reverse_append, List.reverse_singleton, List.singleton_append] at h
 have h8 : S.reverse.contains t = false := by
  simp only [has, List.contains_eq_mem, decide_eq_false_iff_not] at h7 ⊢
  simpa using h7
 simp only [pms, h, h8, h3]
 unfold isTyOr at h5
 cases typed <;> cases hn : isNone y <;> simp_all

theorem kid_one {l : List Tr} (h : l.length = 1) : ∃ y, l = [y] := List.length_eq_one_iff.1 h

theorem alloc_size (w : World) (o : Obj) : (w.alloc o).heap.size = w.heap.size + 1 := by simp

theorem params_any {N : Nat} (ih : TypeC N) (typed : Bool) (x : Tr) (hx : cnt x ≤ N) (B : Nat) (v : Value) (w : World) (h : NodeAt B w v x) : Calls Tryz.prog 49 #[v, .bool typed] w (Snd (isPms typed x = true) w) := by
 obtain ⟨ii, hi, hz0, hz1, hz2⟩ := info_parts info9
 obtain ⟨sl, rfl, hks, hkr, hnr, htl⟩ := id h.open
 obtain ⟨k, t, n, l⟩ := x
 simp only [Tr.t, Tr.l] at hks htl
 obtain ⟨p, c, rfl, hcp, hkid⟩ := hks.kid
 have xw : Fx w (w.alloc (.cells #[.int .i64 k, .string (sv t), .int .i64 n, .slice p l.length c] 24)) := Ext.alloc _ _ _
 have C := hid (nd_cells w k n (sv t) (.slice p l.length c))
 obtain ⟨c0, c1, c2, c3⟩ := C.out
 have hd := hid (h.keepF xw)
 have K := hid hkid
 have hll := hid hcp.2
 clear h hks htl hkid hcp hkr hnr
 simp only [nv, Tr.k, Tr.t, Tr.n] at hd ⊢
 by_cases hk : k = 12
 ·subst hk
  obtain ⟨ty, hty'⟩ : ∃ ty, ty = typed := ⟨_, rfl⟩
  have hty := hid hty'
  have hpl' := hid (show isPms typed (Tr.mk 12 t n l) = (plainT (Tr.mk 12 t n l) && pms ty [] l) from by simp [isPms, Tr.k, Tr.l, hty'])
  clear hty'
  cases hpl : plainT (Tr.mk 12 t n l)
  ·go_enter Tryz.func49, Tryz.ntmps49
   go_wp2_with (go_at_call 22; refine (plain_any B _ _ _ hd.out).mono ?_; rintro e w1 ⟨rfl, x1⟩; replace ⟨c0, c1, c2, c3⟩ := F4 x1 c0 c1 c2 c3; have xx := xw.of_eq x1)
   go_ret
   exact .no xx
  cases typed
  all_goals
   go_enter Tryz.func49, Tryz.ntmps49
   go_wp2_with (go_at_call 22; refine (plain_any B _ _ _ hd.out).mono ?_; rintro e w1 ⟨rfl, x1⟩; replace ⟨c0, c1, c2, c3⟩ := F4 x1 c0 c1 c2 c3; have xx := xw.of_eq x1)
   all_goals first
    | (go_ret; exact .no xx)
    | skip
   have hcn := hid (show 1 + cnts l ≤ N from by simpa [cnt] using hx)
   clear hx c0 c1 c2 c3 xx hd
   go_loopw [5, 6] (fun nm i wr => ∃ (j : Nat) (S : List Bs), j ≤ l.length ∧ Hid (S.length = j) ∧ i = .int .i64 j ∧ Hid (OwnS (w.heap.size + 1) wr nm S) ∧ Hid (pms ty S.reverse (l.drop j) = true → pms ty [] l = true) ∧ Fx (w.alloc (.cells #[.int .i64 12, .string (sv t), .int .i64 n, .slice p l.length c] 24)) wr) (fun _ i _ => l.length - (intOf i).toNat)
   case atStart => exact ⟨0, [], Nat.zero_le _, hid rfl, rfl, hid (OwnS.nil _ _), hid (fun h => h), x1⟩
   case round =>
    clear x1
    obtain ⟨j, S, hj, hSj, rfl, hown, hinv, x2⟩ := hrel
    have xx := xw.of_eq x2
    obtain ⟨c0, c1, c2, c3⟩ := C.out
    replace ⟨c0, c1, c2, c3⟩ := F4 x2 c0 c1 c2 c3
    have hj4 : (j : Int) ≤ 4398046511104 := by have := hll.out; omega
    by_cases hlt : j < l.length
    ·obtain ⟨g, o, s, rfl, hgB, a0, a1, a2, a3, ha⟩ := K.out j hlt
     have hcy := hid (show cnt l[j] < N from by have := cnt_get hlt; have := hcn.out; omega)
     have hdr := hid (List.drop_eq_getElem_cons hlt)
     generalize l[j] = y at *
     obtain ⟨sl', hs', hks, hkr, hnr, htl⟩ := id ha.open
     obtain rfl : s = sl' := by simpa [nv] using hs'
     clear hs' hkr hnr
     obtain ⟨k', t', n', l'⟩ := y
     simp only [Tr.k, Tr.t, Tr.n, Tr.l] at *
     obtain ⟨p', c', rfl, hcp', hkid'⟩ := hks.kid
     replace ⟨a0, a1, a2, a3⟩ := F4 xx a0 a1 a2 a3
     have K' := hid hkid'
     replace hcp' := hid hcp'
     clear hks hkid' ha
     have xa := xx.of_eq (Ext.alloc _ wr (.cells #[.int .i64 k', .string (sv t'), .int .i64 n', .slice p' l'.length c'] 24))
     by_cases hk' : k' = 13
     ·subst hk'
      by_cases hn' : n' = 0
      ·subst hn'
       obtain ⟨d0, d1, d2, d3⟩ := nd_cells wr 13 0 (sv t') (.slice p' l'.length c')
       by_cases hl1 : l'.length = 1
       ·obtain ⟨z, rfl⟩ := kid_one hl1
        obtain ⟨g', o', s', rfl, hgB', e0, e1, e2, e3, hz⟩ := K'.out 0 (by simp)
        have hcz := hid (show cnt z < N from by have := hcy.out; simp [cnt, cnts] at this; omega)
        simp only [gZ, zM, aZ, List.length_singleton] at *
        replace ⟨e0, e1, e2, e3⟩ := F4 xa e0 e1 e2 e3
        replace hz := hid (hz.keepF xa)
        simp only [nv] at hz
        replace hown := hid (hown.out.keepF (Ext.alloc _ wr (.cells #[.int .i64 13, .string (sv t'), .int .i64 0, .slice (some ⟨g', o', none⟩) 1 c'] 24)))
        have xc : Fx (wr.alloc (.cells #[.int .i64 13, .string (sv t'), .int .i64 0, .slice (some ⟨g', o', none⟩) 1 c'] 24)) (wr.alloc (.cells #[.int .i64 13, .string (sv t'), .int .i64 0, .slice (some ⟨g', o', none⟩) 1 c'] 24)) := Ext.refl _ _
        have hSl := hid (show S.length ≤ 4398046511104 from by have := hSj.out; have := hll.out; omega)
        clear hl1 K' hcp'
        go_wp2_with (first
         | (go_at_call 44; refine (id_any t' _ htl).mono ?_; rintro e w3 ⟨_ | _, rfl, hb3, x3⟩ <;> (replace hb3 := hid hb3; replace xc := xc.of_eq x3; replace ⟨d0, d1, d2, d3⟩ := F4 x3 d0 d1 d2 d3; replace ⟨e0, e1, e2, e3⟩ := F4 x3 e0 e1 e2 e3; replace hz := hid (hz.out.keepF x3); replace hown := hid (hown.out.keepF x3)))
         | ((first | (go_at_call 50; refine (typeOr_any ih z hcz.out B _ _ hz.out).mono ?_; rintro e w4 ⟨_ | _, rfl, hb4, z_⟩ <;> replace hb4 := hid hb4) | (go_at_call 52; refine (none_any B z _ _ hz.out).mono ?_; rintro e w5 ⟨rfl, z_⟩)) <;> (replace xc := xc.of_eq z_; replace ⟨d0, d1, d2, d3⟩ := F4 z_ d0 d1 d2 d3; replace ⟨e0, e1, e2, e3⟩ := F4 z_ e0 e1 e2 e3; replace hz := hid (hz.out.keepF z_); replace hown := hid (hown.out.keepF z_)))
         | (go_at_call 48; refine (in_any t' S _ _ hown.out.sl hSl.out).mono ?_; rintro e w6 ⟨rfl, rfl⟩)
         | (at_builtin; refine wpList_append_str rfl (.tmp 72) (.tmp 75) 68 rfl (w.heap.size + 1) ii _ Tryz.underlying68 hi hz0 hz1 hz2 rfl _ S _ _ t' rfl rfl (hown.out.keepF (Ext.alloc _ _ _)) (cell_alloc _ _ _ 0 _ rfl) hSl.out (by rw [alloc_size]; have q1 := xc.size; rw [alloc_size] at q1; have q2 := x2.size; rw [alloc_size] at q2; omega) ?_; intro p7 n7 c7 w7 hown7 hn7 hx7; subst hn7))
        all_goals first
         | (go_ret; exact .no (xa.of_eq xc))
         | skip
        all_goals
         have hstep := hid (fun hr : pms ty (S ++ [t']).reverse (l.drop (j + 1)) = true => hinv.out (by
          rw [hdr.out]
          exact pms_step rfl rfl (hb3.out (by trivial)) rfl (hb4.out (by trivial)) (by rintro ⟨h1, h2⟩; first | exact absurd h2 (by assumption) | (have h9 := hty.out; rw [h1] at h9; cases h9)) (by assumption) hr))
         go_roundw
         case rel => exact ⟨j + 1, S ++ [t'], by omega, hid (by simp [hSj.out]), by go_num, hid hown7, hstep, (((x2.of_eq (Ext.alloc _ _ _)).of_eq xc).of_eq (Ext.alloc _ _ _)).trans (hx7.mono fun k _ hk => .inr (by rw [alloc_size]; exact hk))⟩
         case measure => simp [intOf]; omega
       ·have hl2 : ¬ (l'.length : Int) = 1 := by omega
        have hl3 : ((l'.length : Int) == 1) = false := by simpa using hl2
        clear hl1
        go_wp2_with (go_at_call 44; refine (id_any t' _ htl).mono ?_; rintro e w3 ⟨_ | _, rfl, hb3, x3⟩ <;> (replace hb3 := hid hb3; replace ⟨d0, d1, d2, d3⟩ := F4 x3 d0 d1 d2 d3))
        all_goals
         go_ret
         exact .no (xa.of_eq x3)
      ·go_wp2
       go_ret
       exact .no xa
     ·go_wp2
      go_ret
      exact .no xa
    ·have hfin := hid (show pms ty [] l = true from hinv.out (by rw [List.drop_of_length_le (by omega)]; rfl))
     clear hinv hown
     go_wp2
     go_ret
     exact .yes (by rw [hpl'.out, hpl, hfin.out]; rfl) xx
 ·go_enter Tryz.func49, Tryz.ntmps49
  go_wp2
  go_ret
  exact .no xw

end Go.Proofs.YtpmlmpibpmoclaaGreatDoor
