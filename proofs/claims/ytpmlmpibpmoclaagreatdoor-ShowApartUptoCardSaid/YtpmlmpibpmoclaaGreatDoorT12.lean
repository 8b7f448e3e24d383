/-
  The program's own tests on trees: imports, exports from.
-/
import Derived.Test.YtpmlmpibpmoclaaGreatDoorT11
namespace Go.Proofs.YtpmlmpibpmoclaaGreatDoor
set_option linter.all false
set_option maxRecDepth 20000
set_option maxHeartbeats 4000000
open Go.RowKit

theorem imports_t (x : Tr) (hk : x.k = 60) (hx : isImport x = true) (B : Nat) (v : Value) (w : World) (h : NT B w v x) : Calls Tryz.prog 110 #[v] w (Ans true w) := by
 obtain ⟨k, t, n, l⟩ := x
 simp only [Tr.k] at hk
 subst hk
 simp only [isImport, Tr.t, Tr.n, Tr.l, Bool.and_eq_true, Bool.or_eq_true, beq_iff_eq] at hx
 obtain ⟨⟨⟨hv, hn⟩, hi⟩, h1⟩ := hx
 have hf : impsOk (fstT l) 0 l = true := by cases l <;> exact hi
 have hk : ∀ i (h : i < l.length), ImpKid l i l[i] := fun i hi => by
  have := imps_kid hf i hi
  simpa [ImpKid] using this
 rcases hn with rfl | rfl
 ·exact imports_0 t l hv hk B v w h
 ·rcases h1 with h1 | ⟨h1, h2⟩
  ·cases h1
  ·refine imports_1 t l hv hk (by cases l <;> simp at h1 ⊢) (fun i hi he => ?_) B v w h
   simp [hasStar] at h2
   exact h2 _ (List.getElem_mem hi) (by simpa [star] using he)

def FromKid (t : Bs) (n : Int) (l : List Tr) (x : Tr) : Prop := ∃ kt o, x = .mk 65 kt 0 [o] ∧ (o = .mk 14 [] 0 [] ∨ ∃ ot, o = .mk 6 ot 0 [] ∧ signs ot = true ∧ ¬ ot = kt) ∧
 ((kt = [42] ∧ ¬ t = [] ∧ n = 0 ∧ l.length = 1) ∨ (¬ kt = [42] ∧ signs kt = true ∧ (¬ t = [] ∨ isId kt = true)))
theorem none_eq' {o : Tr} (h : isNone o = true) : o = .mk 14 [] 0 [] := by
 obtain ⟨k, t, n, l⟩ := o
 simp [isNone, plainT, bare, Tr.k, Tr.t, Tr.n, Tr.l] at h
 obtain ⟨⟨rfl, rfl, rfl⟩, rfl⟩ := h
 rfl
theorem from_kid {t : Bs} {n : Int} {l : List Tr} {x : Tr} (hm : x ∈ l) (h : oneOk t n (decide (1 < l.length)) x = true) : FromKid t n l x := by
 obtain ⟨k, kt, xn, xl⟩ := x
 rcases xl with _ | ⟨o, _ | ⟨z, m⟩⟩ <;> simp [oneOk, Tr.k, Tr.t, Tr.n, Tr.l] at h
 obtain ⟨⟨⟨rfl, rfl⟩, h3⟩, h4⟩ := h
 refine ⟨kt, o, rfl, ?_, ?_⟩
 ·rcases h3 with h3 | ⟨h3, h5⟩
  ·exact .inl (none_eq' h3)
  ·obtain ⟨ok, ot, on, ol⟩ := o
   simp [isName, bare, Tr.k, Tr.t, Tr.n, Tr.l] at h3 h5
   obtain ⟨⟨⟨rfl, rfl⟩, rfl⟩, h6⟩ := h3
   refine .inr ⟨ot, rfl, ?_, h5⟩
   rcases h6 with h6 | h6
   ·simp [isId] at h6; exact h6.1
   ·exact h6
 ·by_cases hs : kt = [42]
  ·subst hs
   simp [star] at h4
   have : 0 < l.length := List.length_pos_of_mem hm
   exact .inl ⟨rfl, h4.1.2, h4.2, by omega⟩
  ·have : ¬ kt = star := hs
   simp [this] at h4
   refine .inr ⟨hs, h4.1, ?_⟩
   rcases h4.2 with h | h
   ·exact .inl h
   ·exact .inr h

theorem from_e0 (l : List Tr) (hv : valid [] = true) (hne : 0 < l.length) (hi : ∀ i (h : i < l.length), FromKid [] 0 l l[i]) (B : Nat) (v : Value) (w : World) (h : NT B w v (.mk 64 [] 0 l)) : Calls Tryz.prog 113 #[v] w (Ans true w) := by
 have Hi := hid hi
 have Hv := hid hv
 have hle : ((l.length : Int) == 0) = false := beq_eq_false_iff_ne.2 (by omega)

 clear hi hv
 have hsv := sv_list
 obtain ⟨p, c, rfl, hks, hkr, hnr, htl, hcp, hkid, xw, C, _, _, hT⟩ := hT_ h
 obtain ⟨c0, c1, c2, c3⟩ := C.out
 have K := hid hkid
 have hll := hid hcp.2
 have HT := hid h.tab
 clear h hks hkid hcp hkr hnr
 simp only [nv, Tr.k, Tr.t, Tr.n, Tr.l]
 go_enter Tryz.func113, Tryz.ntmps113
 go_wp2_with (go_at_call 171; refine (valid_t' [] htl Hv.out B _ hT.out).mono ?_; rintro e w171 ⟨rfl, x171⟩; replace ⟨c0, c1, c2, c3⟩ := F4 x171 c0 c1 c2 c3)
 clear c0 c1 c2 c3
 go_loopw [35] (fun i wr => ∃ j : Nat, j ≤ l.length ∧ i = .int .i64 j ∧ Fx (w.alloc (.cells #[.int .i64 64, .string (sv []), .int .i64 0, .slice p l.length c] 24)) wr) (fun i _ => l.length - (intOf i).toNat)
 case atStart => exact ⟨0, Nat.zero_le _, rfl, x171⟩
 case round =>
  obtain ⟨j, hj, rfl, x2⟩ := hrel
  have c0 := x2.cellF C.out.1
  have c1 := x2.cellF C.out.2.1
  have c2 := x2.cellF C.out.2.2.1
  have c3 := x2.cellF C.out.2.2.2
  have xx := xw.of_eq x2
  have hj4 : (j : Int) ≤ 4398046511104 := by have := hll.out; omega
  by_cases hlt : j < l.length
  ·obtain ⟨kt, o, hy0, ho, hcase⟩ := Hi.out j hlt
   rcases hcase with ⟨hkt, hts, hns, hl1⟩ | ⟨hkt, hs, hid'⟩
   ·exact absurd rfl hts
   ·have hk2 : (kt == [42]) = false := by simpa using hkt
    have Hs := hid hs
    have Hid := hid (hid'.resolve_left (fun h => h rfl))
    clear hs hkt hid'
    rcases ho with rfl | ⟨ot, rfl, hot, hne2⟩
    ·skip
     obtain ⟨g, off, s, rfl, hgB, e0, e1, e2, e3, hy⟩ := K.out j hlt
     rw [hy0] at e0 e1 e2 hy
     simp only [Tr.k, Tr.t, Tr.n] at e0 e1 e2
     obtain ⟨sl', hs', hks', hkr', hnr', htl'⟩ := id hy.open
     obtain rfl : s = sl' := by simpa [nv, Tr.k, Tr.t, Tr.n] using hs'
     simp only [Tr.k, Tr.t, Tr.n, Tr.l] at hks' htl'
     obtain ⟨p', c', rfl, _, hkid'⟩ := hks'.kid
     have K' := hid hkid'
     clear hs' hks' hkr' hnr' hy0 hkid'
     replace ⟨e0, e1, e2, e3⟩ := F4 xx e0 e1 e2 e3
     simp only [lC, lN, zA] at *
     have xb : Fx wr (wr.alloc (.cells #[.int .i64 65, .string (sv kt), .int .i64 0, .slice p' 1 c'] 24)) := Ext.alloc _ _ _
     obtain ⟨d0, d1, d2, d3⟩ := nd_cells wr 65 0 (sv kt) (.slice p' 1 c')
     have hd' := hid ((NT.mk hy HT.out).keepF (xx.of_eq xb))
     simp only [nv, Tr.k, Tr.t, Tr.n, Tr.l] at hd'
     have f0 := xb.cellF c0
     have f1 := xb.cellF c1
     have f2 := xb.cellF c2
     have f3 := xb.cellF c3
     replace xx := xx.of_eq xb
     clear hy
     obtain ⟨g', o', s'', rfl, hgB', z0, z1, z2, z3, hz⟩ := K'.out 0 (by simp)
     obtain ⟨sl'', hs'', hks'', _, _, hto⟩ := id hz.open
     obtain rfl : s'' = sl'' := by simpa [nv, Tr.k, Tr.t, Tr.n] using hs''
     simp only [gZ, Tr.k, Tr.t, Tr.n, Tr.l] at hks'' hto z0 z1 z2 z3
     obtain ⟨p'', c'', rfl, _⟩ := hks''.kid
     clear hs'' hks'' K'
     simp only [zM, aZ, lN, gZ] at z0 z1 z2 z3 hz
     replace z0 := xb.cellF ((xw.of_eq x2).cellF z0)
     replace z1 := xb.cellF ((xw.of_eq x2).cellF z1)
     replace z2 := xb.cellF ((xw.of_eq x2).cellF z2)
     replace z3 := xb.cellF ((xw.of_eq x2).cellF z3)
     have hzz : (wr.alloc (.cells #[.int .i64 65, .string (sv kt), .int .i64 0, .slice (some ⟨g', o', none⟩) 1 c'] 24)).heap.size = wr.heap.size + 1 := alloc_size _ _
     have xo : Fx (wr.alloc (.cells #[.int .i64 65, .string (sv kt), .int .i64 0, .slice (some ⟨g', o', none⟩) 1 c'] 24)) ((wr.alloc (.cells #[.int .i64 65, .string (sv kt), .int .i64 0, .slice (some ⟨g', o', none⟩) 1 c'] 24)).alloc (.cells #[.int .i64 14, .string (sv []), .int .i64 0, .slice p'' 0 c''] 24)) := Ext.alloc _ _ _
     obtain ⟨y0, y1, y2, y3⟩ := nd_cells (wr.alloc (.cells #[.int .i64 65, .string (sv kt), .int .i64 0, .slice (some ⟨g', o', none⟩) 1 c'] 24)) 14 0 (sv []) (.slice p'' 0 c'')
     rw [hzz] at y0 y1 y2 y3
     have hO := hid (((NT.mk hz HT.out).keepF (xw.of_eq x2)).keepF (xb.of_eq xo))
     simp only [nv, Tr.k, Tr.t, Tr.n, Tr.l, lN] at hO
     have d0' := xo.cellF d0
     have d1' := xo.cellF d1
     have d2' := xo.cellF d2
     have d3' := xo.cellF d3
     have f0' := xo.cellF f0
     have f1' := xo.cellF f1
     have f2' := xo.cellF f2
     have f3' := xo.cellF f3
     replace xx := xx.of_eq xo
     clear hz hzz
     go_wp2_with (first
      | (go_at_call 172; refine (tnone_any B (.mk 14 [] 0 []) _ _ hO.out.node).mono ?_; rintro e w172 ⟨he172, x172⟩; rw [show isNone (.mk 14 [] 0 []) = true from rfl] at he172; subst he172; replace xx := xx.of_eq x172; replace d0' := x172.cellF d0'; replace d1' := x172.cellF d1'; replace d2' := x172.cellF d2'; replace d3' := x172.cellF d3'; replace f0' := x172.cellF f0'; replace f1' := x172.cellF f1'; replace f2' := x172.cellF f2'; replace f3' := x172.cellF f3'; replace ⟨y0, y1, y2, y3⟩ := F4 x172 y0 y1 y2 y3; replace hO := hid (hO.out.keepF x172))
      | (go_at_call_of 120 (sv kt); refine (prop_t kt htl' Hs.out B _ hO.out.tab).mono ?_; rintro e w121 ⟨rfl, x121⟩; replace xx := xx.of_eq x121; replace d0' := x121.cellF d0'; replace d1' := x121.cellF d1'; replace d2' := x121.cellF d2'; replace d3' := x121.cellF d3'; replace f0' := x121.cellF f0'; replace f1' := x121.cellF f1'; replace f2' := x121.cellF f2'; replace f3' := x121.cellF f3'; replace ⟨y0, y1, y2, y3⟩ := F4 x121 y0 y1 y2 y3; replace hO := hid (hO.out.keepF x121))
      | (go_at_call 108; refine (id_t kt htl' Hid.out B _ hO.out.tab).mono ?_; rintro e w108 ⟨rfl, x108⟩; replace xx := xx.of_eq x108; replace d0' := x108.cellF d0'; replace d1' := x108.cellF d1'; replace d2' := x108.cellF d2'; replace d3' := x108.cellF d3'; replace f0' := x108.cellF f0'; replace f1' := x108.cellF f1'; replace f2' := x108.cellF f2'; replace f3' := x108.cellF f3'; replace ⟨y0, y1, y2, y3⟩ := F4 x108 y0 y1 y2 y3; replace hO := hid (hO.out.keepF x108)))
     go_roundw
     case rel => exact ⟨j + 1, by omega, by go_num, (Ext.of_eq (X := fun _ => False) x2 (xb.of_eq xo)).of_eq (((x172.of_eq x121).of_eq x108))⟩
     case measure => simp [intOf]; omega
    ·have Hot := hid hot
     have hq1 : (ot == kt) = false := by simpa using hne2
     clear hot hne2
     obtain ⟨g, off, s, rfl, hgB, e0, e1, e2, e3, hy⟩ := K.out j hlt
     rw [hy0] at e0 e1 e2 hy
     simp only [Tr.k, Tr.t, Tr.n] at e0 e1 e2
     obtain ⟨sl', hs', hks', hkr', hnr', htl'⟩ := id hy.open
     obtain rfl : s = sl' := by simpa [nv, Tr.k, Tr.t, Tr.n] using hs'
     simp only [Tr.k, Tr.t, Tr.n, Tr.l] at hks' htl'
     obtain ⟨p', c', rfl, _, hkid'⟩ := hks'.kid
     have K' := hid hkid'
     clear hs' hks' hkr' hnr' hy0 hkid'
     replace ⟨e0, e1, e2, e3⟩ := F4 xx e0 e1 e2 e3
     simp only [lC, lN, zA] at *
     have xb : Fx wr (wr.alloc (.cells #[.int .i64 65, .string (sv kt), .int .i64 0, .slice p' 1 c'] 24)) := Ext.alloc _ _ _
     obtain ⟨d0, d1, d2, d3⟩ := nd_cells wr 65 0 (sv kt) (.slice p' 1 c')
     have hd' := hid ((NT.mk hy HT.out).keepF (xx.of_eq xb))
     simp only [nv, Tr.k, Tr.t, Tr.n, Tr.l] at hd'
     have f0 := xb.cellF c0
     have f1 := xb.cellF c1
     have f2 := xb.cellF c2
     have f3 := xb.cellF c3
     replace xx := xx.of_eq xb
     clear hy
     obtain ⟨g', o', s'', rfl, hgB', z0, z1, z2, z3, hz⟩ := K'.out 0 (by simp)
     obtain ⟨sl'', hs'', hks'', _, _, hto⟩ := id hz.open
     obtain rfl : s'' = sl'' := by simpa [nv, Tr.k, Tr.t, Tr.n] using hs''
     simp only [gZ, Tr.k, Tr.t, Tr.n, Tr.l] at hks'' hto z0 z1 z2 z3
     obtain ⟨p'', c'', rfl, _⟩ := hks''.kid
     clear hs'' hks'' K'
     simp only [zM, aZ, lN, gZ] at z0 z1 z2 z3 hz
     replace z0 := xb.cellF ((xw.of_eq x2).cellF z0)
     replace z1 := xb.cellF ((xw.of_eq x2).cellF z1)
     replace z2 := xb.cellF ((xw.of_eq x2).cellF z2)
     replace z3 := xb.cellF ((xw.of_eq x2).cellF z3)
     have hzz : (wr.alloc (.cells #[.int .i64 65, .string (sv kt), .int .i64 0, .slice (some ⟨g', o', none⟩) 1 c'] 24)).heap.size = wr.heap.size + 1 := alloc_size _ _
     have xo : Fx (wr.alloc (.cells #[.int .i64 65, .string (sv kt), .int .i64 0, .slice (some ⟨g', o', none⟩) 1 c'] 24)) ((wr.alloc (.cells #[.int .i64 65, .string (sv kt), .int .i64 0, .slice (some ⟨g', o', none⟩) 1 c'] 24)).alloc (.cells #[.int .i64 6, .string (sv ot), .int .i64 0, .slice p'' 0 c''] 24)) := Ext.alloc _ _ _
     obtain ⟨y0, y1, y2, y3⟩ := nd_cells (wr.alloc (.cells #[.int .i64 65, .string (sv kt), .int .i64 0, .slice (some ⟨g', o', none⟩) 1 c'] 24)) 6 0 (sv ot) (.slice p'' 0 c'')
     rw [hzz] at y0 y1 y2 y3
     have hO := hid (((NT.mk hz HT.out).keepF (xw.of_eq x2)).keepF (xb.of_eq xo))
     simp only [nv, Tr.k, Tr.t, Tr.n, Tr.l, lN] at hO
     have d0' := xo.cellF d0
     have d1' := xo.cellF d1
     have d2' := xo.cellF d2
     have d3' := xo.cellF d3
     have f0' := xo.cellF f0
     have f1' := xo.cellF f1
     have f2' := xo.cellF f2
     have f3' := xo.cellF f3
     replace xx := xx.of_eq xo
     clear hz hzz
     go_wp2_with (first
      | (go_at_call_of 120 (sv ot); refine (prop_t ot hto Hot.out B _ hO.out.tab).mono ?_; rintro e w120 ⟨rfl, x120⟩; replace xx := xx.of_eq x120; replace d0' := x120.cellF d0'; replace d1' := x120.cellF d1'; replace d2' := x120.cellF d2'; replace d3' := x120.cellF d3'; replace f0' := x120.cellF f0'; replace f1' := x120.cellF f1'; replace f2' := x120.cellF f2'; replace f3' := x120.cellF f3'; replace ⟨y0, y1, y2, y3⟩ := F4 x120 y0 y1 y2 y3; replace hO := hid (hO.out.keepF x120))
      | (go_at_call_of 120 (sv kt); refine (prop_t kt htl' Hs.out B _ hO.out.tab).mono ?_; rintro e w121 ⟨rfl, x121⟩; replace xx := xx.of_eq x121; replace d0' := x121.cellF d0'; replace d1' := x121.cellF d1'; replace d2' := x121.cellF d2'; replace d3' := x121.cellF d3'; replace f0' := x121.cellF f0'; replace f1' := x121.cellF f1'; replace f2' := x121.cellF f2'; replace f3' := x121.cellF f3'; replace ⟨y0, y1, y2, y3⟩ := F4 x121 y0 y1 y2 y3; replace hO := hid (hO.out.keepF x121))
      | (go_at_call 108; refine (id_t kt htl' Hid.out B _ hO.out.tab).mono ?_; rintro e w108 ⟨rfl, x108⟩; replace xx := xx.of_eq x108; replace d0' := x108.cellF d0'; replace d1' := x108.cellF d1'; replace d2' := x108.cellF d2'; replace d3' := x108.cellF d3'; replace f0' := x108.cellF f0'; replace f1' := x108.cellF f1'; replace f2' := x108.cellF f2'; replace f3' := x108.cellF f3'; replace ⟨y0, y1, y2, y3⟩ := F4 x108 y0 y1 y2 y3; replace hO := hid (hO.out.keepF x108)))
     go_roundw
     case rel => exact ⟨j + 1, by omega, by go_num, (Ext.of_eq (X := fun _ => False) x2 (xb.of_eq xo)).of_eq (((x120.of_eq x121).of_eq x108))⟩
     case measure => simp [intOf]; omega
  ·go_wp2
   go_ret
   exact .mk rfl xx

theorem from_e1 (l : List Tr) (hv : valid [] = true) (hne : 0 < l.length) (hi : ∀ i (h : i < l.length), FromKid [] 1 l l[i]) (B : Nat) (v : Value) (w : World) (h : NT B w v (.mk 64 [] 1 l)) : Calls Tryz.prog 113 #[v] w (Ans true w) := by
 have Hi := hid hi
 have Hv := hid hv
 have hle : ((l.length : Int) == 0) = false := beq_eq_false_iff_ne.2 (by omega)

 clear hi hv
 have hsv := sv_list
 obtain ⟨p, c, rfl, hks, hkr, hnr, htl, hcp, hkid, xw, C, _, _, hT⟩ := hT_ h
 obtain ⟨c0, c1, c2, c3⟩ := C.out
 have K := hid hkid
 have hll := hid hcp.2
 have HT := hid h.tab
 clear h hks hkid hcp hkr hnr
 simp only [nv, Tr.k, Tr.t, Tr.n, Tr.l]
 go_enter Tryz.func113, Tryz.ntmps113
 go_wp2_with (go_at_call 171; refine (valid_t' [] htl Hv.out B _ hT.out).mono ?_; rintro e w171 ⟨rfl, x171⟩; replace ⟨c0, c1, c2, c3⟩ := F4 x171 c0 c1 c2 c3)
 clear c0 c1 c2 c3
 go_loopw [35] (fun i wr => ∃ j : Nat, j ≤ l.length ∧ i = .int .i64 j ∧ Fx (w.alloc (.cells #[.int .i64 64, .string (sv []), .int .i64 1, .slice p l.length c] 24)) wr) (fun i _ => l.length - (intOf i).toNat)
 case atStart => exact ⟨0, Nat.zero_le _, rfl, x171⟩
 case round =>
  obtain ⟨j, hj, rfl, x2⟩ := hrel
  have c0 := x2.cellF C.out.1
  have c1 := x2.cellF C.out.2.1
  have c2 := x2.cellF C.out.2.2.1
  have c3 := x2.cellF C.out.2.2.2
  have xx := xw.of_eq x2
  have hj4 : (j : Int) ≤ 4398046511104 := by have := hll.out; omega
  by_cases hlt : j < l.length
  ·obtain ⟨kt, o, hy0, ho, hcase⟩ := Hi.out j hlt
   rcases hcase with ⟨hkt, hts, hns, hl1⟩ | ⟨hkt, hs, hid'⟩
   ·exact absurd rfl hts
   ·have hk2 : (kt == [42]) = false := by simpa using hkt
    have Hs := hid hs
    have Hid := hid (hid'.resolve_left (fun h => h rfl))
    clear hs hkt hid'
    rcases ho with rfl | ⟨ot, rfl, hot, hne2⟩
    ·skip
     obtain ⟨g, off, s, rfl, hgB, e0, e1, e2, e3, hy⟩ := K.out j hlt
     rw [hy0] at e0 e1 e2 hy
     simp only [Tr.k, Tr.t, Tr.n] at e0 e1 e2
     obtain ⟨sl', hs', hks', hkr', hnr', htl'⟩ := id hy.open
     obtain rfl : s = sl' := by simpa [nv, Tr.k, Tr.t, Tr.n] using hs'
     simp only [Tr.k, Tr.t, Tr.n, Tr.l] at hks' htl'
     obtain ⟨p', c', rfl, _, hkid'⟩ := hks'.kid
     have K' := hid hkid'
     clear hs' hks' hkr' hnr' hy0 hkid'
     replace ⟨e0, e1, e2, e3⟩ := F4 xx e0 e1 e2 e3
     simp only [lC, lN, zA] at *
     have xb : Fx wr (wr.alloc (.cells #[.int .i64 65, .string (sv kt), .int .i64 0, .slice p' 1 c'] 24)) := Ext.alloc _ _ _
     obtain ⟨d0, d1, d2, d3⟩ := nd_cells wr 65 0 (sv kt) (.slice p' 1 c')
     have hd' := hid ((NT.mk hy HT.out).keepF (xx.of_eq xb))
     simp only [nv, Tr.k, Tr.t, Tr.n, Tr.l] at hd'
     have f0 := xb.cellF c0
     have f1 := xb.cellF c1
     have f2 := xb.cellF c2
     have f3 := xb.cellF c3
     replace xx := xx.of_eq xb
     clear hy
     obtain ⟨g', o', s'', rfl, hgB', z0, z1, z2, z3, hz⟩ := K'.out 0 (by simp)
     obtain ⟨sl'', hs'', hks'', _, _, hto⟩ := id hz.open
     obtain rfl : s'' = sl'' := by simpa [nv, Tr.k, Tr.t, Tr.n] using hs''
     simp only [gZ, Tr.k, Tr.t, Tr.n, Tr.l] at hks'' hto z0 z1 z2 z3
     obtain ⟨p'', c'', rfl, _⟩ := hks''.kid
     clear hs'' hks'' K'
     simp only [zM, aZ, lN, gZ] at z0 z1 z2 z3 hz
     replace z0 := xb.cellF ((xw.of_eq x2).cellF z0)
     replace z1 := xb.cellF ((xw.of_eq x2).cellF z1)
     replace z2 := xb.cellF ((xw.of_eq x2).cellF z2)
     replace z3 := xb.cellF ((xw.of_eq x2).cellF z3)
     have hzz : (wr.alloc (.cells #[.int .i64 65, .string (sv kt), .int .i64 0, .slice (some ⟨g', o', none⟩) 1 c'] 24)).heap.size = wr.heap.size + 1 := alloc_size _ _
     have xo : Fx (wr.alloc (.cells #[.int .i64 65, .string (sv kt), .int .i64 0, .slice (some ⟨g', o', none⟩) 1 c'] 24)) ((wr.alloc (.cells #[.int .i64 65, .string (sv kt), .int .i64 0, .slice (some ⟨g', o', none⟩) 1 c'] 24)).alloc (.cells #[.int .i64 14, .string (sv []), .int .i64 0, .slice p'' 0 c''] 24)) := Ext.alloc _ _ _
     obtain ⟨y0, y1, y2, y3⟩ := nd_cells (wr.alloc (.cells #[.int .i64 65, .string (sv kt), .int .i64 0, .slice (some ⟨g', o', none⟩) 1 c'] 24)) 14 0 (sv []) (.slice p'' 0 c'')
     rw [hzz] at y0 y1 y2 y3
     have hO := hid (((NT.mk hz HT.out).keepF (xw.of_eq x2)).keepF (xb.of_eq xo))
     simp only [nv, Tr.k, Tr.t, Tr.n, Tr.l, lN] at hO
     have d0' := xo.cellF d0
     have d1' := xo.cellF d1
     have d2' := xo.cellF d2
     have d3' := xo.cellF d3
     have f0' := xo.cellF f0
     have f1' := xo.cellF f1
     have f2' := xo.cellF f2
     have f3' := xo.cellF f3
     replace xx := xx.of_eq xo
     clear hz hzz
     go_wp2_with (first
      | (go_at_call 172; refine (tnone_any B (.mk 14 [] 0 []) _ _ hO.out.node).mono ?_; rintro e w172 ⟨he172, x172⟩; rw [show isNone (.mk 14 [] 0 []) = true from rfl] at he172; subst he172; replace xx := xx.of_eq x172; replace d0' := x172.cellF d0'; replace d1' := x172.cellF d1'; replace d2' := x172.cellF d2'; replace d3' := x172.cellF d3'; replace f0' := x172.cellF f0'; replace f1' := x172.cellF f1'; replace f2' := x172.cellF f2'; replace f3' := x172.cellF f3'; replace ⟨y0, y1, y2, y3⟩ := F4 x172 y0 y1 y2 y3; replace hO := hid (hO.out.keepF x172))
      | (go_at_call_of 120 (sv kt); refine (prop_t kt htl' Hs.out B _ hO.out.tab).mono ?_; rintro e w121 ⟨rfl, x121⟩; replace xx := xx.of_eq x121; replace d0' := x121.cellF d0'; replace d1' := x121.cellF d1'; replace d2' := x121.cellF d2'; replace d3' := x121.cellF d3'; replace f0' := x121.cellF f0'; replace f1' := x121.cellF f1'; replace f2' := x121.cellF f2'; replace f3' := x121.cellF f3'; replace ⟨y0, y1, y2, y3⟩ := F4 x121 y0 y1 y2 y3; replace hO := hid (hO.out.keepF x121))
      | (go_at_call 108; refine (id_t kt htl' Hid.out B _ hO.out.tab).mono ?_; rintro e w108 ⟨rfl, x108⟩; replace xx := xx.of_eq x108; replace d0' := x108.cellF d0'; replace d1' := x108.cellF d1'; replace d2' := x108.cellF d2'; replace d3' := x108.cellF d3'; replace f0' := x108.cellF f0'; replace f1' := x108.cellF f1'; replace f2' := x108.cellF f2'; replace f3' := x108.cellF f3'; replace ⟨y0, y1, y2, y3⟩ := F4 x108 y0 y1 y2 y3; replace hO := hid (hO.out.keepF x108)))
     go_roundw
     case rel => exact ⟨j + 1, by omega, by go_num, (Ext.of_eq (X := fun _ => False) x2 (xb.of_eq xo)).of_eq (((x172.of_eq x121).of_eq x108))⟩
     case measure => simp [intOf]; omega
    ·have Hot := hid hot
     have hq1 : (ot == kt) = false := by simpa using hne2
     clear hot hne2
     obtain ⟨g, off, s, rfl, hgB, e0, e1, e2, e3, hy⟩ := K.out j hlt
     rw [hy0] at e0 e1 e2 hy
     simp only [Tr.k, Tr.t, Tr.n] at e0 e1 e2
     obtain ⟨sl', hs', hks', hkr', hnr', htl'⟩ := id hy.open
     obtain rfl : s = sl' := by simpa [nv, Tr.k, Tr.t, Tr.n] using hs'
     simp only [Tr.k, Tr.t, Tr.n, Tr.l] at hks' htl'
     obtain ⟨p', c', rfl, _, hkid'⟩ := hks'.kid
     have K' := hid hkid'
     clear hs' hks' hkr' hnr' hy0 hkid'
     replace ⟨e0, e1, e2, e3⟩ := F4 xx e0 e1 e2 e3
     simp only [lC, lN, zA] at *
     have xb : Fx wr (wr.alloc (.cells #[.int .i64 65, .string (sv kt), .int .i64 0, .slice p' 1 c'] 24)) := Ext.alloc _ _ _
     obtain ⟨d0, d1, d2, d3⟩ := nd_cells wr 65 0 (sv kt) (.slice p' 1 c')
     have hd' := hid ((NT.mk hy HT.out).keepF (xx.of_eq xb))
     simp only [nv, Tr.k, Tr.t, Tr.n, Tr.l] at hd'
     have f0 := xb.cellF c0
     have f1 := xb.cellF c1
     have f2 := xb.cellF c2
     have f3 := xb.cellF c3
     replace xx := xx.of_eq xb
     clear hy
     obtain ⟨g', o', s'', rfl, hgB', z0, z1, z2, z3, hz⟩ := K'.out 0 (by simp)
     obtain ⟨sl'', hs'', hks'', _, _, hto⟩ := id hz.open
     obtain rfl : s'' = sl'' := by simpa [nv, Tr.k, Tr.t, Tr.n] using hs''
     simp only [gZ, Tr.k, Tr.t, Tr.n, Tr.l] at hks'' hto z0 z1 z2 z3
     obtain ⟨p'', c'', rfl, _⟩ := hks''.kid
     clear hs'' hks'' K'
     simp only [zM, aZ, lN, gZ] at z0 z1 z2 z3 hz
     replace z0 := xb.cellF ((xw.of_eq x2).cellF z0)
     replace z1 := xb.cellF ((xw.of_eq x2).cellF z1)
     replace z2 := xb.cellF ((xw.of_eq x2).cellF z2)
     replace z3 := xb.cellF ((xw.of_eq x2).cellF z3)
     have hzz : (wr.alloc (.cells #[.int .i64 65, .string (sv kt), .int .i64 0, .slice (some ⟨g', o', none⟩) 1 c'] 24)).heap.size = wr.heap.size + 1 := alloc_size _ _
     have xo : Fx (wr.alloc (.cells #[.int .i64 65, .string (sv kt), .int .i64 0, .slice (some ⟨g', o', none⟩) 1 c'] 24)) ((wr.alloc (.cells #[.int .i64 65, .string (sv kt), .int .i64 0, .slice (some ⟨g', o', none⟩) 1 c'] 24)).alloc (.cells #[.int .i64 6, .string (sv ot), .int .i64 0, .slice p'' 0 c''] 24)) := Ext.alloc _ _ _
     obtain ⟨y0, y1, y2, y3⟩ := nd_cells (wr.alloc (.cells #[.int .i64 65, .string (sv kt), .int .i64 0, .slice (some ⟨g', o', none⟩) 1 c'] 24)) 6 0 (sv ot) (.slice p'' 0 c'')
     rw [hzz] at y0 y1 y2 y3
     have hO := hid (((NT.mk hz HT.out).keepF (xw.of_eq x2)).keepF (xb.of_eq xo))
     simp only [nv, Tr.k, Tr.t, Tr.n, Tr.l, lN] at hO
     have d0' := xo.cellF d0
     have d1' := xo.cellF d1
     have d2' := xo.cellF d2
     have d3' := xo.cellF d3
     have f0' := xo.cellF f0
     have f1' := xo.cellF f1
     have f2' := xo.cellF f2
     have f3' := xo.cellF f3
     replace xx := xx.of_eq xo
     clear hz hzz
     go_wp2_with (first
      | (go_at_call_of 120 (sv ot); refine (prop_t ot hto Hot.out B _ hO.out.tab).mono ?_; rintro e w120 ⟨rfl, x120⟩; replace xx := xx.of_eq x120; replace d0' := x120.cellF d0'; replace d1' := x120.cellF d1'; replace d2' := x120.cellF d2'; replace d3' := x120.cellF d3'; replace f0' := x120.cellF f0'; replace f1' := x120.cellF f1'; replace f2' := x120.cellF f2'; replace f3' := x120.cellF f3'; replace ⟨y0, y1, y2, y3⟩ := F4 x120 y0 y1 y2 y3; replace hO := hid (hO.out.keepF x120))
      | (go_at_call_of 120 (sv kt); refine (prop_t kt htl' Hs.out B _ hO.out.tab).mono ?_; rintro e w121 ⟨rfl, x121⟩; replace xx := xx.of_eq x121; replace d0' := x121.cellF d0'; replace d1' := x121.cellF d1'; replace d2' := x121.cellF d2'; replace d3' := x121.cellF d3'; replace f0' := x121.cellF f0'; replace f1' := x121.cellF f1'; replace f2' := x121.cellF f2'; replace f3' := x121.cellF f3'; replace ⟨y0, y1, y2, y3⟩ := F4 x121 y0 y1 y2 y3; replace hO := hid (hO.out.keepF x121))
      | (go_at_call 108; refine (id_t kt htl' Hid.out B _ hO.out.tab).mono ?_; rintro e w108 ⟨rfl, x108⟩; replace xx := xx.of_eq x108; replace d0' := x108.cellF d0'; replace d1' := x108.cellF d1'; replace d2' := x108.cellF d2'; replace d3' := x108.cellF d3'; replace f0' := x108.cellF f0'; replace f1' := x108.cellF f1'; replace f2' := x108.cellF f2'; replace f3' := x108.cellF f3'; replace ⟨y0, y1, y2, y3⟩ := F4 x108 y0 y1 y2 y3; replace hO := hid (hO.out.keepF x108)))
     go_roundw
     case rel => exact ⟨j + 1, by omega, by go_num, (Ext.of_eq (X := fun _ => False) x2 (xb.of_eq xo)).of_eq (((x120.of_eq x121).of_eq x108))⟩
     case measure => simp [intOf]; omega
  ·go_wp2
   go_ret
   exact .mk rfl xx

theorem from_t0 (t : Bs) (ht : ¬ t = []) (l : List Tr) (hv : valid t = true) (hne : 0 < l.length) (hi : ∀ i (h : i < l.length), FromKid t 0 l l[i]) (B : Nat) (v : Value) (w : World) (h : NT B w v (.mk 64 t 0 l)) : Calls Tryz.prog 113 #[v] w (Ans true w) := by
 have Hi := hid hi
 have Hv := hid hv
 have hle : ((l.length : Int) == 0) = false := beq_eq_false_iff_ne.2 (by omega)
 have ht2 : (t == []) = false := by simpa using ht
 clear hi hv
 have hsv := sv_list
 obtain ⟨p, c, rfl, hks, hkr, hnr, htl, hcp, hkid, xw, C, _, _, hT⟩ := hT_ h
 obtain ⟨c0, c1, c2, c3⟩ := C.out
 have K := hid hkid
 have hll := hid hcp.2
 have HT := hid h.tab
 clear h hks hkid hcp hkr hnr
 simp only [nv, Tr.k, Tr.t, Tr.n, Tr.l]
 go_enter Tryz.func113, Tryz.ntmps113
 go_wp2_with (go_at_call 171; refine (valid_t' t htl Hv.out B _ hT.out).mono ?_; rintro e w171 ⟨rfl, x171⟩; replace ⟨c0, c1, c2, c3⟩ := F4 x171 c0 c1 c2 c3)
 clear c0 c1 c2 c3
 go_loopw [35] (fun i wr => ∃ j : Nat, j ≤ l.length ∧ i = .int .i64 j ∧ Fx (w.alloc (.cells #[.int .i64 64, .string (sv t), .int .i64 0, .slice p l.length c] 24)) wr) (fun i _ => l.length - (intOf i).toNat)
 case atStart => exact ⟨0, Nat.zero_le _, rfl, x171⟩
 case round =>
  obtain ⟨j, hj, rfl, x2⟩ := hrel
  have c0 := x2.cellF C.out.1
  have c1 := x2.cellF C.out.2.1
  have c2 := x2.cellF C.out.2.2.1
  have c3 := x2.cellF C.out.2.2.2
  have xx := xw.of_eq x2
  have hj4 : (j : Int) ≤ 4398046511104 := by have := hll.out; omega
  by_cases hlt : j < l.length
  ·obtain ⟨kt, o, hy0, ho, hcase⟩ := Hi.out j hlt
   rcases hcase with ⟨hkt, hts, hns, hl1⟩ | ⟨hkt, hs, hid'⟩
   ·subst hkt
    have hlm : ¬ (1 : Int) < (l.length : Int) := by omega
    clear hns hl1 hts
    rcases ho with rfl | ⟨ot, rfl, hot, hne2⟩
    ·skip
     obtain ⟨g, off, s, rfl, hgB, e0, e1, e2, e3, hy⟩ := K.out j hlt
     rw [hy0] at e0 e1 e2 hy
     simp only [Tr.k, Tr.t, Tr.n] at e0 e1 e2
     obtain ⟨sl', hs', hks', hkr', hnr', htl'⟩ := id hy.open
     obtain rfl : s = sl' := by simpa [nv, Tr.k, Tr.t, Tr.n] using hs'
     simp only [Tr.k, Tr.t, Tr.n, Tr.l] at hks' htl'
     obtain ⟨p', c', rfl, _, hkid'⟩ := hks'.kid
     have K' := hid hkid'
     clear hs' hks' hkr' hnr' hy0 hkid'
     replace ⟨e0, e1, e2, e3⟩ := F4 xx e0 e1 e2 e3
     simp only [lC, lN, zA] at *
     have xb : Fx wr (wr.alloc (.cells #[.int .i64 65, .string (sv [42]), .int .i64 0, .slice p' 1 c'] 24)) := Ext.alloc _ _ _
     obtain ⟨d0, d1, d2, d3⟩ := nd_cells wr 65 0 (sv [42]) (.slice p' 1 c')
     have hd' := hid ((NT.mk hy HT.out).keepF (xx.of_eq xb))
     simp only [nv, Tr.k, Tr.t, Tr.n, Tr.l] at hd'
     have f0 := xb.cellF c0
     have f1 := xb.cellF c1
     have f2 := xb.cellF c2
     have f3 := xb.cellF c3
     replace xx := xx.of_eq xb
     clear hy
     obtain ⟨g', o', s'', rfl, hgB', z0, z1, z2, z3, hz⟩ := K'.out 0 (by simp)
     obtain ⟨sl'', hs'', hks'', _, _, hto⟩ := id hz.open
     obtain rfl : s'' = sl'' := by simpa [nv, Tr.k, Tr.t, Tr.n] using hs''
     simp only [gZ, Tr.k, Tr.t, Tr.n, Tr.l] at hks'' hto z0 z1 z2 z3
     obtain ⟨p'', c'', rfl, _⟩ := hks''.kid
     clear hs'' hks'' K'
     simp only [zM, aZ, lN, gZ] at z0 z1 z2 z3 hz
     replace z0 := xb.cellF ((xw.of_eq x2).cellF z0)
     replace z1 := xb.cellF ((xw.of_eq x2).cellF z1)
     replace z2 := xb.cellF ((xw.of_eq x2).cellF z2)
     replace z3 := xb.cellF ((xw.of_eq x2).cellF z3)
     have hzz : (wr.alloc (.cells #[.int .i64 65, .string (sv [42]), .int .i64 0, .slice (some ⟨g', o', none⟩) 1 c'] 24)).heap.size = wr.heap.size + 1 := alloc_size _ _
     have xo : Fx (wr.alloc (.cells #[.int .i64 65, .string (sv [42]), .int .i64 0, .slice (some ⟨g', o', none⟩) 1 c'] 24)) ((wr.alloc (.cells #[.int .i64 65, .string (sv [42]), .int .i64 0, .slice (some ⟨g', o', none⟩) 1 c'] 24)).alloc (.cells #[.int .i64 14, .string (sv []), .int .i64 0, .slice p'' 0 c''] 24)) := Ext.alloc _ _ _
     obtain ⟨y0, y1, y2, y3⟩ := nd_cells (wr.alloc (.cells #[.int .i64 65, .string (sv [42]), .int .i64 0, .slice (some ⟨g', o', none⟩) 1 c'] 24)) 14 0 (sv []) (.slice p'' 0 c'')
     rw [hzz] at y0 y1 y2 y3
     have hO := hid (((NT.mk hz HT.out).keepF (xw.of_eq x2)).keepF (xb.of_eq xo))
     simp only [nv, Tr.k, Tr.t, Tr.n, Tr.l, lN] at hO
     have d0' := xo.cellF d0
     have d1' := xo.cellF d1
     have d2' := xo.cellF d2
     have d3' := xo.cellF d3
     have f0' := xo.cellF f0
     have f1' := xo.cellF f1
     have f2' := xo.cellF f2
     have f3' := xo.cellF f3
     replace xx := xx.of_eq xo
     clear hz hzz
     go_wp2_with (go_at_call 172; refine (tnone_any B (.mk 14 [] 0 []) _ _ hO.out.node).mono ?_; rintro e w172 ⟨he172, x172⟩; rw [show isNone (.mk 14 [] 0 []) = true from rfl] at he172; subst he172; replace xx := xx.of_eq x172; replace d0' := x172.cellF d0'; replace d1' := x172.cellF d1'; replace d2' := x172.cellF d2'; replace d3' := x172.cellF d3'; replace f0' := x172.cellF f0'; replace f1' := x172.cellF f1'; replace f2' := x172.cellF f2'; replace f3' := x172.cellF f3'; replace ⟨y0, y1, y2, y3⟩ := F4 x172 y0 y1 y2 y3; replace hO := hid (hO.out.keepF x172))
     go_roundw
     case rel => exact ⟨j + 1, by omega, by go_num, (Ext.of_eq (X := fun _ => False) x2 (xb.of_eq xo)).of_eq (x172)⟩
     case measure => simp [intOf]; omega
    ·have Hot := hid hot
     have hq1 : (ot == [42]) = false := by simpa using hne2
     clear hot hne2
     obtain ⟨g, off, s, rfl, hgB, e0, e1, e2, e3, hy⟩ := K.out j hlt
     rw [hy0] at e0 e1 e2 hy
     simp only [Tr.k, Tr.t, Tr.n] at e0 e1 e2
     obtain ⟨sl', hs', hks', hkr', hnr', htl'⟩ := id hy.open
     obtain rfl : s = sl' := by simpa [nv, Tr.k, Tr.t, Tr.n] using hs'
     simp only [Tr.k, Tr.t, Tr.n, Tr.l] at hks' htl'
     obtain ⟨p', c', rfl, _, hkid'⟩ := hks'.kid
     have K' := hid hkid'
     clear hs' hks' hkr' hnr' hy0 hkid'
     replace ⟨e0, e1, e2, e3⟩ := F4 xx e0 e1 e2 e3
     simp only [lC, lN, zA] at *
     have xb : Fx wr (wr.alloc (.cells #[.int .i64 65, .string (sv [42]), .int .i64 0, .slice p' 1 c'] 24)) := Ext.alloc _ _ _
     obtain ⟨d0, d1, d2, d3⟩ := nd_cells wr 65 0 (sv [42]) (.slice p' 1 c')
     have hd' := hid ((NT.mk hy HT.out).keepF (xx.of_eq xb))
     simp only [nv, Tr.k, Tr.t, Tr.n, Tr.l] at hd'
     have f0 := xb.cellF c0
     have f1 := xb.cellF c1
     have f2 := xb.cellF c2
     have f3 := xb.cellF c3
     replace xx := xx.of_eq xb
     clear hy
     obtain ⟨g', o', s'', rfl, hgB', z0, z1, z2, z3, hz⟩ := K'.out 0 (by simp)
     obtain ⟨sl'', hs'', hks'', _, _, hto⟩ := id hz.open
     obtain rfl : s'' = sl'' := by simpa [nv, Tr.k, Tr.t, Tr.n] using hs''
     simp only [gZ, Tr.k, Tr.t, Tr.n, Tr.l] at hks'' hto z0 z1 z2 z3
     obtain ⟨p'', c'', rfl, _⟩ := hks''.kid
     clear hs'' hks'' K'
     simp only [zM, aZ, lN, gZ] at z0 z1 z2 z3 hz
     replace z0 := xb.cellF ((xw.of_eq x2).cellF z0)
     replace z1 := xb.cellF ((xw.of_eq x2).cellF z1)
     replace z2 := xb.cellF ((xw.of_eq x2).cellF z2)
     replace z3 := xb.cellF ((xw.of_eq x2).cellF z3)
     have hzz : (wr.alloc (.cells #[.int .i64 65, .string (sv [42]), .int .i64 0, .slice (some ⟨g', o', none⟩) 1 c'] 24)).heap.size = wr.heap.size + 1 := alloc_size _ _
     have xo : Fx (wr.alloc (.cells #[.int .i64 65, .string (sv [42]), .int .i64 0, .slice (some ⟨g', o', none⟩) 1 c'] 24)) ((wr.alloc (.cells #[.int .i64 65, .string (sv [42]), .int .i64 0, .slice (some ⟨g', o', none⟩) 1 c'] 24)).alloc (.cells #[.int .i64 6, .string (sv ot), .int .i64 0, .slice p'' 0 c''] 24)) := Ext.alloc _ _ _
     obtain ⟨y0, y1, y2, y3⟩ := nd_cells (wr.alloc (.cells #[.int .i64 65, .string (sv [42]), .int .i64 0, .slice (some ⟨g', o', none⟩) 1 c'] 24)) 6 0 (sv ot) (.slice p'' 0 c'')
     rw [hzz] at y0 y1 y2 y3
     have hO := hid (((NT.mk hz HT.out).keepF (xw.of_eq x2)).keepF (xb.of_eq xo))
     simp only [nv, Tr.k, Tr.t, Tr.n, Tr.l, lN] at hO
     have d0' := xo.cellF d0
     have d1' := xo.cellF d1
     have d2' := xo.cellF d2
     have d3' := xo.cellF d3
     have f0' := xo.cellF f0
     have f1' := xo.cellF f1
     have f2' := xo.cellF f2
     have f3' := xo.cellF f3
     replace xx := xx.of_eq xo
     clear hz hzz
     go_wp2_with (go_at_call_of 120 (sv ot); refine (prop_t ot hto Hot.out B _ hO.out.tab).mono ?_; rintro e w120 ⟨rfl, x120⟩; replace xx := xx.of_eq x120; replace d0' := x120.cellF d0'; replace d1' := x120.cellF d1'; replace d2' := x120.cellF d2'; replace d3' := x120.cellF d3'; replace f0' := x120.cellF f0'; replace f1' := x120.cellF f1'; replace f2' := x120.cellF f2'; replace f3' := x120.cellF f3'; replace ⟨y0, y1, y2, y3⟩ := F4 x120 y0 y1 y2 y3; replace hO := hid (hO.out.keepF x120))
     go_roundw
     case rel => exact ⟨j + 1, by omega, by go_num, (Ext.of_eq (X := fun _ => False) x2 (xb.of_eq xo)).of_eq (x120)⟩
     case measure => simp [intOf]; omega
   ·have hk2 : (kt == [42]) = false := by simpa using hkt
    have Hs := hid hs
    clear hs hkt hid'
    rcases ho with rfl | ⟨ot, rfl, hot, hne2⟩
    ·skip
     obtain ⟨g, off, s, rfl, hgB, e0, e1, e2, e3, hy⟩ := K.out j hlt
     rw [hy0] at e0 e1 e2 hy
     simp only [Tr.k, Tr.t, Tr.n] at e0 e1 e2
     obtain ⟨sl', hs', hks', hkr', hnr', htl'⟩ := id hy.open
     obtain rfl : s = sl' := by simpa [nv, Tr.k, Tr.t, Tr.n] using hs'
     simp only [Tr.k, Tr.t, Tr.n, Tr.l] at hks' htl'
     obtain ⟨p', c', rfl, _, hkid'⟩ := hks'.kid
     have K' := hid hkid'
     clear hs' hks' hkr' hnr' hy0 hkid'
     replace ⟨e0, e1, e2, e3⟩ := F4 xx e0 e1 e2 e3
     simp only [lC, lN, zA] at *
     have xb : Fx wr (wr.alloc (.cells #[.int .i64 65, .string (sv kt), .int .i64 0, .slice p' 1 c'] 24)) := Ext.alloc _ _ _
     obtain ⟨d0, d1, d2, d3⟩ := nd_cells wr 65 0 (sv kt) (.slice p' 1 c')
     have hd' := hid ((NT.mk hy HT.out).keepF (xx.of_eq xb))
     simp only [nv, Tr.k, Tr.t, Tr.n, Tr.l] at hd'
     have f0 := xb.cellF c0
     have f1 := xb.cellF c1
     have f2 := xb.cellF c2
     have f3 := xb.cellF c3
     replace xx := xx.of_eq xb
     clear hy
     obtain ⟨g', o', s'', rfl, hgB', z0, z1, z2, z3, hz⟩ := K'.out 0 (by simp)
     obtain ⟨sl'', hs'', hks'', _, _, hto⟩ := id hz.open
     obtain rfl : s'' = sl'' := by simpa [nv, Tr.k, Tr.t, Tr.n] using hs''
     simp only [gZ, Tr.k, Tr.t, Tr.n, Tr.l] at hks'' hto z0 z1 z2 z3
     obtain ⟨p'', c'', rfl, _⟩ := hks''.kid
     clear hs'' hks'' K'
     simp only [zM, aZ, lN, gZ] at z0 z1 z2 z3 hz
     replace z0 := xb.cellF ((xw.of_eq x2).cellF z0)
     replace z1 := xb.cellF ((xw.of_eq x2).cellF z1)
     replace z2 := xb.cellF ((xw.of_eq x2).cellF z2)
     replace z3 := xb.cellF ((xw.of_eq x2).cellF z3)
     have hzz : (wr.alloc (.cells #[.int .i64 65, .string (sv kt), .int .i64 0, .slice (some ⟨g', o', none⟩) 1 c'] 24)).heap.size = wr.heap.size + 1 := alloc_size _ _
     have xo : Fx (wr.alloc (.cells #[.int .i64 65, .string (sv kt), .int .i64 0, .slice (some ⟨g', o', none⟩) 1 c'] 24)) ((wr.alloc (.cells #[.int .i64 65, .string (sv kt), .int .i64 0, .slice (some ⟨g', o', none⟩) 1 c'] 24)).alloc (.cells #[.int .i64 14, .string (sv []), .int .i64 0, .slice p'' 0 c''] 24)) := Ext.alloc _ _ _
     obtain ⟨y0, y1, y2, y3⟩ := nd_cells (wr.alloc (.cells #[.int .i64 65, .string (sv kt), .int .i64 0, .slice (some ⟨g', o', none⟩) 1 c'] 24)) 14 0 (sv []) (.slice p'' 0 c'')
     rw [hzz] at y0 y1 y2 y3
     have hO := hid (((NT.mk hz HT.out).keepF (xw.of_eq x2)).keepF (xb.of_eq xo))
     simp only [nv, Tr.k, Tr.t, Tr.n, Tr.l, lN] at hO
     have d0' := xo.cellF d0
     have d1' := xo.cellF d1
     have d2' := xo.cellF d2
     have d3' := xo.cellF d3
     have f0' := xo.cellF f0
     have f1' := xo.cellF f1
     have f2' := xo.cellF f2
     have f3' := xo.cellF f3
     replace xx := xx.of_eq xo
     clear hz hzz
     go_wp2_with (first
      | (go_at_call 172; refine (tnone_any B (.mk 14 [] 0 []) _ _ hO.out.node).mono ?_; rintro e w172 ⟨he172, x172⟩; rw [show isNone (.mk 14 [] 0 []) = true from rfl] at he172; subst he172; replace xx := xx.of_eq x172; replace d0' := x172.cellF d0'; replace d1' := x172.cellF d1'; replace d2' := x172.cellF d2'; replace d3' := x172.cellF d3'; replace f0' := x172.cellF f0'; replace f1' := x172.cellF f1'; replace f2' := x172.cellF f2'; replace f3' := x172.cellF f3'; replace ⟨y0, y1, y2, y3⟩ := F4 x172 y0 y1 y2 y3; replace hO := hid (hO.out.keepF x172))
      | (go_at_call_of 120 (sv kt); refine (prop_t kt htl' Hs.out B _ hO.out.tab).mono ?_; rintro e w121 ⟨rfl, x121⟩; replace xx := xx.of_eq x121; replace d0' := x121.cellF d0'; replace d1' := x121.cellF d1'; replace d2' := x121.cellF d2'; replace d3' := x121.cellF d3'; replace f0' := x121.cellF f0'; replace f1' := x121.cellF f1'; replace f2' := x121.cellF f2'; replace f3' := x121.cellF f3'; replace ⟨y0, y1, y2, y3⟩ := F4 x121 y0 y1 y2 y3; replace hO := hid (hO.out.keepF x121)))
     go_roundw
     case rel => exact ⟨j + 1, by omega, by go_num, (Ext.of_eq (X := fun _ => False) x2 (xb.of_eq xo)).of_eq ((x172.of_eq x121))⟩
     case measure => simp [intOf]; omega
    ·have Hot := hid hot
     have hq1 : (ot == kt) = false := by simpa using hne2
     clear hot hne2
     obtain ⟨g, off, s, rfl, hgB, e0, e1, e2, e3, hy⟩ := K.out j hlt
     rw [hy0] at e0 e1 e2 hy
     simp only [Tr.k, Tr.t, Tr.n] at e0 e1 e2
     obtain ⟨sl', hs', hks', hkr', hnr', htl'⟩ := id hy.open
     obtain rfl : s = sl' := by simpa [nv, Tr.k, Tr.t, Tr.n] using hs'
     simp only [Tr.k, Tr.t, Tr.n, Tr.l] at hks' htl'
     obtain ⟨p', c', rfl, _, hkid'⟩ := hks'.kid
     have K' := hid hkid'
     clear hs' hks' hkr' hnr' hy0 hkid'
     replace ⟨e0, e1, e2, e3⟩ := F4 xx e0 e1 e2 e3
     simp only [lC, lN, zA] at *
     have xb : Fx wr (wr.alloc (.cells #[.int .i64 65, .string (sv kt), .int .i64 0, .slice p' 1 c'] 24)) := Ext.alloc _ _ _
     obtain ⟨d0, d1, d2, d3⟩ := nd_cells wr 65 0 (sv kt) (.slice p' 1 c')
     have hd' := hid ((NT.mk hy HT.out).keepF (xx.of_eq xb))
     simp only [nv, Tr.k, Tr.t, Tr.n, Tr.l] at hd'
     have f0 := xb.cellF c0
     have f1 := xb.cellF c1
     have f2 := xb.cellF c2
     have f3 := xb.cellF c3
     replace xx := xx.of_eq xb
     clear hy
     obtain ⟨g', o', s'', rfl, hgB', z0, z1, z2, z3, hz⟩ := K'.out 0 (by simp)
     obtain ⟨sl'', hs'', hks'', _, _, hto⟩ := id hz.open
     obtain rfl : s'' = sl'' := by simpa [nv, Tr.k, Tr.t, Tr.n] using hs''
     simp only [gZ, Tr.k, Tr.t, Tr.n, Tr.l] at hks'' hto z0 z1 z2 z3
     obtain ⟨p'', c'', rfl, _⟩ := hks''.kid
     clear hs'' hks'' K'
     simp only [zM, aZ, lN, gZ] at z0 z1 z2 z3 hz
     replace z0 := xb.cellF ((xw.of_eq x2).cellF z0)
     replace z1 := xb.cellF ((xw.of_eq x2).cellF z1)
     replace z2 := xb.cellF ((xw.of_eq x2).cellF z2)
     replace z3 := xb.cellF ((xw.of_eq x2).cellF z3)
     have hzz : (wr.alloc (.cells #[.int .i64 65, .string (sv kt), .int .i64 0, .slice (some ⟨g', o', none⟩) 1 c'] 24)).heap.size = wr.heap.size + 1 := alloc_size _ _
     have xo : Fx (wr.alloc (.cells #[.int .i64 65, .string (sv kt), .int .i64 0, .slice (some ⟨g', o', none⟩) 1 c'] 24)) ((wr.alloc (.cells #[.int .i64 65, .string (sv kt), .int .i64 0, .slice (some ⟨g', o', none⟩) 1 c'] 24)).alloc (.cells #[.int .i64 6, .string (sv ot), .int .i64 0, .slice p'' 0 c''] 24)) := Ext.alloc _ _ _
     obtain ⟨y0, y1, y2, y3⟩ := nd_cells (wr.alloc (.cells #[.int .i64 65, .string (sv kt), .int .i64 0, .slice (some ⟨g', o', none⟩) 1 c'] 24)) 6 0 (sv ot) (.slice p'' 0 c'')
     rw [hzz] at y0 y1 y2 y3
     have hO := hid (((NT.mk hz HT.out).keepF (xw.of_eq x2)).keepF (xb.of_eq xo))
     simp only [nv, Tr.k, Tr.t, Tr.n, Tr.l, lN] at hO
     have d0' := xo.cellF d0
     have d1' := xo.cellF d1
     have d2' := xo.cellF d2
     have d3' := xo.cellF d3
     have f0' := xo.cellF f0
     have f1' := xo.cellF f1
     have f2' := xo.cellF f2
     have f3' := xo.cellF f3
     replace xx := xx.of_eq xo
     clear hz hzz
     go_wp2_with (first
      | (go_at_call_of 120 (sv ot); refine (prop_t ot hto Hot.out B _ hO.out.tab).mono ?_; rintro e w120 ⟨rfl, x120⟩; replace xx := xx.of_eq x120; replace d0' := x120.cellF d0'; replace d1' := x120.cellF d1'; replace d2' := x120.cellF d2'; replace d3' := x120.cellF d3'; replace f0' := x120.cellF f0'; replace f1' := x120.cellF f1'; replace f2' := x120.cellF f2'; replace f3' := x120.cellF f3'; replace ⟨y0, y1, y2, y3⟩ := F4 x120 y0 y1 y2 y3; replace hO := hid (hO.out.keepF x120))
      | (go_at_call_of 120 (sv kt); refine (prop_t kt htl' Hs.out B _ hO.out.tab).mono ?_; rintro e w121 ⟨rfl, x121⟩; replace xx := xx.of_eq x121; replace d0' := x121.cellF d0'; replace d1' := x121.cellF d1'; replace d2' := x121.cellF d2'; replace d3' := x121.cellF d3'; replace f0' := x121.cellF f0'; replace f1' := x121.cellF f1'; replace f2' := x121.cellF f2'; replace f3' := x121.cellF f3'; replace ⟨y0, y1, y2, y3⟩ := F4 x121 y0 y1 y2 y3; replace hO := hid (hO.out.keepF x121)))
     go_roundw
     case rel => exact ⟨j + 1, by omega, by go_num, (Ext.of_eq (X := fun _ => False) x2 (xb.of_eq xo)).of_eq ((x120.of_eq x121))⟩
     case measure => simp [intOf]; omega
  ·go_wp2
   go_ret
   exact .mk rfl xx

theorem from_t1 (t : Bs) (ht : ¬ t = []) (l : List Tr) (hv : valid t = true) (hne : 0 < l.length) (hi : ∀ i (h : i < l.length), FromKid t 1 l l[i]) (B : Nat) (v : Value) (w : World) (h : NT B w v (.mk 64 t 1 l)) : Calls Tryz.prog 113 #[v] w (Ans true w) := by
 have Hi := hid hi
 have Hv := hid hv
 have hle : ((l.length : Int) == 0) = false := beq_eq_false_iff_ne.2 (by omega)
 have ht2 : (t == []) = false := by simpa using ht
 clear hi hv
 have hsv := sv_list
 obtain ⟨p, c, rfl, hks, hkr, hnr, htl, hcp, hkid, xw, C, _, _, hT⟩ := hT_ h
 obtain ⟨c0, c1, c2, c3⟩ := C.out
 have K := hid hkid
 have hll := hid hcp.2
 have HT := hid h.tab
 clear h hks hkid hcp hkr hnr
 simp only [nv, Tr.k, Tr.t, Tr.n, Tr.l]
 go_enter Tryz.func113, Tryz.ntmps113
 go_wp2_with (go_at_call 171; refine (valid_t' t htl Hv.out B _ hT.out).mono ?_; rintro e w171 ⟨rfl, x171⟩; replace ⟨c0, c1, c2, c3⟩ := F4 x171 c0 c1 c2 c3)
 clear c0 c1 c2 c3
 go_loopw [35] (fun i wr => ∃ j : Nat, j ≤ l.length ∧ i = .int .i64 j ∧ Fx (w.alloc (.cells #[.int .i64 64, .string (sv t), .int .i64 1, .slice p l.length c] 24)) wr) (fun i _ => l.length - (intOf i).toNat)
 case atStart => exact ⟨0, Nat.zero_le _, rfl, x171⟩
 case round =>
  obtain ⟨j, hj, rfl, x2⟩ := hrel
  have c0 := x2.cellF C.out.1
  have c1 := x2.cellF C.out.2.1
  have c2 := x2.cellF C.out.2.2.1
  have c3 := x2.cellF C.out.2.2.2
  have xx := xw.of_eq x2
  have hj4 : (j : Int) ≤ 4398046511104 := by have := hll.out; omega
  by_cases hlt : j < l.length
  ·obtain ⟨kt, o, hy0, ho, hcase⟩ := Hi.out j hlt
   rcases hcase with ⟨hkt, hts, hns, hl1⟩ | ⟨hkt, hs, hid'⟩
   ·cases hns
   ·have hk2 : (kt == [42]) = false := by simpa using hkt
    have Hs := hid hs
    clear hs hkt hid'
    rcases ho with rfl | ⟨ot, rfl, hot, hne2⟩
    ·skip
     obtain ⟨g, off, s, rfl, hgB, e0, e1, e2, e3, hy⟩ := K.out j hlt
     rw [hy0] at e0 e1 e2 hy
     simp only [Tr.k, Tr.t, Tr.n] at e0 e1 e2
     obtain ⟨sl', hs', hks', hkr', hnr', htl'⟩ := id hy.open
     obtain rfl : s = sl' := by simpa [nv, Tr.k, Tr.t, Tr.n] using hs'
     simp only [Tr.k, Tr.t, Tr.n, Tr.l] at hks' htl'
     obtain ⟨p', c', rfl, _, hkid'⟩ := hks'.kid
     have K' := hid hkid'
     clear hs' hks' hkr' hnr' hy0 hkid'
     replace ⟨e0, e1, e2, e3⟩ := F4 xx e0 e1 e2 e3
     simp only [lC, lN, zA] at *
     have xb : Fx wr (wr.alloc (.cells #[.int .i64 65, .string (sv kt), .int .i64 0, .slice p' 1 c'] 24)) := Ext.alloc _ _ _
     obtain ⟨d0, d1, d2, d3⟩ := nd_cells wr 65 0 (sv kt) (.slice p' 1 c')
     have hd' := hid ((NT.mk hy HT.out).keepF (xx.of_eq xb))
     simp only [nv, Tr.k, Tr.t, Tr.n, Tr.l] at hd'
     have f0 := xb.cellF c0
     have f1 := xb.cellF c1
     have f2 := xb.cellF c2
     have f3 := xb.cellF c3
     replace xx := xx.of_eq xb
     clear hy
     obtain ⟨g', o', s'', rfl, hgB', z0, z1, z2, z3, hz⟩ := K'.out 0 (by simp)
     obtain ⟨sl'', hs'', hks'', _, _, hto⟩ := id hz.open
     obtain rfl : s'' = sl'' := by simpa [nv, Tr.k, Tr.t, Tr.n] using hs''
     simp only [gZ, Tr.k, Tr.t, Tr.n, Tr.l] at hks'' hto z0 z1 z2 z3
     obtain ⟨p'', c'', rfl, _⟩ := hks''.kid
     clear hs'' hks'' K'
     simp only [zM, aZ, lN, gZ] at z0 z1 z2 z3 hz
     replace z0 := xb.cellF ((xw.of_eq x2).cellF z0)
     replace z1 := xb.cellF ((xw.of_eq x2).cellF z1)
     replace z2 := xb.cellF ((xw.of_eq x2).cellF z2)
     replace z3 := xb.cellF ((xw.of_eq x2).cellF z3)
     have hzz : (wr.alloc (.cells #[.int .i64 65, .string (sv kt), .int .i64 0, .slice (some ⟨g', o', none⟩) 1 c'] 24)).heap.size = wr.heap.size + 1 := alloc_size _ _
     have xo : Fx (wr.alloc (.cells #[.int .i64 65, .string (sv kt), .int .i64 0, .slice (some ⟨g', o', none⟩) 1 c'] 24)) ((wr.alloc (.cells #[.int .i64 65, .string (sv kt), .int .i64 0, .slice (some ⟨g', o', none⟩) 1 c'] 24)).alloc (.cells #[.int .i64 14, .string (sv []), .int .i64 0, .slice p'' 0 c''] 24)) := Ext.alloc _ _ _
     obtain ⟨y0, y1, y2, y3⟩ := nd_cells (wr.alloc (.cells #[.int .i64 65, .string (sv kt), .int .i64 0, .slice (some ⟨g', o', none⟩) 1 c'] 24)) 14 0 (sv []) (.slice p'' 0 c'')
     rw [hzz] at y0 y1 y2 y3
     have hO := hid (((NT.mk hz HT.out).keepF (xw.of_eq x2)).keepF (xb.of_eq xo))
     simp only [nv, Tr.k, Tr.t, Tr.n, Tr.l, lN] at hO
     have d0' := xo.cellF d0
     have d1' := xo.cellF d1
     have d2' := xo.cellF d2
     have d3' := xo.cellF d3
     have f0' := xo.cellF f0
     have f1' := xo.cellF f1
     have f2' := xo.cellF f2
     have f3' := xo.cellF f3
     replace xx := xx.of_eq xo
     clear hz hzz
     go_wp2_with (first
      | (go_at_call 172; refine (tnone_any B (.mk 14 [] 0 []) _ _ hO.out.node).mono ?_; rintro e w172 ⟨he172, x172⟩; rw [show isNone (.mk 14 [] 0 []) = true from rfl] at he172; subst he172; replace xx := xx.of_eq x172; replace d0' := x172.cellF d0'; replace d1' := x172.cellF d1'; replace d2' := x172.cellF d2'; replace d3' := x172.cellF d3'; replace f0' := x172.cellF f0'; replace f1' := x172.cellF f1'; replace f2' := x172.cellF f2'; replace f3' := x172.cellF f3'; replace ⟨y0, y1, y2, y3⟩ := F4 x172 y0 y1 y2 y3; replace hO := hid (hO.out.keepF x172))
      | (go_at_call_of 120 (sv kt); refine (prop_t kt htl' Hs.out B _ hO.out.tab).mono ?_; rintro e w121 ⟨rfl, x121⟩; replace xx := xx.of_eq x121; replace d0' := x121.cellF d0'; replace d1' := x121.cellF d1'; replace d2' := x121.cellF d2'; replace d3' := x121.cellF d3'; replace f0' := x121.cellF f0'; replace f1' := x121.cellF f1'; replace f2' := x121.cellF f2'; replace f3' := x121.cellF f3'; replace ⟨y0, y1, y2, y3⟩ := F4 x121 y0 y1 y2 y3; replace hO := hid (hO.out.keepF x121)))
     go_roundw
     case rel => exact ⟨j + 1, by omega, by go_num, (Ext.of_eq (X := fun _ => False) x2 (xb.of_eq xo)).of_eq ((x172.of_eq x121))⟩
     case measure => simp [intOf]; omega
    ·have Hot := hid hot
     have hq1 : (ot == kt) = false := by simpa using hne2
     clear hot hne2
     obtain ⟨g, off, s, rfl, hgB, e0, e1, e2, e3, hy⟩ := K.out j hlt
     rw [hy0] at e0 e1 e2 hy
     simp only [Tr.k, Tr.t, Tr.n] at e0 e1 e2
     obtain ⟨sl', hs', hks', hkr', hnr', htl'⟩ := id hy.open
     obtain rfl : s = sl' := by simpa [nv, Tr.k, Tr.t, Tr.n] using hs'
     simp only [Tr.k, Tr.t, Tr.n, Tr.l] at hks' htl'
     obtain ⟨p', c', rfl, _, hkid'⟩ := hks'.kid
     have K' := hid hkid'
     clear hs' hks' hkr' hnr' hy0 hkid'
     replace ⟨e0, e1, e2, e3⟩ := F4 xx e0 e1 e2 e3
     simp only [lC, lN, zA] at *
     have xb : Fx wr (wr.alloc (.cells #[.int .i64 65, .string (sv kt), .int .i64 0, .slice p' 1 c'] 24)) := Ext.alloc _ _ _
     obtain ⟨d0, d1, d2, d3⟩ := nd_cells wr 65 0 (sv kt) (.slice p' 1 c')
     have hd' := hid ((NT.mk hy HT.out).keepF (xx.of_eq xb))
     simp only [nv, Tr.k, Tr.t, Tr.n, Tr.l] at hd'
     have f0 := xb.cellF c0
     have f1 := xb.cellF c1
     have f2 := xb.cellF c2
     have f3 := xb.cellF c3
     replace xx := xx.of_eq xb
     clear hy
     obtain ⟨g', o', s'', rfl, hgB', z0, z1, z2, z3, hz⟩ := K'.out 0 (by simp)
     obtain ⟨sl'', hs'', hks'', _, _, hto⟩ := id hz.open
     obtain rfl : s'' = sl'' := by simpa [nv, Tr.k, Tr.t, Tr.n] using hs''
     simp only [gZ, Tr.k, Tr.t, Tr.n, Tr.l] at hks'' hto z0 z1 z2 z3
     obtain ⟨p'', c'', rfl, _⟩ := hks''.kid
     clear hs'' hks'' K'
     simp only [zM, aZ, lN, gZ] at z0 z1 z2 z3 hz
     replace z0 := xb.cellF ((xw.of_eq x2).cellF z0)
     replace z1 := xb.cellF ((xw.of_eq x2).cellF z1)
     replace z2 := xb.cellF ((xw.of_eq x2).cellF z2)
     replace z3 := xb.cellF ((xw.of_eq x2).cellF z3)
     have hzz : (wr.alloc (.cells #[.int .i64 65, .string (sv kt), .int .i64 0, .slice (some ⟨g', o', none⟩) 1 c'] 24)).heap.size = wr.heap.size + 1 := alloc_size _ _
     have xo : Fx (wr.alloc (.cells #[.int .i64 65, .string (sv kt), .int .i64 0, .slice (some ⟨g', o', none⟩) 1 c'] 24)) ((wr.alloc (.cells #[.int .i64 65, .string (sv kt), .int .i64 0, .slice (some ⟨g', o', none⟩) 1 c'] 24)).alloc (.cells #[.int .i64 6, .string (sv ot), .int .i64 0, .slice p'' 0 c''] 24)) := Ext.alloc _ _ _
     obtain ⟨y0, y1, y2, y3⟩ := nd_cells (wr.alloc (.cells #[.int .i64 65, .string (sv kt), .int .i64 0, .slice (some ⟨g', o', none⟩) 1 c'] 24)) 6 0 (sv ot) (.slice p'' 0 c'')
     rw [hzz] at y0 y1 y2 y3
     have hO := hid (((NT.mk hz HT.out).keepF (xw.of_eq x2)).keepF (xb.of_eq xo))
     simp only [nv, Tr.k, Tr.t, Tr.n, Tr.l, lN] at hO
     have d0' := xo.cellF d0
     have d1' := xo.cellF d1
     have d2' := xo.cellF d2
     have d3' := xo.cellF d3
     have f0' := xo.cellF f0
     have f1' := xo.cellF f1
     have f2' := xo.cellF f2
     have f3' := xo.cellF f3
     replace xx := xx.of_eq xo
     clear hz hzz
     go_wp2_with (first
      | (go_at_call_of 120 (sv ot); refine (prop_t ot hto Hot.out B _ hO.out.tab).mono ?_; rintro e w120 ⟨rfl, x120⟩; replace xx := xx.of_eq x120; replace d0' := x120.cellF d0'; replace d1' := x120.cellF d1'; replace d2' := x120.cellF d2'; replace d3' := x120.cellF d3'; replace f0' := x120.cellF f0'; replace f1' := x120.cellF f1'; replace f2' := x120.cellF f2'; replace f3' := x120.cellF f3'; replace ⟨y0, y1, y2, y3⟩ := F4 x120 y0 y1 y2 y3; replace hO := hid (hO.out.keepF x120))
      | (go_at_call_of 120 (sv kt); refine (prop_t kt htl' Hs.out B _ hO.out.tab).mono ?_; rintro e w121 ⟨rfl, x121⟩; replace xx := xx.of_eq x121; replace d0' := x121.cellF d0'; replace d1' := x121.cellF d1'; replace d2' := x121.cellF d2'; replace d3' := x121.cellF d3'; replace f0' := x121.cellF f0'; replace f1' := x121.cellF f1'; replace f2' := x121.cellF f2'; replace f3' := x121.cellF f3'; replace ⟨y0, y1, y2, y3⟩ := F4 x121 y0 y1 y2 y3; replace hO := hid (hO.out.keepF x121)))
     go_roundw
     case rel => exact ⟨j + 1, by omega, by go_num, (Ext.of_eq (X := fun _ => False) x2 (xb.of_eq xo)).of_eq ((x120.of_eq x121))⟩
     case measure => simp [intOf]; omega
  ·go_wp2
   go_ret
   exact .mk rfl xx

theorem from_t (x : Tr) (hk : x.k = 64) (hx : isFrom x = true) (B : Nat) (v : Value) (w : World) (h : NT B w v x) : Calls Tryz.prog 113 #[v] w (Ans true w) := by
 obtain ⟨k, t, n, l⟩ := x
 simp only [Tr.k] at hk
 subst hk
 simp only [isFrom, Tr.t, Tr.n, Tr.l, Bool.and_eq_true, Bool.or_eq_true, beq_iff_eq, List.all_eq_true] at hx
 obtain ⟨⟨⟨hv, hn⟩, h1⟩, h2⟩ := hx
 have hne : 0 < l.length := by cases l <;> simp at h1 ⊢
 have hk : ∀ i (h : i < l.length), FromKid t n l l[i] := fun i hi => from_kid (List.getElem_mem hi) (h2 _ (List.getElem_mem hi))
 by_cases ht : t = []
 ·subst ht
  rcases hn with rfl | rfl
  ·exact from_e0 l hv hne hk B v w h
  ·exact from_e1 l hv hne hk B v w h
 ·rcases hn with rfl | rfl
  ·exact from_t0 t ht l hv hne hk B v w h
  ·exact from_t1 t ht l hv hne hk B v w h

end Go.Proofs.YtpmlmpibpmoclaaGreatDoor
