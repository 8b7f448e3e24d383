/-
  The printer on statements.
-/
import Derived.Test.YtpmlmpibpmoclaaGreatDoorS5
import Derived.Test.YtpmlmpibpmoclaaGreatDoorT13
namespace Go.Proofs.YtpmlmpibpmoclaaGreatDoor
set_option linter.all false
set_option maxRecDepth 20000
set_option maxHeartbeats 4000000
open Go.RowKit

/-- 'p.put(..)' at a slice that lies anywhere. -/
theorem put_c (S : List Bs) {B pb : Nat} {L : List Pc} {w : World} (hp : PrAt B w pb L) {vs : Array Value} {T : TypeId} {m c g : Nat} (hl : (L ++ S.map wd).length ≤ 4398046511104) (hv : (strs S).toArray = vs) (hm : S.length = m) (hblk : w.heap[g]? = some (.cells vs T (0, 0))) (hne : g ≠ pb) (hT : T ≠ 76) :
  Calls Tryz.prog 67 #[.pointer (some ⟨pb, 0, none⟩), .slice (some ⟨g, 0, none⟩) m c] w (Pts B pb w (L ++ S.map wd)) := by
 obtain ⟨ii, hi, hz0, hz1, hz2⟩ := info_at info76
 subst hm
 have HL := hid hl
 have hSl : S.length ≤ 4398046511104 := by simp at hl; omega
 have hgB : B ≤ w.heap.size := Nat.le_trans hp.le (Nat.le_of_lt hp.lt)
 have hp0 := hp
 clear hl hp
 go_enter Tryz.func67, Tryz.ntmps67
 go_wp2
 go_loopw [8] (fun i wr => ∃ j : Nat, j ≤ S.length ∧ i = .int .i64 j ∧ Hid (PrAt B wr pb (L ++ (S.take j).map wd)) ∧ Hid (Px B pb w wr)) (fun i _ => S.length - (intOf i).toNat)
 case atStart => exact ⟨0, Nat.zero_le _, rfl, hid (by simpa using hp0), hid (Px.refl _ _ _)⟩
 case round =>
  obtain ⟨j, hj, rfl, hpr, hpx⟩ := hrel
  have hj4 : (j : Int) ≤ 4398046511104 := by omega
  by_cases hlt : j < S.length
  ·have hrow := hpx.out.loc hblk hne hT
   have hc : wr.cell? ⟨g, 0 + j, none⟩ = some (.string (sv S[j])) := by
    simp only [World.cell?, hrow, zA]
    subst hv
    simp [strs, List.getElem?_map, List.getElem?_eq_getElem hlt]
   rw [Nat.zero_add] at hc
   have htk := hid (show L ++ (S.take (j + 1)).map wd = (L ++ (S.take j).map wd) ++ [Pc.word S[j]] by rw [List.take_succ_eq_append_getElem hlt, List.map_append, List.append_assoc]; rfl)
   have hlen := hid (show (L ++ (S.take j).map wd).length ≤ 4398046511104 by have := HL.out; simp at this ⊢; omega)
   generalize S[j] = s at *
   obtain ⟨d, hd, ho⟩ := hpr.out.val
   have hd0 := cell_one hd
   have HD := hid hd
   have HO := hid ho
   have hle := hid hpr.out.le
   have hpw := hid (hpr.out.pow)
   have hbs : B ≤ wr.heap.size := by have := hpx.out.size; omega
   clear hd ho
   have xa : Fx wr (wr.alloc (.cells #[.iface 77 (.string (sv s))] 76)) := Ext.alloc _ _ _
   obtain ⟨p0, n0, c0, rfl⟩ : ∃ p n c, d = .slice p n c := by
    rcases HO.out.2 with ⟨rfl, _⟩ | ⟨g, cap, cur, rfl, _⟩
    ·exact ⟨_, _, _, rfl⟩
    ·exact ⟨_, _, _, rfl⟩
   have hd1 := hid ((xa.block pb (Array.getElem?_eq_some_iff.1 HD.out).1 id).trans HD.out)
   have ho1 := hid (own_keepF HO.out xa)
   have hcn := cell_alloc wr #[.iface 77 (.string (sv s))] 76 0 _ rfl
   go_wp2_with (at_builtin; refine wpList_append_pc rfl (.tmp 16) (.tmp 19) 41 rfl B ii _ Tryz.underlying41 hi hz0 hz1 hz2 rfl _ (L ++ (S.take j).map wd) wr.heap.size 1 (.word s) rfl rfl ho1.out hcn hlen.out (by rw [alloc_size]; omega) ?_; intro p7 n7 c7 w7 hown7 hg7; obtain ⟨⟨g1, g2⟩, g3, g4⟩ := px_grown hle.out hd1.out ho1.out hg7 hown7 (hpw.out.keepF xa); replace g3 := hid g3; replace g4 := hid g4; replace hown7 := hid hown7)
   go_roundw
   case rel => exact ⟨j + 1, by omega, by go_num, hid (g3.out.cast htk.out.symm), hid ((hpx.out.fx xa).trans g4.out)⟩
   case measure => simp [intOf]; omega
  ·have hfin := hid (hpr.out.cast (show L ++ (S.take j).map wd = L ++ S.map wd by rw [List.take_of_length_le (by omega)]))
   go_wp2
   go_end0
   exact ⟨rfl, hfin.out, hpx.out⟩

/-! ### what an expression's text begins with -/

theorem px_new {B qb : Nat} {w w1 w2 : World} (h : Fx w w1) (hx : Px B qb w1 w2) (hB : w.heap.size ≤ B) (hq : w.heap.size ≤ qb) : Fx w w2 :=
 Ext.trans h (Ext.mono hx fun k _ hk => by rcases hk with h1 | ⟨h1, _⟩ <;> exact .inr (by omega))
theorem Pow.up {B B' : Nat} {w : World} (h : Pow B w) (h1 : B ≤ B') (h2 : B' ≤ w.heap.size) : Pow B' w := ⟨h2, fun w' hb => h.all w' (hb.mono h1)⟩
theorem Tabs.up {B B' : Nat} {w : World} (h : Tabs B w) (h1 : B ≤ B') (h2 : B' ≤ w.heap.size) : Tabs B' w := ⟨h2, fun w' hb => h.all w' (hb.mono h1), fun w' hb => h.bru w' (hb.mono h1)⟩
theorem NT.up {B B' : Nat} {w : World} {v : Value} {x : Tr} (h : NT B w v x) (h1 : B ≤ B') (h2 : B' ≤ w.heap.size) : NT B' w v x := ⟨h.node.monoB h1, h.tab.up h1 h2⟩

theorem prefix_b (s : Bs) (p : ByteArray) (w : World) : Calls Tryz.prog 146 #[.string (sv s), .string p] w (Tells (startsB p.data.toList s) w) := by
 have := prefix_p s p.data.toList w
 rwa [show sv p.data.toList = p from sv_of p] at this

/-- The bound that texts keep. -/
def LayB (x : Tr) : Prop := (lay 0 false (qE 1 x)).length ≤ 70368744177664 ∧ okd 0 (qE 1 x) ∧ (qE 1 x).length ≤ 4398046511104

theorem first_p {N : Nat} (ihE : ExprP N) (x : Tr) (hc : cnt x < N) (he : isE x = true) (hw : wt x ≤ BW) (hb : LayB x) {B pb : Nat} {w : World} {v : Value} (h : NT B w v x) (hpw : Pow B w) : Calls Tryz.prog 138 #[.pointer (some ⟨pb, 0, none⟩), v] w (Ans (firstB (lay 0 false (qE 1 x))) w) := by
 obtain ⟨sl, rfl, hks, hkr, hnr, htl⟩ := id h.node.open
 obtain ⟨p, c, rfl, _⟩ := hks.kid
 have Hc := hid hc
 have He := hid he
 have Hw := hid hw
 have Hb := hid hb
 have hBs := hid h.tab.le
 have xw : Fx w (w.alloc (.cells #[.int .i64 x.k, .string (sv x.t), .int .i64 x.n, .slice p x.l.length c] 24)) := Ext.alloc _ _ _
 obtain ⟨c0, c1, c2, c3⟩ := nd_cells w x.k x.n (sv x.t) (.slice p x.l.length c)
 have xq : Fx (w.alloc (.cells #[.int .i64 x.k, .string (sv x.t), .int .i64 x.n, .slice p x.l.length c] 24)) ((w.alloc (.cells #[.int .i64 x.k, .string (sv x.t), .int .i64 x.n, .slice p x.l.length c] 24)).alloc (.cells #[.slice none 0 0] 43)) := Ext.alloc _ _ _
 have hz1 : (w.alloc (.cells #[.int .i64 x.k, .string (sv x.t), .int .i64 x.n, .slice p x.l.length c] 24)).heap.size = w.heap.size + 1 := alloc_size _ _
 have hz2 : ((w.alloc (.cells #[.int .i64 x.k, .string (sv x.t), .int .i64 x.n, .slice p x.l.length c] 24)).alloc (.cells #[.slice none 0 0] 43)).heap.size = w.heap.size + 2 := by rw [alloc_size, hz1]
 have hq := heap_new (w.alloc (.cells #[.int .i64 x.k, .string (sv x.t), .int .i64 x.n, .slice p x.l.length c] 24)) (.cells #[.slice none 0 0] 43)
 rw [hz1] at hq
 have hN := hid ((h.keepF (xw.of_eq xq)).up (B' := w.heap.size + 1) (by have := hBs.out; omega) (by rw [hz2]; omega))
 have hP := hid ((hpw.keepF (xw.of_eq xq)).up (B' := w.heap.size + 1) (by have := hBs.out; omega) (by rw [hz2]; omega))
 have hQ := hid (show PrAt (w.heap.size + 1) ((w.alloc (.cells #[.int .i64 x.k, .string (sv x.t), .int .i64 x.n, .slice p x.l.length c] 24)).alloc (.cells #[.slice none 0 0] 43)) (w.heap.size + 1) [] from ⟨⟨_, hq, rfl, .inl ⟨rfl, rfl⟩⟩, Nat.le_refl _, hP.out⟩)
 have g0 := xq.cellF c0
 have g1 := xq.cellF c1
 have g2 := xq.cellF c2
 have g3 := xq.cellF c3
 clear h hks hkr hnr hpw hc he hw hb hq hz2 hP
 simp only [nv] at hN ⊢
 cases hA : startsB [123] (lay 0 false (qE 1 x))
 ·cases hA2 : startsB [102, 117, 110, 99, 116, 105, 111, 110, 32] (lay 0 false (qE 1 x))
  all_goals
   have hr := hid (show firstB (lay 0 false (qE 1 x)) = (startsB [123] (lay 0 false (qE 1 x)) || startsB [102, 117, 110, 99, 116, 105, 111, 110, 32] (lay 0 false (qE 1 x))) from rfl)
   rw [hA, hA2] at hr
   replace hA := hid hA
   replace hA2 := hid hA2
   go_enter Tryz.func138, Tryz.ntmps138
   go_wp2_with (first
    | (go_at_call 29; refine (ihE.at x Hc.out He.out Hw.out 1 (by first | rfl | (simp; done)) hQ.out hN.out (by simpa using Hb.out.2.2)).mono ?_; rintro e w29 ⟨rfl, hq, z_⟩; replace hq := hid hq; have xn := px_new (xw.of_eq xq) z_ (Nat.le_succ _) (Nat.le_succ _); clear z_)
    | (go_at_call 33; refine (text_p (hq.out.cast (List.nil_append _)) Hb.out.2.1 Hb.out.1 Hb.out.2.2).mono ?_; rintro e w33 ⟨rfl, x33⟩)
    | (go_at_call 146; refine (prefix_b _ _ _).mono ?_; rintro e w146 ⟨h146, rfl⟩; first | (obtain rfl := h146.trans (congrArg (fun b => Ending.returned (.bool b)) hA.out)) | (obtain rfl := h146.trans (congrArg (fun b => Ending.returned (.bool b)) hA2.out))))
   go_ret
   exact .mk hr.out (xn.of_eq x33)
 ·have hr := hid (show firstB (lay 0 false (qE 1 x)) = (startsB [123] (lay 0 false (qE 1 x)) || startsB [102, 117, 110, 99, 116, 105, 111, 110, 32] (lay 0 false (qE 1 x))) from rfl)
  rw [hA, Bool.true_or] at hr
  replace hA := hid hA
  go_enter Tryz.func138, Tryz.ntmps138
  go_wp2_with (first
   | (go_at_call 29; refine (ihE.at x Hc.out He.out Hw.out 1 (by first | rfl | (simp; done)) hQ.out hN.out (by simpa using Hb.out.2.2)).mono ?_; rintro e w29 ⟨rfl, hq, z_⟩; replace hq := hid hq; have xn := px_new (xw.of_eq xq) z_ (Nat.le_succ _) (Nat.le_succ _); clear z_)
   | (go_at_call 33; refine (text_p (hq.out.cast (List.nil_append _)) Hb.out.2.1 Hb.out.1 Hb.out.2.2).mono ?_; rintro e w33 ⟨rfl, x33⟩)
   | (go_at_call 146; refine (prefix_b _ _ _).mono ?_; rintro e w146 ⟨h146, rfl⟩; obtain rfl := h146.trans (congrArg (fun b => Ending.returned (.bool b)) hA.out)))
  go_ret
  exact .mk hr.out (xn.of_eq x33)

theorem alone_p {N : Nat} (ihE : ExprP N)  {B pb : Nat} {L : List Pc} {w : World} {v : Value} (x : Tr) (hc : cnt x < N) (he : isE x = true) (hw : wt x ≤ BW) (hb : LayB x) (hp : PrAt B w pb L) (h : NT B w v x) : Pn 73 B pb w L v (aloneP x) := by
 intro hl
 obtain ⟨sl, rfl, hks, hkr, hnr, htl⟩ := id h.node.open
 obtain ⟨p, c, rfl, _⟩ := hks.kid
 have hpb := hid hp.le
 have hne : w.heap.size ≠ pb := by have := hp.lt; omega
 have xw : Fx w (w.alloc (.cells #[.int .i64 x.k, .string (sv x.t), .int .i64 x.n, .slice p x.l.length c] 24)) := Ext.alloc _ _ _
 have pp := hid (Px.of (B := B) (pb := pb) xw)
 have HB := hid (heap_new w (.cells #[.int .i64 x.k, .string (sv x.t), .int .i64 x.n, .slice p x.l.length c] 24))
 obtain ⟨c0, c1, c2, c3⟩ := nd_cells w x.k x.n (sv x.t) (.slice p x.l.length c)
 have hd := hid (h.keepF xw)
 have hT := hid (h.tab.keepF xw)
 have hp1 := hid (hp.keepF xw)
 have Hc := hid hc
 have He := hid he
 have Hw := hid hw
 have Hb := hid hb
 have hl2 := hid hl
 clear hc he hw hb hl
 clear h hks hkr hnr hp
 simp only [nv] at hd ⊢
 cases hF : firstB (lay 0 false (qE 1 x))
 ·have e := hid (show aloneP x = qE 1 x ++ [wd [59]] from by simp [aloneP, hF])
  have HL := hid (show (L ++ (qE 1 x ++ [wd [59]])).length ≤ 4398046511104 from by have := hl2.out; rwa [e.out] at this)
  rw [e.out]
  replace hF := hid hF
  go_enter Tryz.func73, Tryz.ntmps73
  go_wp2_with (first
   | (go_at_call 138; refine (first_p ihE x Hc.out He.out Hw.out Hb.out hd.out hp1.out.pow).mono ?_; rintro e w138 ⟨he138, z_⟩; have hq := hp1.out.keepF z_; replace z_ := Px.of (B := B) (pb := pb) z_; rw [hF.out] at he138; subst he138; replace ⟨pp, hp1, HB, c0, c1, c2, c3⟩ := Q5 z_ pp hq HB hne; replace hd := hid (hd.out.keepP z_ hpb.out); replace hT := hid (hT.out.keepP z_ hpb.out))
   | ((first | (go_at_call 29; refine (ihE.at x Hc.out He.out Hw.out 1 (by first | rfl | (simp; done)) hp1.out hd.out (lo HL.out)).mono ?_; rintro e w29 ⟨rfl, hq, z_⟩) | (go_at_call 67; refine (pl [[59]] hp1.out (lo HL.out)).mono ?_; rintro e w67 ⟨rfl, hq, z_⟩)) <;> (replace ⟨pp, hp1, HB, c0, c1, c2, c3⟩ := Q5 z_ pp hq HB hne; replace hd := hid (hd.out.keepP z_ hpb.out); replace hT := hid (hT.out.keepP z_ hpb.out))))
  try simp only [Exit.inBlock, Exit.then]
  refine be rfl rfl ?_
  exact ⟨rfl, hp1.out.cast (by simp), pp.out⟩
 ·have e := hid (show aloneP x = [wd [40]] ++ qE 1 x ++ [wd [41, 59]] from by simp [aloneP, hF])
  have HL := hid (show (L ++ ([wd [40]] ++ qE 1 x ++ [wd [41, 59]])).length ≤ 4398046511104 from by have := hl2.out; rwa [e.out] at this)
  rw [e.out]
  replace hF := hid hF
  go_enter Tryz.func73, Tryz.ntmps73
  go_wp2_with (first
   | (go_at_call 138; refine (first_p ihE x Hc.out He.out Hw.out Hb.out hd.out hp1.out.pow).mono ?_; rintro e w138 ⟨he138, z_⟩; have hq := hp1.out.keepF z_; replace z_ := Px.of (B := B) (pb := pb) z_; rw [hF.out] at he138; subst he138; replace ⟨pp, hp1, HB, c0, c1, c2, c3⟩ := Q5 z_ pp hq HB hne; replace hd := hid (hd.out.keepP z_ hpb.out); replace hT := hid (hT.out.keepP z_ hpb.out))
   | ((first | (go_at_call 29; refine (ihE.at x Hc.out He.out Hw.out 1 (by first | rfl | (simp; done)) hp1.out hd.out (lo HL.out)).mono ?_; rintro e w29 ⟨rfl, hq, z_⟩) | (go_at_call 67; (first | refine (pl [[40]] hp1.out (lo HL.out)).mono ?_ | refine (pl [[41, 59]] hp1.out (lo HL.out)).mono ?_); rintro e w67 ⟨rfl, hq, z_⟩)) <;> (replace ⟨pp, hp1, HB, c0, c1, c2, c3⟩ := Q5 z_ pp hq HB hne; replace hd := hid (hd.out.keepP z_ hpb.out); replace hT := hid (hT.out.keepP z_ hpb.out))))
  try simp only [Exit.inBlock, Exit.then]
  refine be rfl rfl ?_
  exact ⟨rfl, hp1.out.cast (by simp), pp.out⟩

theorem p31_40_0 {N : Nat} (ihE : ExprP N) (t : Bs) (ya yb : Tr) (B pb : Nat) (L : List Pc) (w : World) (v : Value) (hp : PrAt B w pb L) (h : NT B w v (.mk 40 t 0 [ya, yb])) (ha1 : isTyOr ya = true) (hcb : cnt yb < N) (heb : isE yb = true) (hwb : wt yb ≤ BW) : Pn 31 B pb w L v ([wd [108, 101, 116, 32], wd t] ++ tyOrP ya ++ [wd [32, 61, 32]] ++ qE 1 yb ++ [wd [59]]) := by
 intro hl
 have hsv := sv_list
 obtain ⟨p, c, rfl, hks, hkr, hnr, htl, hcp, hkid, hpb, hne, xw, pp, HB, ⟨c0, c1, c2, c3⟩, hd, hk, hT0, hT, hp1⟩ := hS hp h
 have HL := hid hl
 have K := hid hkid
 have hll := hid hcp.2
 have HCB := hid hcb
 have HEB := hid heb
 have HWB := hid hwb
 clear hcb heb hwb
 have H1 := hid ha1
 have hneQ := hid (show pb < w.heap.size from hp.lt)
 clear ha1
 clear h hks hkid hcp hkr hnr hp hl
 simp only [nv, Tr.k, Tr.t, Tr.n, Tr.l, lC, lN, zA, Nat.reduceAdd] at hd hk HB pp c0 c1 c2 c3 ⊢
 obtain ⟨g, o, s0, rfl, hgB, a0, a1, a2, a3, ha⟩ := K.out 0 (by simp)
 obtain ⟨g1, o1, s1, hgo, hgB1, b0, b1, b2, b3, hb⟩ := K.out 1 (by simp)
 simp only [Option.some.injEq, Addr.mk.injEq, and_true] at hgo
 obtain ⟨rfl, rfl⟩ := hgo
 simp only [gZ, gS, zM, oM, aZ, lC, lN, zA, Nat.reduceAdd, Nat.reduceMul] at *
 replace ⟨a0, a1, a2, a3⟩ := F4 xw a0 a1 a2 a3
 replace ha := hid ((NT.mk ha hT0.out).keepF xw)
 simp only [nv] at ha
 obtain ⟨sla, hsa, hksa, _⟩ := id ha.out.node.open
 obtain ⟨pka, cca, hva, _⟩ := hksa.kid
 obtain rfl : s0 = .slice pka ya.l.length cca := by rw [← hva]; simpa [nv] using hsa
 clear hsa hksa hva
 replace ⟨b0, b1, b2, b3⟩ := F4 xw b0 b1 b2 b3
 replace hb := hid ((NT.mk hb hT0.out).keepF xw)
 simp only [nv] at hb
 obtain ⟨slb, hsb, hksb, _⟩ := id hb.out.node.open
 obtain ⟨pkb, ccb, hvb, _⟩ := hksb.kid
 obtain rfl : s1 = .slice pkb yb.l.length ccb := by rw [← hvb]; simpa [nv] using hsb
 clear hsb hksb hvb
 clear K
 go_enter Tryz.func31, Tryz.ntmps31
 go_wp2
 have xX : Fx (w.alloc (.cells #[.int .i64 40, .string (sv t), .int .i64 0, .slice (some ⟨g, o, none⟩) 2 c] 24)) ((w.alloc (.cells #[.int .i64 40, .string (sv t), .int .i64 0, .slice (some ⟨g, o, none⟩) 2 c] 24)).alloc (.cells #[.string ⟨#[108, 101, 116, 32]⟩, .string ⟨#[99, 111, 110, 115, 116, 32]⟩] 9)) := Ext.alloc _ _ _
 have xY : Fx ((w.alloc (.cells #[.int .i64 40, .string (sv t), .int .i64 0, .slice (some ⟨g, o, none⟩) 2 c] 24)).alloc (.cells #[.string ⟨#[108, 101, 116, 32]⟩, .string ⟨#[99, 111, 110, 115, 116, 32]⟩] 9)) (((w.alloc (.cells #[.int .i64 40, .string (sv t), .int .i64 0, .slice (some ⟨g, o, none⟩) 2 c] 24)).alloc (.cells #[.string ⟨#[108, 101, 116, 32]⟩, .string ⟨#[99, 111, 110, 115, 116, 32]⟩] 9)).alloc (.cells #[.string ⟨#[108, 101, 116, 32]⟩, .string (sv t)] 9)) := Ext.alloc _ _ _
 have hz1 : (w.alloc (.cells #[.int .i64 40, .string (sv t), .int .i64 0, .slice (some ⟨g, o, none⟩) 2 c] 24)).heap.size = w.heap.size + 1 := alloc_size _ _
 have hz2 : ((w.alloc (.cells #[.int .i64 40, .string (sv t), .int .i64 0, .slice (some ⟨g, o, none⟩) 2 c] 24)).alloc (.cells #[.string ⟨#[108, 101, 116, 32]⟩, .string ⟨#[99, 111, 110, 115, 116, 32]⟩] 9)).heap.size = w.heap.size + 2 := by rw [alloc_size, hz1]
 have f1 := xX.cellF c1
 have f2 := xX.cellF c2
 have r0 := cell_alloc (w.alloc (.cells #[.int .i64 40, .string (sv t), .int .i64 0, .slice (some ⟨g, o, none⟩) 2 c] 24)) #[.string ⟨#[108, 101, 116, 32]⟩, .string ⟨#[99, 111, 110, 115, 116, 32]⟩] 9 0 _ rfl
 have r1 := cell_alloc (w.alloc (.cells #[.int .i64 40, .string (sv t), .int .i64 0, .slice (some ⟨g, o, none⟩) 2 c] 24)) #[.string ⟨#[108, 101, 116, 32]⟩, .string ⟨#[99, 111, 110, 115, 116, 32]⟩] 9 1 _ rfl
 rw [hz1] at r0 r1
 have hbY := heap_new ((w.alloc (.cells #[.int .i64 40, .string (sv t), .int .i64 0, .slice (some ⟨g, o, none⟩) 2 c] 24)).alloc (.cells #[.string ⟨#[108, 101, 116, 32]⟩, .string ⟨#[99, 111, 110, 115, 116, 32]⟩] 9)) (.cells #[.string ⟨#[108, 101, 116, 32]⟩, .string (sv t)] 9)
 rw [hz2] at hbY
 have xZ := (xX.of_eq xY).of_eq (Ext.drew (fun _ => False) _)
 have hpZ := hid (hp1.out.keepF xZ)
 have hneZ := hid (show w.heap.size + 2 ≠ pb from by have := hp1.out.lt; rw [hz1] at this; intro e; have h9 := hneQ.out; omega)
 have hput := put_c [[108, 101, 116, 32], t] hpZ.out (vs := #[.string ⟨#[108, 101, 116, 32]⟩, .string (sv t)]) (T := 9) (m := 2) (c := 2) (lo HL.out) rfl rfl hbY hneZ.out (by decide)
 have XZ := hid xZ
 clear hbY hz1 hz2 xX xY xZ hpZ
 go_region_with (go_at_call 67; refine hput.mono ?_; rintro e w67 ⟨rfl, hq, x67⟩)
 all_goals
  have x67' := Px.fxo x67 XZ.out
  replace pp := hid (pp.out.trans x67'); replace hp1 := hid hq; replace HB := hid (x67'.loc HB.out hne (by decide)); replace ⟨c0, c1, c2, c3⟩ := blk4 HB.out; replace ⟨a0, a1, a2, a3⟩ := P4 x67' hpb.out hgB a0 a1 a2 a3; replace ha := hid (ha.out.keepP x67' hpb.out); replace ⟨b0, b1, b2, b3⟩ := P4 x67' hpb.out hgB b0 b1 b2 b3; replace hb := hid (hb.out.keepP x67' hpb.out); replace hd := hid (hd.out.keepP x67' hpb.out); replace hk := hid (hk.out.keepP x67' hpb.out); replace hT := hid (hT.out.keepP x67' hpb.out)
  go_wp2_with (first
   | ((first | (go_at_call 71; refine (typeOr_p ya H1.out hp1.out ha.out (lo HL.out)).mono ?_; rintro e w71 ⟨rfl, hq, z_⟩) | (go_at_call_of 29 (sv yb.t); refine (ihE.at yb HCB.out HEB.out HWB.out 1 (by first | rfl | (simp; done) | omega) hp1.out hb.out (lo HL.out)).mono ?_; rintro e w29b ⟨rfl, hq, z_⟩)) <;> (replace ⟨pp, hp1, HB, c0, c1, c2, c3⟩ := Q5 z_ pp hq HB hne; replace ⟨a0, a1, a2, a3⟩ := P4 z_ hpb.out hgB a0 a1 a2 a3; replace ha := hid (ha.out.keepP z_ hpb.out); replace ⟨b0, b1, b2, b3⟩ := P4 z_ hpb.out hgB b0 b1 b2 b3; replace hb := hid (hb.out.keepP z_ hpb.out); replace ⟨hd, hk, hT⟩ := D3 z_ hpb hd hk hT))
   | (go_at_call 67; refine (pl [[32, 61, 32]] hp1.out (lo HL.out)).mono ?_; rintro e w67 ⟨rfl, hq, x67⟩; replace pp := hid (pp.out.trans x67); replace hp1 := hid hq; replace HB := hid (x67.loc HB.out hne (by decide)); replace ⟨c0, c1, c2, c3⟩ := blk4 HB.out; replace ⟨a0, a1, a2, a3⟩ := P4 x67 hpb.out hgB a0 a1 a2 a3; replace ha := hid (ha.out.keepP x67 hpb.out); replace ⟨b0, b1, b2, b3⟩ := P4 x67 hpb.out hgB b0 b1 b2 b3; replace hb := hid (hb.out.keepP x67 hpb.out); replace hd := hid (hd.out.keepP x67 hpb.out); replace hk := hid (hk.out.keepP x67 hpb.out); replace hT := hid (hT.out.keepP x67 hpb.out))
   | (go_at_call 67; refine (pl [[59]] hp1.out (lo HL.out)).mono ?_; rintro e w67 ⟨rfl, hq, x67⟩; replace pp := hid (pp.out.trans x67); replace hp1 := hid hq; replace HB := hid (x67.loc HB.out hne (by decide)); replace ⟨c0, c1, c2, c3⟩ := blk4 HB.out; replace ⟨a0, a1, a2, a3⟩ := P4 x67 hpb.out hgB a0 a1 a2 a3; replace ha := hid (ha.out.keepP x67 hpb.out); replace ⟨b0, b1, b2, b3⟩ := P4 x67 hpb.out hgB b0 b1 b2 b3; replace hb := hid (hb.out.keepP x67 hpb.out); replace hd := hid (hd.out.keepP x67 hpb.out); replace hk := hid (hk.out.keepP x67 hpb.out); replace hT := hid (hT.out.keepP x67 hpb.out)))
  try simp only [Exit.inBlock, Exit.then]
  refine be rfl rfl ?_
  exact ⟨rfl, hp1.out.cast (by simp), pp.out⟩

theorem p31_40_1 {N : Nat} (ihE : ExprP N) (t : Bs) (ya yb : Tr) (B pb : Nat) (L : List Pc) (w : World) (v : Value) (hp : PrAt B w pb L) (h : NT B w v (.mk 40 t 1 [ya, yb])) (ha1 : isTyOr ya = true) (hcb : cnt yb < N) (heb : isE yb = true) (hwb : wt yb ≤ BW) : Pn 31 B pb w L v ([wd [99, 111, 110, 115, 116, 32], wd t] ++ tyOrP ya ++ [wd [32, 61, 32]] ++ qE 1 yb ++ [wd [59]]) := by
 intro hl
 have hsv := sv_list
 obtain ⟨p, c, rfl, hks, hkr, hnr, htl, hcp, hkid, hpb, hne, xw, pp, HB, ⟨c0, c1, c2, c3⟩, hd, hk, hT0, hT, hp1⟩ := hS hp h
 have HL := hid hl
 have K := hid hkid
 have hll := hid hcp.2
 have HCB := hid hcb
 have HEB := hid heb
 have HWB := hid hwb
 clear hcb heb hwb
 have H1 := hid ha1
 have hneQ := hid (show pb < w.heap.size from hp.lt)
 clear ha1
 clear h hks hkid hcp hkr hnr hp hl
 simp only [nv, Tr.k, Tr.t, Tr.n, Tr.l, lC, lN, zA, Nat.reduceAdd] at hd hk HB pp c0 c1 c2 c3 ⊢
 obtain ⟨g, o, s0, rfl, hgB, a0, a1, a2, a3, ha⟩ := K.out 0 (by simp)
 obtain ⟨g1, o1, s1, hgo, hgB1, b0, b1, b2, b3, hb⟩ := K.out 1 (by simp)
 simp only [Option.some.injEq, Addr.mk.injEq, and_true] at hgo
 obtain ⟨rfl, rfl⟩ := hgo
 simp only [gZ, gS, zM, oM, aZ, lC, lN, zA, Nat.reduceAdd, Nat.reduceMul] at *
 replace ⟨a0, a1, a2, a3⟩ := F4 xw a0 a1 a2 a3
 replace ha := hid ((NT.mk ha hT0.out).keepF xw)
 simp only [nv] at ha
 obtain ⟨sla, hsa, hksa, _⟩ := id ha.out.node.open
 obtain ⟨pka, cca, hva, _⟩ := hksa.kid
 obtain rfl : s0 = .slice pka ya.l.length cca := by rw [← hva]; simpa [nv] using hsa
 clear hsa hksa hva
 replace ⟨b0, b1, b2, b3⟩ := F4 xw b0 b1 b2 b3
 replace hb := hid ((NT.mk hb hT0.out).keepF xw)
 simp only [nv] at hb
 obtain ⟨slb, hsb, hksb, _⟩ := id hb.out.node.open
 obtain ⟨pkb, ccb, hvb, _⟩ := hksb.kid
 obtain rfl : s1 = .slice pkb yb.l.length ccb := by rw [← hvb]; simpa [nv] using hsb
 clear hsb hksb hvb
 clear K
 go_enter Tryz.func31, Tryz.ntmps31
 go_wp2
 have xX : Fx (w.alloc (.cells #[.int .i64 40, .string (sv t), .int .i64 1, .slice (some ⟨g, o, none⟩) 2 c] 24)) ((w.alloc (.cells #[.int .i64 40, .string (sv t), .int .i64 1, .slice (some ⟨g, o, none⟩) 2 c] 24)).alloc (.cells #[.string ⟨#[108, 101, 116, 32]⟩, .string ⟨#[99, 111, 110, 115, 116, 32]⟩] 9)) := Ext.alloc _ _ _
 have xY : Fx ((w.alloc (.cells #[.int .i64 40, .string (sv t), .int .i64 1, .slice (some ⟨g, o, none⟩) 2 c] 24)).alloc (.cells #[.string ⟨#[108, 101, 116, 32]⟩, .string ⟨#[99, 111, 110, 115, 116, 32]⟩] 9)) (((w.alloc (.cells #[.int .i64 40, .string (sv t), .int .i64 1, .slice (some ⟨g, o, none⟩) 2 c] 24)).alloc (.cells #[.string ⟨#[108, 101, 116, 32]⟩, .string ⟨#[99, 111, 110, 115, 116, 32]⟩] 9)).alloc (.cells #[.string ⟨#[99, 111, 110, 115, 116, 32]⟩, .string (sv t)] 9)) := Ext.alloc _ _ _
 have hz1 : (w.alloc (.cells #[.int .i64 40, .string (sv t), .int .i64 1, .slice (some ⟨g, o, none⟩) 2 c] 24)).heap.size = w.heap.size + 1 := alloc_size _ _
 have hz2 : ((w.alloc (.cells #[.int .i64 40, .string (sv t), .int .i64 1, .slice (some ⟨g, o, none⟩) 2 c] 24)).alloc (.cells #[.string ⟨#[108, 101, 116, 32]⟩, .string ⟨#[99, 111, 110, 115, 116, 32]⟩] 9)).heap.size = w.heap.size + 2 := by rw [alloc_size, hz1]
 have f1 := xX.cellF c1
 have f2 := xX.cellF c2
 have r0 := cell_alloc (w.alloc (.cells #[.int .i64 40, .string (sv t), .int .i64 1, .slice (some ⟨g, o, none⟩) 2 c] 24)) #[.string ⟨#[108, 101, 116, 32]⟩, .string ⟨#[99, 111, 110, 115, 116, 32]⟩] 9 0 _ rfl
 have r1 := cell_alloc (w.alloc (.cells #[.int .i64 40, .string (sv t), .int .i64 1, .slice (some ⟨g, o, none⟩) 2 c] 24)) #[.string ⟨#[108, 101, 116, 32]⟩, .string ⟨#[99, 111, 110, 115, 116, 32]⟩] 9 1 _ rfl
 rw [hz1] at r0 r1
 have hbY := heap_new ((w.alloc (.cells #[.int .i64 40, .string (sv t), .int .i64 1, .slice (some ⟨g, o, none⟩) 2 c] 24)).alloc (.cells #[.string ⟨#[108, 101, 116, 32]⟩, .string ⟨#[99, 111, 110, 115, 116, 32]⟩] 9)) (.cells #[.string ⟨#[99, 111, 110, 115, 116, 32]⟩, .string (sv t)] 9)
 rw [hz2] at hbY
 have xZ := (xX.of_eq xY).of_eq (Ext.drew (fun _ => False) _)
 have hpZ := hid (hp1.out.keepF xZ)
 have hneZ := hid (show w.heap.size + 2 ≠ pb from by have := hp1.out.lt; rw [hz1] at this; intro e; have h9 := hneQ.out; omega)
 have hput := put_c [[99, 111, 110, 115, 116, 32], t] hpZ.out (vs := #[.string ⟨#[99, 111, 110, 115, 116, 32]⟩, .string (sv t)]) (T := 9) (m := 2) (c := 2) (lo HL.out) rfl rfl hbY hneZ.out (by decide)
 have XZ := hid xZ
 clear hbY hz1 hz2 xX xY xZ hpZ
 go_region_with (go_at_call 67; refine hput.mono ?_; rintro e w67 ⟨rfl, hq, x67⟩)
 all_goals
  have x67' := Px.fxo x67 XZ.out
  replace pp := hid (pp.out.trans x67'); replace hp1 := hid hq; replace HB := hid (x67'.loc HB.out hne (by decide)); replace ⟨c0, c1, c2, c3⟩ := blk4 HB.out; replace ⟨a0, a1, a2, a3⟩ := P4 x67' hpb.out hgB a0 a1 a2 a3; replace ha := hid (ha.out.keepP x67' hpb.out); replace ⟨b0, b1, b2, b3⟩ := P4 x67' hpb.out hgB b0 b1 b2 b3; replace hb := hid (hb.out.keepP x67' hpb.out); replace hd := hid (hd.out.keepP x67' hpb.out); replace hk := hid (hk.out.keepP x67' hpb.out); replace hT := hid (hT.out.keepP x67' hpb.out)
  go_wp2_with (first
   | ((first | (go_at_call 71; refine (typeOr_p ya H1.out hp1.out ha.out (lo HL.out)).mono ?_; rintro e w71 ⟨rfl, hq, z_⟩) | (go_at_call_of 29 (sv yb.t); refine (ihE.at yb HCB.out HEB.out HWB.out 1 (by first | rfl | (simp; done) | omega) hp1.out hb.out (lo HL.out)).mono ?_; rintro e w29b ⟨rfl, hq, z_⟩)) <;> (replace ⟨pp, hp1, HB, c0, c1, c2, c3⟩ := Q5 z_ pp hq HB hne; replace ⟨a0, a1, a2, a3⟩ := P4 z_ hpb.out hgB a0 a1 a2 a3; replace ha := hid (ha.out.keepP z_ hpb.out); replace ⟨b0, b1, b2, b3⟩ := P4 z_ hpb.out hgB b0 b1 b2 b3; replace hb := hid (hb.out.keepP z_ hpb.out); replace ⟨hd, hk, hT⟩ := D3 z_ hpb hd hk hT))
   | (go_at_call 67; refine (pl [[32, 61, 32]] hp1.out (lo HL.out)).mono ?_; rintro e w67 ⟨rfl, hq, x67⟩; replace pp := hid (pp.out.trans x67); replace hp1 := hid hq; replace HB := hid (x67.loc HB.out hne (by decide)); replace ⟨c0, c1, c2, c3⟩ := blk4 HB.out; replace ⟨a0, a1, a2, a3⟩ := P4 x67 hpb.out hgB a0 a1 a2 a3; replace ha := hid (ha.out.keepP x67 hpb.out); replace ⟨b0, b1, b2, b3⟩ := P4 x67 hpb.out hgB b0 b1 b2 b3; replace hb := hid (hb.out.keepP x67 hpb.out); replace hd := hid (hd.out.keepP x67 hpb.out); replace hk := hid (hk.out.keepP x67 hpb.out); replace hT := hid (hT.out.keepP x67 hpb.out))
   | (go_at_call 67; refine (pl [[59]] hp1.out (lo HL.out)).mono ?_; rintro e w67 ⟨rfl, hq, x67⟩; replace pp := hid (pp.out.trans x67); replace hp1 := hid hq; replace HB := hid (x67.loc HB.out hne (by decide)); replace ⟨c0, c1, c2, c3⟩ := blk4 HB.out; replace ⟨a0, a1, a2, a3⟩ := P4 x67 hpb.out hgB a0 a1 a2 a3; replace ha := hid (ha.out.keepP x67 hpb.out); replace ⟨b0, b1, b2, b3⟩ := P4 x67 hpb.out hgB b0 b1 b2 b3; replace hb := hid (hb.out.keepP x67 hpb.out); replace hd := hid (hd.out.keepP x67 hpb.out); replace hk := hid (hk.out.keepP x67 hpb.out); replace hT := hid (hT.out.keepP x67 hpb.out)))
  try simp only [Exit.inBlock, Exit.then]
  refine be rfl rfl ?_
  exact ⟨rfl, hp1.out.cast (by simp), pp.out⟩

theorem p31_41 (t : Bs) (ya yb yd : Tr) (B pb : Nat) (L : List Pc) (w : World) (v : Value) (hp : PrAt B w pb L) (h : NT B w v (.mk 41 t 0 [ya, yb, yd])) (ha1 : isPms false ya = true) (hb1 : isTyOr yb = true) (hm : ∀ y ∈ yd.l, (∀ {L : List Pc} (w : World), PrAt B w pb L → ∀ v, NT B w v y → (L ++ qS y).length ≤ 4398046511104 → Calls Tryz.prog 31 #[.pointer (some ⟨pb, 0, none⟩), v] w (Pts B pb w (L ++ qS y))) ∧ True) : Pn 31 B pb w L v ([wd [102, 117, 110, 99, 116, 105, 111, 110, 32], wd t] ++ (pmsP ya ++ tyOrP yb ++ [wd [32]] ++ (Pc.opn :: (linesG qS yd.l ++ [Pc.shut])))) := by
 intro hl
 have hsv := sv_list
 obtain ⟨p, c, rfl, hks, hkr, hnr, htl, hcp, hkid, hpb, hne, xw, pp, HB, ⟨c0, c1, c2, c3⟩, hd, hk, hT0, hT, hp1⟩ := hS hp h
 have HL := hid hl
 have K := hid hkid
 have hll := hid hcp.2
 have H1 := hid ha1
 have H2 := hid hb1
 have Hu := hid hm
 clear ha1 hb1 hm
 clear h hks hkid hcp hkr hnr hp hl
 simp only [nv, Tr.k, Tr.t, Tr.n, Tr.l, lC, lN, zA, Nat.reduceAdd] at hd hk HB pp c0 c1 c2 c3 ⊢
 clear K
 go_enter Tryz.func31, Tryz.ntmps31
 go_wp2_with ((first | (go_at_call 67; refine (pl [[102, 117, 110, 99, 116, 105, 111, 110, 32], t] hp1.out (lo HL.out)).mono ?_; rintro e w67 ⟨rfl, hq, z_⟩) | (go_at_call 72; refine (body_p ya yb yd hp1.out hk.out hT.out H1.out H2.out Hu.out (lo HL.out)).mono ?_; rintro e w72 ⟨rfl, hq, z_⟩)) <;> (replace ⟨pp, hp1, HB, c0, c1, c2, c3⟩ := Q5 z_ pp hq HB hne; replace ⟨hd, hk, hT⟩ := D3 z_ hpb hd hk hT))
 try simp only [Exit.inBlock, Exit.then]
 refine be rfl rfl ?_
 exact ⟨rfl, hp1.out.cast (by first | (simp; done) | (simp <;> rfl)), pp.out⟩

theorem p31_47 {N : Nat} (ihE : ExprP N) (ya : Tr) (B pb : Nat) (L : List Pc) (w : World) (v : Value) (hp : PrAt B w pb L) (h : NT B w v (.mk 47 [] 0 [ya])) (hca : cnt ya < N) (hea : isE ya = true) (hwa : wt ya ≤ BW) (hlb : LayB ya) : Pn 31 B pb w L v (aloneP ya) := by
 intro hl
 have hsv := sv_list
 obtain ⟨p, c, rfl, hks, hkr, hnr, htl, hcp, hkid, hpb, hne, xw, pp, HB, ⟨c0, c1, c2, c3⟩, hd, hk, hT0, hT, hp1⟩ := hS hp h
 have HL := hid hl
 have K := hid hkid
 have hll := hid hcp.2
 have HCA := hid hca
 have HEA := hid hea
 have HWA := hid hwa
 clear hca hea hwa
 have HLB := hid hlb
 clear hlb
 clear h hks hkid hcp hkr hnr hp hl
 simp only [nv, Tr.k, Tr.t, Tr.n, Tr.l, lC, lN, zA, Nat.reduceAdd] at hd hk HB pp c0 c1 c2 c3 ⊢
 obtain ⟨g, o, s0, rfl, hgB, a0, a1, a2, a3, ha⟩ := K.out 0 (by simp)
 simp only [gZ, gS, zM, oM, aZ, lC, lN, zA, Nat.reduceAdd, Nat.reduceMul] at *
 replace ⟨a0, a1, a2, a3⟩ := F4 xw a0 a1 a2 a3
 replace ha := hid ((NT.mk ha hT0.out).keepF xw)
 simp only [nv] at ha
 obtain ⟨sla, hsa, hksa, _⟩ := id ha.out.node.open
 obtain ⟨pka, cca, hva, _⟩ := hksa.kid
 obtain rfl : s0 = .slice pka ya.l.length cca := by rw [← hva]; simpa [nv] using hsa
 clear hsa hksa hva
 clear K
 go_enter Tryz.func31, Tryz.ntmps31
 go_wp2_with (go_at_call 73; refine (alone_p ihE ya HCA.out HEA.out HWA.out HLB.out hp1.out ha.out (lo HL.out)).mono ?_; rintro e w73 ⟨rfl, hq, z_⟩; replace ⟨pp, hp1, HB, c0, c1, c2, c3⟩ := Q5 z_ pp hq HB hne; replace ⟨a0, a1, a2, a3⟩ := P4 z_ hpb.out hgB a0 a1 a2 a3; replace ha := hid (ha.out.keepP z_ hpb.out); replace ⟨hd, hk, hT⟩ := D3 z_ hpb hd hk hT)
 try simp only [Exit.inBlock, Exit.then]
 refine be rfl rfl ?_
 exact ⟨rfl, hp1.out.cast (by first | (simp; done) | (simp <;> rfl)), pp.out⟩

theorem p31_48_0 {N : Nat} (ihE : ExprP N) (ya yb ye : Tr) (B pb : Nat) (L : List Pc) (w : World) (v : Value) (hp : PrAt B w pb L) (h : NT B w v (.mk 48 [] 0 [ya, yb, ye])) (hca : cnt ya < N) (hea : isE ya = true) (hwa : wt ya ≤ BW) (hmb : ∀ y ∈ yb.l, (∀ {L : List Pc} (w : World), PrAt B w pb L → ∀ v, NT B w v y → (L ++ qS y).length ≤ 4398046511104 → Calls Tryz.prog 31 #[.pointer (some ⟨pb, 0, none⟩), v] w (Pts B pb w (L ++ qS y))) ∧ True) (hme : ∀ y ∈ ye.l, (∀ {L : List Pc} (w : World), PrAt B w pb L → ∀ v, NT B w v y → (L ++ qS y).length ≤ 4398046511104 → Calls Tryz.prog 31 #[.pointer (some ⟨pb, 0, none⟩), v] w (Pts B pb w (L ++ qS y))) ∧ True) (hke : ye.k = 14) : Pn 31 B pb w L v ([wd [105, 102, 32, 40]] ++ qE 1 ya ++ [wd [41, 32]] ++ (Pc.opn :: (linesG qS yb.l ++ [Pc.shut]))) := by
 intro hl
 have hsv := sv_list
 obtain ⟨p, c, rfl, hks, hkr, hnr, htl, hcp, hkid, hpb, hne, xw, pp, HB, ⟨c0, c1, c2, c3⟩, hd, hk, hT0, hT, hp1⟩ := hS hp h
 have HL := hid hl
 have K := hid hkid
 have hll := hid hcp.2
 have HCA := hid hca
 have HEA := hid hea
 have HWA := hid hwa
 clear hca hea hwa
 have HMB := hid hmb
 have HME := hid hme
 clear hmb hme
 have ke : (ye.k != 14) = false := by simpa using hke
 have ke2 := hid hke
 clear hke
 clear h hks hkid hcp hkr hnr hp hl
 simp only [nv, Tr.k, Tr.t, Tr.n, Tr.l, lC, lN, zA, Nat.reduceAdd] at hd hk HB pp c0 c1 c2 c3 ⊢
 obtain ⟨g, o, s0, rfl, hgB, a0, a1, a2, a3, ha⟩ := K.out 0 (by simp)
 obtain ⟨g1, o1, s1, hgo, hgB1, b0, b1, b2, b3, hb⟩ := K.out 1 (by simp)
 simp only [Option.some.injEq, Addr.mk.injEq, and_true] at hgo
 obtain ⟨rfl, rfl⟩ := hgo
 obtain ⟨g2, o2, s2, hgo, hgB2, e0, e1, e2, e3, he⟩ := K.out 2 (by simp)
 simp only [Option.some.injEq, Addr.mk.injEq, and_true] at hgo
 obtain ⟨rfl, rfl⟩ := hgo
 simp only [gZ, gS, zM, oM, aZ, lC, lN, zA, Nat.reduceAdd, Nat.reduceMul] at *
 replace ⟨a0, a1, a2, a3⟩ := F4 xw a0 a1 a2 a3
 replace ha := hid ((NT.mk ha hT0.out).keepF xw)
 simp only [nv] at ha
 obtain ⟨sla, hsa, hksa, _⟩ := id ha.out.node.open
 obtain ⟨pka, cca, hva, _⟩ := hksa.kid
 obtain rfl : s0 = .slice pka ya.l.length cca := by rw [← hva]; simpa [nv] using hsa
 clear hsa hksa hva
 replace ⟨b0, b1, b2, b3⟩ := F4 xw b0 b1 b2 b3
 replace hb := hid ((NT.mk hb hT0.out).keepF xw)
 simp only [nv] at hb
 obtain ⟨slb, hsb, hksb, _⟩ := id hb.out.node.open
 obtain ⟨pkb, ccb, hvb, _⟩ := hksb.kid
 obtain rfl : s1 = .slice pkb yb.l.length ccb := by rw [← hvb]; simpa [nv] using hsb
 clear hsb hksb hvb
 replace ⟨e0, e1, e2, e3⟩ := F4 xw e0 e1 e2 e3
 replace he := hid ((NT.mk he hT0.out).keepF xw)
 simp only [nv] at he
 obtain ⟨sle, hse, hkse, _⟩ := id he.out.node.open
 obtain ⟨pke, cce, hve, _⟩ := hkse.kid
 obtain rfl : s2 = .slice pke ye.l.length cce := by rw [← hve]; simpa [nv] using hse
 clear hse hkse hve
 clear K
 go_enter Tryz.func31, Tryz.ntmps31
 go_wp2_with ((first | (go_at_call 67; (first | refine (pl [[105, 102, 32, 40]] hp1.out (lo HL.out)).mono ?_ | refine (pl [[41, 32]] hp1.out (lo HL.out)).mono ?_); rintro e w67 ⟨rfl, hq, z_⟩) | (go_at_call_of 29 (sv ya.t); refine (ihE.at ya HCA.out HEA.out HWA.out 1 (by first | rfl | (simp; done) | omega) hp1.out ha.out (lo HL.out)).mono ?_; rintro e w29a ⟨rfl, hq, z_⟩) | (go_at_call_of 74 (sv yb.t); refine (block_p yb HMB.out hp1.out hb.out (lo HL.out)).mono ?_; rintro e w74b ⟨rfl, hq, z_⟩)) <;> (replace ⟨pp, hp1, HB, c0, c1, c2, c3⟩ := Q5 z_ pp hq HB hne; replace ⟨a0, a1, a2, a3⟩ := P4 z_ hpb.out hgB a0 a1 a2 a3; replace ha := hid (ha.out.keepP z_ hpb.out); replace ⟨b0, b1, b2, b3⟩ := P4 z_ hpb.out hgB b0 b1 b2 b3; replace hb := hid (hb.out.keepP z_ hpb.out); replace ⟨e0, e1, e2, e3⟩ := P4 z_ hpb.out hgB e0 e1 e2 e3; replace he := hid (he.out.keepP z_ hpb.out); replace ⟨hd, hk, hT⟩ := D3 z_ hpb hd hk hT))
 try simp only [Exit.inBlock, Exit.then]
 refine be rfl rfl ?_
 exact ⟨rfl, hp1.out.cast (by first | (simp; done) | (simp <;> rfl)), pp.out⟩

theorem p31_48_1 {N : Nat} (ihE : ExprP N) (ya yb ye : Tr) (B pb : Nat) (L : List Pc) (w : World) (v : Value) (hp : PrAt B w pb L) (h : NT B w v (.mk 48 [] 0 [ya, yb, ye])) (hca : cnt ya < N) (hea : isE ya = true) (hwa : wt ya ≤ BW) (hmb : ∀ y ∈ yb.l, (∀ {L : List Pc} (w : World), PrAt B w pb L → ∀ v, NT B w v y → (L ++ qS y).length ≤ 4398046511104 → Calls Tryz.prog 31 #[.pointer (some ⟨pb, 0, none⟩), v] w (Pts B pb w (L ++ qS y))) ∧ True) (hme : ∀ y ∈ ye.l, (∀ {L : List Pc} (w : World), PrAt B w pb L → ∀ v, NT B w v y → (L ++ qS y).length ≤ 4398046511104 → Calls Tryz.prog 31 #[.pointer (some ⟨pb, 0, none⟩), v] w (Pts B pb w (L ++ qS y))) ∧ True) (hke : ¬ ye.k = 14) : Pn 31 B pb w L v ([wd [105, 102, 32, 40]] ++ qE 1 ya ++ [wd [41, 32]] ++ (Pc.opn :: (linesG qS yb.l ++ [Pc.shut])) ++ [wd [32, 101, 108, 115, 101, 32]] ++ (Pc.opn :: (linesG qS ye.l ++ [Pc.shut]))) := by
 intro hl
 have hsv := sv_list
 obtain ⟨p, c, rfl, hks, hkr, hnr, htl, hcp, hkid, hpb, hne, xw, pp, HB, ⟨c0, c1, c2, c3⟩, hd, hk, hT0, hT, hp1⟩ := hS hp h
 have HL := hid hl
 have K := hid hkid
 have hll := hid hcp.2
 have HCA := hid hca
 have HEA := hid hea
 have HWA := hid hwa
 clear hca hea hwa
 have HMB := hid hmb
 have HME := hid hme
 clear hmb hme
 have ke : (ye.k != 14) = true := by simpa using hke
 have ke2 := hid hke
 clear hke
 clear h hks hkid hcp hkr hnr hp hl
 simp only [nv, Tr.k, Tr.t, Tr.n, Tr.l, lC, lN, zA, Nat.reduceAdd] at hd hk HB pp c0 c1 c2 c3 ⊢
 obtain ⟨g, o, s0, rfl, hgB, a0, a1, a2, a3, ha⟩ := K.out 0 (by simp)
 obtain ⟨g1, o1, s1, hgo, hgB1, b0, b1, b2, b3, hb⟩ := K.out 1 (by simp)
 simp only [Option.some.injEq, Addr.mk.injEq, and_true] at hgo
 obtain ⟨rfl, rfl⟩ := hgo
 obtain ⟨g2, o2, s2, hgo, hgB2, e0, e1, e2, e3, he⟩ := K.out 2 (by simp)
 simp only [Option.some.injEq, Addr.mk.injEq, and_true] at hgo
 obtain ⟨rfl, rfl⟩ := hgo
 simp only [gZ, gS, zM, oM, aZ, lC, lN, zA, Nat.reduceAdd, Nat.reduceMul] at *
 replace ⟨a0, a1, a2, a3⟩ := F4 xw a0 a1 a2 a3
 replace ha := hid ((NT.mk ha hT0.out).keepF xw)
 simp only [nv] at ha
 obtain ⟨sla, hsa, hksa, _⟩ := id ha.out.node.open
 obtain ⟨pka, cca, hva, _⟩ := hksa.kid
 obtain rfl : s0 = .slice pka ya.l.length cca := by rw [← hva]; simpa [nv] using hsa
 clear hsa hksa hva
 replace ⟨b0, b1, b2, b3⟩ := F4 xw b0 b1 b2 b3
 replace hb := hid ((NT.mk hb hT0.out).keepF xw)
 simp only [nv] at hb
 obtain ⟨slb, hsb, hksb, _⟩ := id hb.out.node.open
 obtain ⟨pkb, ccb, hvb, _⟩ := hksb.kid
 obtain rfl : s1 = .slice pkb yb.l.length ccb := by rw [← hvb]; simpa [nv] using hsb
 clear hsb hksb hvb
 replace ⟨e0, e1, e2, e3⟩ := F4 xw e0 e1 e2 e3
 replace he := hid ((NT.mk he hT0.out).keepF xw)
 simp only [nv] at he
 obtain ⟨sle, hse, hkse, _⟩ := id he.out.node.open
 obtain ⟨pke, cce, hve, _⟩ := hkse.kid
 obtain rfl : s2 = .slice pke ye.l.length cce := by rw [← hve]; simpa [nv] using hse
 clear hse hkse hve
 clear K
 go_enter Tryz.func31, Tryz.ntmps31
 go_wp2_with ((first | (go_at_call 67; (first | refine (pl [[105, 102, 32, 40]] hp1.out (lo HL.out)).mono ?_ | refine (pl [[41, 32]] hp1.out (lo HL.out)).mono ?_ | refine (pl [[32, 101, 108, 115, 101, 32]] hp1.out (lo HL.out)).mono ?_); rintro e w67 ⟨rfl, hq, z_⟩) | (go_at_call_of 29 (sv ya.t); refine (ihE.at ya HCA.out HEA.out HWA.out 1 (by first | rfl | (simp; done) | omega) hp1.out ha.out (lo HL.out)).mono ?_; rintro e w29a ⟨rfl, hq, z_⟩) | (go_at_call_of 74 (sv yb.t); refine (block_p yb HMB.out hp1.out hb.out (lo HL.out)).mono ?_; rintro e w74b ⟨rfl, hq, z_⟩) | (go_at_call_of 74 (sv ye.t); refine (block_p ye HME.out hp1.out he.out (lo HL.out)).mono ?_; rintro e w74e ⟨rfl, hq, z_⟩)) <;> (replace ⟨pp, hp1, HB, c0, c1, c2, c3⟩ := Q5 z_ pp hq HB hne; replace ⟨a0, a1, a2, a3⟩ := P4 z_ hpb.out hgB a0 a1 a2 a3; replace ha := hid (ha.out.keepP z_ hpb.out); replace ⟨b0, b1, b2, b3⟩ := P4 z_ hpb.out hgB b0 b1 b2 b3; replace hb := hid (hb.out.keepP z_ hpb.out); replace ⟨e0, e1, e2, e3⟩ := P4 z_ hpb.out hgB e0 e1 e2 e3; replace he := hid (he.out.keepP z_ hpb.out); replace ⟨hd, hk, hT⟩ := D3 z_ hpb hd hk hT))
 try simp only [Exit.inBlock, Exit.then]
 refine be rfl rfl ?_
 exact ⟨rfl, hp1.out.cast (by first | (simp; done) | (simp <;> rfl)), pp.out⟩

theorem p31_49 {N : Nat} (ihE : ExprP N) (ya yb : Tr) (B pb : Nat) (L : List Pc) (w : World) (v : Value) (hp : PrAt B w pb L) (h : NT B w v (.mk 49 [] 0 [ya, yb])) (hca : cnt ya < N) (hea : isE ya = true) (hwa : wt ya ≤ BW) (hmb : ∀ y ∈ yb.l, (∀ {L : List Pc} (w : World), PrAt B w pb L → ∀ v, NT B w v y → (L ++ qS y).length ≤ 4398046511104 → Calls Tryz.prog 31 #[.pointer (some ⟨pb, 0, none⟩), v] w (Pts B pb w (L ++ qS y))) ∧ True) : Pn 31 B pb w L v ([wd [119, 104, 105, 108, 101, 32, 40]] ++ qE 1 ya ++ [wd [41, 32]] ++ (Pc.opn :: (linesG qS yb.l ++ [Pc.shut]))) := by
 intro hl
 have hsv := sv_list
 obtain ⟨p, c, rfl, hks, hkr, hnr, htl, hcp, hkid, hpb, hne, xw, pp, HB, ⟨c0, c1, c2, c3⟩, hd, hk, hT0, hT, hp1⟩ := hS hp h
 have HL := hid hl
 have K := hid hkid
 have hll := hid hcp.2
 have HCA := hid hca
 have HEA := hid hea
 have HWA := hid hwa
 clear hca hea hwa
 have HMB := hid hmb
 clear hmb
 clear h hks hkid hcp hkr hnr hp hl
 simp only [nv, Tr.k, Tr.t, Tr.n, Tr.l, lC, lN, zA, Nat.reduceAdd] at hd hk HB pp c0 c1 c2 c3 ⊢
 obtain ⟨g, o, s0, rfl, hgB, a0, a1, a2, a3, ha⟩ := K.out 0 (by simp)
 obtain ⟨g1, o1, s1, hgo, hgB1, b0, b1, b2, b3, hb⟩ := K.out 1 (by simp)
 simp only [Option.some.injEq, Addr.mk.injEq, and_true] at hgo
 obtain ⟨rfl, rfl⟩ := hgo
 simp only [gZ, gS, zM, oM, aZ, lC, lN, zA, Nat.reduceAdd, Nat.reduceMul] at *
 replace ⟨a0, a1, a2, a3⟩ := F4 xw a0 a1 a2 a3
 replace ha := hid ((NT.mk ha hT0.out).keepF xw)
 simp only [nv] at ha
 obtain ⟨sla, hsa, hksa, _⟩ := id ha.out.node.open
 obtain ⟨pka, cca, hva, _⟩ := hksa.kid
 obtain rfl : s0 = .slice pka ya.l.length cca := by rw [← hva]; simpa [nv] using hsa
 clear hsa hksa hva
 replace ⟨b0, b1, b2, b3⟩ := F4 xw b0 b1 b2 b3
 replace hb := hid ((NT.mk hb hT0.out).keepF xw)
 simp only [nv] at hb
 obtain ⟨slb, hsb, hksb, _⟩ := id hb.out.node.open
 obtain ⟨pkb, ccb, hvb, _⟩ := hksb.kid
 obtain rfl : s1 = .slice pkb yb.l.length ccb := by rw [← hvb]; simpa [nv] using hsb
 clear hsb hksb hvb
 clear K
 go_enter Tryz.func31, Tryz.ntmps31
 go_wp2_with ((first | (go_at_call 67; (first | refine (pl [[119, 104, 105, 108, 101, 32, 40]] hp1.out (lo HL.out)).mono ?_ | refine (pl [[41, 32]] hp1.out (lo HL.out)).mono ?_); rintro e w67 ⟨rfl, hq, z_⟩) | (go_at_call_of 29 (sv ya.t); refine (ihE.at ya HCA.out HEA.out HWA.out 1 (by first | rfl | (simp; done) | omega) hp1.out ha.out (lo HL.out)).mono ?_; rintro e w29a ⟨rfl, hq, z_⟩) | (go_at_call_of 74 (sv yb.t); refine (block_p yb HMB.out hp1.out hb.out (lo HL.out)).mono ?_; rintro e w74b ⟨rfl, hq, z_⟩)) <;> (replace ⟨pp, hp1, HB, c0, c1, c2, c3⟩ := Q5 z_ pp hq HB hne; replace ⟨a0, a1, a2, a3⟩ := P4 z_ hpb.out hgB a0 a1 a2 a3; replace ha := hid (ha.out.keepP z_ hpb.out); replace ⟨b0, b1, b2, b3⟩ := P4 z_ hpb.out hgB b0 b1 b2 b3; replace hb := hid (hb.out.keepP z_ hpb.out); replace ⟨hd, hk, hT⟩ := D3 z_ hpb hd hk hT))
 try simp only [Exit.inBlock, Exit.then]
 refine be rfl rfl ?_
 exact ⟨rfl, hp1.out.cast (by first | (simp; done) | (simp <;> rfl)), pp.out⟩

theorem p31_50_0 (ya : Tr) (B pb : Nat) (L : List Pc) (w : World) (v : Value) (hp : PrAt B w pb L) (h : NT B w v (.mk 50 [] 0 [ya])) (hke : ya.k = 14) : Pn 31 B pb w L v ([wd [114, 101, 116, 117, 114, 110]] ++ [wd [59]]) := by
 intro hl
 have hsv := sv_list
 obtain ⟨p, c, rfl, hks, hkr, hnr, htl, hcp, hkid, hpb, hne, xw, pp, HB, ⟨c0, c1, c2, c3⟩, hd, hk, hT0, hT, hp1⟩ := hS hp h
 have HL := hid hl
 have K := hid hkid
 have hll := hid hcp.2
 have ke : (ya.k != 14) = false := by simpa using hke
 have ke2 := hid hke
 clear hke
 clear h hks hkid hcp hkr hnr hp hl
 simp only [nv, Tr.k, Tr.t, Tr.n, Tr.l, lC, lN, zA, Nat.reduceAdd] at hd hk HB pp c0 c1 c2 c3 ⊢
 obtain ⟨g, o, s0, rfl, hgB, a0, a1, a2, a3, ha⟩ := K.out 0 (by simp)
 simp only [gZ, gS, zM, oM, aZ, lC, lN, zA, Nat.reduceAdd, Nat.reduceMul] at *
 replace ⟨a0, a1, a2, a3⟩ := F4 xw a0 a1 a2 a3
 replace ha := hid ((NT.mk ha hT0.out).keepF xw)
 simp only [nv] at ha
 obtain ⟨sla, hsa, hksa, _⟩ := id ha.out.node.open
 obtain ⟨pka, cca, hva, _⟩ := hksa.kid
 obtain rfl : s0 = .slice pka ya.l.length cca := by rw [← hva]; simpa [nv] using hsa
 clear hsa hksa hva
 clear K
 go_enter Tryz.func31, Tryz.ntmps31
 go_wp2_with (go_at_call 67; (first | refine (pl [[114, 101, 116, 117, 114, 110]] hp1.out (lo HL.out)).mono ?_ | refine (pl [[59]] hp1.out (lo HL.out)).mono ?_); rintro e w67 ⟨rfl, hq, z_⟩; replace ⟨pp, hp1, HB, c0, c1, c2, c3⟩ := Q5 z_ pp hq HB hne; replace ⟨a0, a1, a2, a3⟩ := P4 z_ hpb.out hgB a0 a1 a2 a3; replace ha := hid (ha.out.keepP z_ hpb.out); replace ⟨hd, hk, hT⟩ := D3 z_ hpb hd hk hT)
 try simp only [Exit.inBlock, Exit.then]
 refine be rfl rfl ?_
 exact ⟨rfl, hp1.out.cast (by first | (simp; done) | (simp <;> rfl)), pp.out⟩

theorem p31_50_1 {N : Nat} (ihE : ExprP N) (ya : Tr) (B pb : Nat) (L : List Pc) (w : World) (v : Value) (hp : PrAt B w pb L) (h : NT B w v (.mk 50 [] 0 [ya])) (hca : cnt ya < N) (hea : isE ya = true) (hwa : wt ya ≤ BW) (hke : ¬ ya.k = 14) : Pn 31 B pb w L v ([wd [114, 101, 116, 117, 114, 110]] ++ [wd [32]] ++ qE 1 ya ++ [wd [59]]) := by
 intro hl
 have hsv := sv_list
 obtain ⟨p, c, rfl, hks, hkr, hnr, htl, hcp, hkid, hpb, hne, xw, pp, HB, ⟨c0, c1, c2, c3⟩, hd, hk, hT0, hT, hp1⟩ := hS hp h
 have HL := hid hl
 have K := hid hkid
 have hll := hid hcp.2
 have HCA := hid hca
 have HEA := hid hea
 have HWA := hid hwa
 clear hca hea hwa
 have ke : (ya.k != 14) = true := by simpa using hke
 have ke2 := hid hke
 clear hke
 clear h hks hkid hcp hkr hnr hp hl
 simp only [nv, Tr.k, Tr.t, Tr.n, Tr.l, lC, lN, zA, Nat.reduceAdd] at hd hk HB pp c0 c1 c2 c3 ⊢
 obtain ⟨g, o, s0, rfl, hgB, a0, a1, a2, a3, ha⟩ := K.out 0 (by simp)
 simp only [gZ, gS, zM, oM, aZ, lC, lN, zA, Nat.reduceAdd, Nat.reduceMul] at *
 replace ⟨a0, a1, a2, a3⟩ := F4 xw a0 a1 a2 a3
 replace ha := hid ((NT.mk ha hT0.out).keepF xw)
 simp only [nv] at ha
 obtain ⟨sla, hsa, hksa, _⟩ := id ha.out.node.open
 obtain ⟨pka, cca, hva, _⟩ := hksa.kid
 obtain rfl : s0 = .slice pka ya.l.length cca := by rw [← hva]; simpa [nv] using hsa
 clear hsa hksa hva
 clear K
 go_enter Tryz.func31, Tryz.ntmps31
 go_wp2_with ((first | (go_at_call 67; (first | refine (pl [[114, 101, 116, 117, 114, 110]] hp1.out (lo HL.out)).mono ?_ | refine (pl [[32]] hp1.out (lo HL.out)).mono ?_ | refine (pl [[59]] hp1.out (lo HL.out)).mono ?_); rintro e w67 ⟨rfl, hq, z_⟩) | (go_at_call_of 29 (sv ya.t); refine (ihE.at ya HCA.out HEA.out HWA.out 1 (by first | rfl | (simp; done) | omega) hp1.out ha.out (lo HL.out)).mono ?_; rintro e w29a ⟨rfl, hq, z_⟩)) <;> (replace ⟨pp, hp1, HB, c0, c1, c2, c3⟩ := Q5 z_ pp hq HB hne; replace ⟨a0, a1, a2, a3⟩ := P4 z_ hpb.out hgB a0 a1 a2 a3; replace ha := hid (ha.out.keepP z_ hpb.out); replace ⟨hd, hk, hT⟩ := D3 z_ hpb hd hk hT))
 try simp only [Exit.inBlock, Exit.then]
 refine be rfl rfl ?_
 exact ⟨rfl, hp1.out.cast (by first | (simp; done) | (simp <;> rfl)), pp.out⟩

theorem p31_51 {N : Nat} (ihE : ExprP N) (ya : Tr) (B pb : Nat) (L : List Pc) (w : World) (v : Value) (hp : PrAt B w pb L) (h : NT B w v (.mk 51 [] 0 [ya])) (hca : cnt ya < N) (hea : isE ya = true) (hwa : wt ya ≤ BW) : Pn 31 B pb w L v ([wd [116, 104, 114, 111, 119, 32]] ++ qE 1 ya ++ [wd [59]]) := by
 intro hl
 have hsv := sv_list
 obtain ⟨p, c, rfl, hks, hkr, hnr, htl, hcp, hkid, hpb, hne, xw, pp, HB, ⟨c0, c1, c2, c3⟩, hd, hk, hT0, hT, hp1⟩ := hS hp h
 have HL := hid hl
 have K := hid hkid
 have hll := hid hcp.2
 have HCA := hid hca
 have HEA := hid hea
 have HWA := hid hwa
 clear hca hea hwa
 clear h hks hkid hcp hkr hnr hp hl
 simp only [nv, Tr.k, Tr.t, Tr.n, Tr.l, lC, lN, zA, Nat.reduceAdd] at hd hk HB pp c0 c1 c2 c3 ⊢
 obtain ⟨g, o, s0, rfl, hgB, a0, a1, a2, a3, ha⟩ := K.out 0 (by simp)
 simp only [gZ, gS, zM, oM, aZ, lC, lN, zA, Nat.reduceAdd, Nat.reduceMul] at *
 replace ⟨a0, a1, a2, a3⟩ := F4 xw a0 a1 a2 a3
 replace ha := hid ((NT.mk ha hT0.out).keepF xw)
 simp only [nv] at ha
 obtain ⟨sla, hsa, hksa, _⟩ := id ha.out.node.open
 obtain ⟨pka, cca, hva, _⟩ := hksa.kid
 obtain rfl : s0 = .slice pka ya.l.length cca := by rw [← hva]; simpa [nv] using hsa
 clear hsa hksa hva
 clear K
 go_enter Tryz.func31, Tryz.ntmps31
 go_wp2_with ((first | (go_at_call 67; (first | refine (pl [[116, 104, 114, 111, 119, 32]] hp1.out (lo HL.out)).mono ?_ | refine (pl [[59]] hp1.out (lo HL.out)).mono ?_); rintro e w67 ⟨rfl, hq, z_⟩) | (go_at_call_of 29 (sv ya.t); refine (ihE.at ya HCA.out HEA.out HWA.out 1 (by first | rfl | (simp; done) | omega) hp1.out ha.out (lo HL.out)).mono ?_; rintro e w29a ⟨rfl, hq, z_⟩)) <;> (replace ⟨pp, hp1, HB, c0, c1, c2, c3⟩ := Q5 z_ pp hq HB hne; replace ⟨a0, a1, a2, a3⟩ := P4 z_ hpb.out hgB a0 a1 a2 a3; replace ha := hid (ha.out.keepP z_ hpb.out); replace ⟨hd, hk, hT⟩ := D3 z_ hpb hd hk hT))
 try simp only [Exit.inBlock, Exit.then]
 refine be rfl rfl ?_
 exact ⟨rfl, hp1.out.cast (by first | (simp; done) | (simp <;> rfl)), pp.out⟩

theorem p31_52 (l : List Tr) (B pb : Nat) (L : List Pc) (w : World) (v : Value) (hp : PrAt B w pb L) (h : NT B w v (.mk 52 [] 0 l)) (hm : ∀ y ∈ l, (∀ {L : List Pc} (w : World), PrAt B w pb L → ∀ v, NT B w v y → (L ++ qS y).length ≤ 4398046511104 → Calls Tryz.prog 31 #[.pointer (some ⟨pb, 0, none⟩), v] w (Pts B pb w (L ++ qS y))) ∧ True) : Pn 31 B pb w L v (Pc.opn :: (linesG qS (Tr.mk 52 [] 0 l).l ++ [Pc.shut])) := by
 intro hl
 have hsv := sv_list
 obtain ⟨p, c, rfl, hks, hkr, hnr, htl, hcp, hkid, hpb, hne, xw, pp, HB, ⟨c0, c1, c2, c3⟩, hd, hk, hT0, hT, hp1⟩ := hS hp h
 have HL := hid hl
 have K := hid hkid
 have hll := hid hcp.2
 have Hu := hid hm
 clear hm
 clear h hks hkid hcp hkr hnr hp hl
 simp only [nv, Tr.k, Tr.t, Tr.n, Tr.l, lC, lN, zA, Nat.reduceAdd] at hd hk HB pp c0 c1 c2 c3 ⊢
 clear K
 go_enter Tryz.func31, Tryz.ntmps31
 go_wp2_with (go_at_call 74; refine (block_p (.mk 52 [] 0 l) Hu.out hp1.out hd.out (lo HL.out)).mono ?_; rintro e w74 ⟨rfl, hq, z_⟩; replace ⟨pp, hp1, HB, c0, c1, c2, c3⟩ := Q5 z_ pp hq HB hne; replace ⟨hd, hk, hT⟩ := D3 z_ hpb hd hk hT)
 try simp only [Exit.inBlock, Exit.then]
 refine be rfl rfl ?_
 exact ⟨rfl, hp1.out.cast (by first | (simp; done) | (simp <;> rfl)), pp.out⟩

end Go.Proofs.YtpmlmpibpmoclaaGreatDoor
