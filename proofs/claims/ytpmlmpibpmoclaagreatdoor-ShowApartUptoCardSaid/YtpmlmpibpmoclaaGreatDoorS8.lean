/-
  The printer on members, names, imports and exports.
-/
import Derived.Test.YtpmlmpibpmoclaaGreatDoorS7
import Derived.Test.YtpmlmpibpmoclaaGreatDoorRd7
namespace Go.Proofs.YtpmlmpibpmoclaaGreatDoor
set_option linter.all false
set_option maxRecDepth 20000
set_option maxHeartbeats 4000000
open Go.RowKit

theorem mem_stmts {l : List Tr} (hw : wts l ≤ BW) (hm : ∀ y ∈ l, isS y = true) (B pb : Nat) : ∀ y ∈ l, (∀ {L : List Pc} (w : World), PrAt B w pb L → ∀ v, NT B w v y → (L ++ qS y).length ≤ 4398046511104 → Calls Tryz.prog 31 #[.pointer (some ⟨pb, 0, none⟩), v] w (Pts B pb w (L ++ qS y))) ∧ True :=
 fun y hy => ⟨fun {L} w hp v h hl => stmt_p y (hm y hy) (Nat.le_trans (wt_mem hy) hw) hp h hl, trivial⟩

theorem mem_43 (t : Bs) (ya yb : Tr) (B pb : Nat) (L : List Pc) (w : World) (v : Value) (hp : PrAt B w pb L) (h : NT B w v (.mk 43 t 0 [ya, yb])) (ha1 : isTyOr ya = true) (heb : isE yb = true) (hwb : wt yb ≤ BW) : Pn 140 B pb w L v ([wd t] ++ tyOrP ya ++ [wd [32, 61, 32]] ++ qE 1 yb ++ [wd [59]]) := by
 intro hl
 have hsv := sv_list
 obtain ⟨p, c, rfl, hks, hkr, hnr, htl, hcp, hkid, hpb, hne, xw, pp, HB, ⟨c0, c1, c2, c3⟩, hd, hk, hT0, hT, hp1⟩ := hS hp h
 have HL := hid hl
 have K := hid hkid
 have hll := hid hcp.2
 have HEB := hid heb
 have HWB := hid hwb
 clear heb hwb
 have H1 := hid ha1
 clear ha1
 clear h hks hkid hcp hkr hnr hp hl
 simp only [nv, Tr.k, Tr.t, Tr.n, Tr.l, lC, lN, zA, Nat.reduceAdd] at hd hk HB pp c0 c1 c2 c3 ⊢
 obtain ⟨g, o, s0, rfl, hgB, a0, a1, a2, a3, ha⟩ := K.out 0 (by simp)
 obtain ⟨g1, o1, s1, hgo, hgB1, b0, b1, b2, b3, hb⟩ := K.out 1 (by simp)
 simp only [Option.some.injEq, Addr.mk.injEq, and_true] at hgo
 obtain ⟨rfl, rfl⟩ := hgo
 simp only [gZ, gS, zM, oM, aZ, lC, lN, zA, Nat.reduceAdd, Nat.reduceMul] at *
 replace ⟨a0, a1, a2, a3⟩ := F4 xw a0 a1 a2 a3
 replace ha := hid ((NT.mk ha hT0.out).keepF xw)
 simp only [nv] at ha
 obtain ⟨sla, hsa, hksa, _⟩ := id ha.out.node.open
 obtain ⟨pka, cca, hva, _⟩ := hksa.kid
 obtain rfl : s0 = .slice pka ya.l.length cca := by rw [← hva]; simpa [nv] using hsa
 clear hsa hksa hva
 replace ⟨b0, b1, b2, b3⟩ := F4 xw b0 b1 b2 b3
 replace hb := hid ((NT.mk hb hT0.out).keepF xw)
 simp only [nv] at hb
 obtain ⟨slb, hsb, hksb, _⟩ := id hb.out.node.open
 obtain ⟨pkb, ccb, hvb, _⟩ := hksb.kid
 obtain rfl : s1 = .slice pkb yb.l.length ccb := by rw [← hvb]; simpa [nv] using hsb
 clear hsb hksb hvb
 clear K
 go_enter Tryz.func140, Tryz.ntmps140
 go_wp2_with ((first | (go_at_call 67; (first | refine (pl [t] hp1.out (lo HL.out)).mono ?_ | refine (pl [[32, 61, 32]] hp1.out (lo HL.out)).mono ?_ | refine (pl [[59]] hp1.out (lo HL.out)).mono ?_); rintro e w67 ⟨rfl, hq, z_⟩) | (go_at_call_of 71 (sv ya.t); refine (typeOr_p ya H1.out hp1.out ha.out (lo HL.out)).mono ?_; rintro e w71 ⟨rfl, hq, z_⟩) | (go_at_call_of 29 (sv yb.t); refine (expr_p yb HEB.out HWB.out 1 (by first | rfl | (simp; done) | omega) hp1.out hb.out (lo HL.out)).mono ?_; rintro e w29b ⟨rfl, hq, z_⟩)) <;> (replace ⟨pp, hp1, HB, c0, c1, c2, c3⟩ := Q5 z_ pp hq HB hne; replace ⟨a0, a1, a2, a3⟩ := P4 z_ hpb.out hgB a0 a1 a2 a3; replace ha := hid (ha.out.keepP z_ hpb.out); replace ⟨b0, b1, b2, b3⟩ := P4 z_ hpb.out hgB b0 b1 b2 b3; replace hb := hid (hb.out.keepP z_ hpb.out); replace ⟨hd, hk, hT⟩ := D3 z_ hpb hd hk hT))
 try simp only [Exit.inBlock, Exit.then]
 refine be rfl rfl ?_
 exact ⟨rfl, hp1.out.cast (by first | (simp; done) | (simp <;> rfl)), pp.out⟩

theorem mem_44 (ya yb : Tr) (B pb : Nat) (L : List Pc) (w : World) (v : Value) (hp : PrAt B w pb L) (h : NT B w v (.mk 44 [] 0 [ya, yb])) (ha1 : isPms false ya = true) (hmb : ∀ y ∈ yb.l, (∀ {L : List Pc} (w : World), PrAt B w pb L → ∀ v, NT B w v y → (L ++ qS y).length ≤ 4398046511104 → Calls Tryz.prog 31 #[.pointer (some ⟨pb, 0, none⟩), v] w (Pts B pb w (L ++ qS y))) ∧ True) : Pn 140 B pb w L v ([wd [99, 111, 110, 115, 116, 114, 117, 99, 116, 111, 114]] ++ pmsP ya ++ [wd [32]] ++ (Pc.opn :: (linesG qS yb.l ++ [Pc.shut]))) := by
 intro hl
 have hsv := sv_list
 obtain ⟨p, c, rfl, hks, hkr, hnr, htl, hcp, hkid, hpb, hne, xw, pp, HB, ⟨c0, c1, c2, c3⟩, hd, hk, hT0, hT, hp1⟩ := hS hp h
 have HL := hid hl
 have K := hid hkid
 have hll := hid hcp.2
 have HMB := hid hmb
 clear hmb
 have H1 := hid ha1
 clear ha1
 clear h hks hkid hcp hkr hnr hp hl
 simp only [nv, Tr.k, Tr.t, Tr.n, Tr.l, lC, lN, zA, Nat.reduceAdd] at hd hk HB pp c0 c1 c2 c3 ⊢
 obtain ⟨g, o, s0, rfl, hgB, a0, a1, a2, a3, ha⟩ := K.out 0 (by simp)
 obtain ⟨g1, o1, s1, hgo, hgB1, b0, b1, b2, b3, hb⟩ := K.out 1 (by simp)
 simp only [Option.some.injEq, Addr.mk.injEq, and_true] at hgo
 obtain ⟨rfl, rfl⟩ := hgo
 simp only [gZ, gS, zM, oM, aZ, lC, lN, zA, Nat.reduceAdd, Nat.reduceMul] at *
 replace ⟨a0, a1, a2, a3⟩ := F4 xw a0 a1 a2 a3
 replace ha := hid ((NT.mk ha hT0.out).keepF xw)
 simp only [nv] at ha
 obtain ⟨sla, hsa, hksa, _⟩ := id ha.out.node.open
 obtain ⟨pka, cca, hva, _⟩ := hksa.kid
 obtain rfl : s0 = .slice pka ya.l.length cca := by rw [← hva]; simpa [nv] using hsa
 clear hsa hksa hva
 replace ⟨b0, b1, b2, b3⟩ := F4 xw b0 b1 b2 b3
 replace hb := hid ((NT.mk hb hT0.out).keepF xw)
 simp only [nv] at hb
 obtain ⟨slb, hsb, hksb, _⟩ := id hb.out.node.open
 obtain ⟨pkb, ccb, hvb, _⟩ := hksb.kid
 obtain rfl : s1 = .slice pkb yb.l.length ccb := by rw [← hvb]; simpa [nv] using hsb
 clear hsb hksb hvb
 clear K
 go_enter Tryz.func140, Tryz.ntmps140
 go_wp2_with ((first | (go_at_call 67; (first | refine (pl [[99, 111, 110, 115, 116, 114, 117, 99, 116, 111, 114]] hp1.out (lo HL.out)).mono ?_ | refine (pl [[32]] hp1.out (lo HL.out)).mono ?_); rintro e w67 ⟨rfl, hq, z_⟩) | (go_at_call 70; refine (pms_p false ya H1.out hp1.out ha.out (lo HL.out)).mono ?_; rintro e w70 ⟨rfl, hq, z_⟩) | (go_at_call_of 74 (sv yb.t); refine (block_p yb HMB.out hp1.out hb.out (lo HL.out)).mono ?_; rintro e w74b ⟨rfl, hq, z_⟩)) <;> (replace ⟨pp, hp1, HB, c0, c1, c2, c3⟩ := Q5 z_ pp hq HB hne; replace ⟨a0, a1, a2, a3⟩ := P4 z_ hpb.out hgB a0 a1 a2 a3; replace ha := hid (ha.out.keepP z_ hpb.out); replace ⟨b0, b1, b2, b3⟩ := P4 z_ hpb.out hgB b0 b1 b2 b3; replace hb := hid (hb.out.keepP z_ hpb.out); replace ⟨hd, hk, hT⟩ := D3 z_ hpb hd hk hT))
 try simp only [Exit.inBlock, Exit.then]
 refine be rfl rfl ?_
 exact ⟨rfl, hp1.out.cast (by first | (simp; done) | (simp <;> rfl)), pp.out⟩

theorem mem_45 (t : Bs) (ya yb yd : Tr) (B pb : Nat) (L : List Pc) (w : World) (v : Value) (hp : PrAt B w pb L) (h : NT B w v (.mk 45 t 0 [ya, yb, yd])) (ha1 : isPms false ya = true) (hb1 : isTyOr yb = true) (hm : ∀ y ∈ yd.l, (∀ {L : List Pc} (w : World), PrAt B w pb L → ∀ v, NT B w v y → (L ++ qS y).length ≤ 4398046511104 → Calls Tryz.prog 31 #[.pointer (some ⟨pb, 0, none⟩), v] w (Pts B pb w (L ++ qS y))) ∧ True) : Pn 140 B pb w L v ([wd t] ++ (pmsP ya ++ tyOrP yb ++ [wd [32]] ++ (Pc.opn :: (linesG qS yd.l ++ [Pc.shut])))) := by
 intro hl
 have hsv := sv_list
 obtain ⟨p, c, rfl, hks, hkr, hnr, htl, hcp, hkid, hpb, hne, xw, pp, HB, ⟨c0, c1, c2, c3⟩, hd, hk, hT0, hT, hp1⟩ := hS hp h
 have HL := hid hl
 have K := hid hkid
 have hll := hid hcp.2
 have H1 := hid ha1
 have H2 := hid hb1
 have Hu := hid hm
 clear ha1 hb1 hm
 clear h hks hkid hcp hkr hnr hp hl
 simp only [nv, Tr.k, Tr.t, Tr.n, Tr.l, lC, lN, zA, Nat.reduceAdd] at hd hk HB pp c0 c1 c2 c3 ⊢
 clear K
 go_enter Tryz.func140, Tryz.ntmps140
 go_wp2_with ((first | (go_at_call 67; refine (pl [t] hp1.out (lo HL.out)).mono ?_; rintro e w67 ⟨rfl, hq, z_⟩) | (go_at_call 72; refine (body_p ya yb yd hp1.out hk.out hT.out H1.out H2.out Hu.out (lo HL.out)).mono ?_; rintro e w72 ⟨rfl, hq, z_⟩)) <;> (replace ⟨pp, hp1, HB, c0, c1, c2, c3⟩ := Q5 z_ pp hq HB hne; replace ⟨hd, hk, hT⟩ := D3 z_ hpb hd hk hT))
 try simp only [Exit.inBlock, Exit.then]
 refine be rfl rfl ?_
 exact ⟨rfl, hp1.out.cast (by first | (simp; done) | (simp <;> rfl)), pp.out⟩

theorem mem_p (x : Tr) (hx : CM x) (hw : wt x ≤ BW) {B pb : Nat} {L : List Pc} {w : World} {v : Value} (hp : PrAt B w pb L) (h : NT B w v x) : Pn 140 B pb w L v (qM x) := by
 intro hl
 cases hx with
 | field t ty x h1 h2 h3 =>
  have e : qM (.mk 43 t 0 [ty, x]) = [wd t] ++ tyOrP ty ++ [wd [32, 61, 32]] ++ qE 1 x ++ [wd [59]] := by simp [qM, Tr.k, Tr.l, Tr.t]
  rw [e] at hl ⊢
  exact mem_43 t ty x B pb L w v hp h h2 h3 (by simp only [wt, wts] at hw; omega) hl
 | ctor p bl h1 h2 =>
  have e : qM (.mk 44 [] 0 [p, .mk 52 [] 0 bl]) = [wd [99, 111, 110, 115, 116, 114, 117, 99, 116, 111, 114]] ++ pmsP p ++ [wd [32]] ++ (Pc.opn :: (linesG qS (Tr.mk 52 [] 0 bl).l ++ [Pc.shut])) := by simp [qM, Tr.k, Tr.l, Tr.t, blkP, linesP_G]
  rw [e] at hl ⊢
  exact mem_44 p _ B pb L w v hp h h1 (mem_stmts (l := (Tr.mk 52 [] 0 bl).l) (by simp only [wt, wts, Tr.l] at hw ⊢; omega) (allS_mem h2) B pb) hl
 | method t p ty bl h0 hn h1 h2 h3 =>
  have e : qM (.mk 45 t 0 [p, ty, .mk 52 [] 0 bl]) = [wd t] ++ (pmsP p ++ tyOrP ty ++ [wd [32]] ++ (Pc.opn :: (linesG qS (Tr.mk 52 [] 0 bl).l ++ [Pc.shut]))) := by simp [qM, Tr.k, Tr.l, Tr.t, bodyP, blkP, linesP_G]
  rw [e] at hl ⊢
  exact mem_45 t p ty _ B pb L w v hp h h1 h2 (mem_stmts (l := (Tr.mk 52 [] 0 bl).l) (by simp only [wt, wts, Tr.l] at hw ⊢; omega) (allS_mem h3) B pb) hl

theorem inside_140 (l : List Tr) {B pb : Nat} {L : List Pc} {w : World} {v : Value} (hp : PrAt B w pb L) (h : KidsAt B w v l) (ht0 : Tabs B w) (hm : ∀ y ∈ l, CM y ∧ wt y ≤ BW) (hl : (L ++ (Pc.opn :: (linesG qM l ++ [Pc.shut]))).length ≤ 4398046511104) : Calls Tryz.prog 139 #[.pointer (some ⟨pb, 0, none⟩), v, .func (.func 140) #[.pointer (some ⟨pb, 0, none⟩)] #[]] w (Pts B pb w (L ++ (Pc.opn :: (linesG qM l ++ [Pc.shut])))) := by
 have hsv := sv_list
 obtain ⟨p, c, rfl, hcp, hkid⟩ := h.kid
 have hpb := hid hp.le
 have xw : Fx w w := Ext.refl _ _
 have pp := hid (Px.refl B pb w)
 have hk := hid True.intro
 have hT0 := hid ht0
 have hT := hid ht0
 have hp1 := hid hp
 have HL := hid hl
 have K := hid hkid
 have hll := hid hcp.2
 have Hu := hid hm
 clear hm
 clear h hkid hcp hp hl ht0
 try simp only [lC, lN, zA, Nat.reduceAdd] at *
 obtain ⟨ii, hi, hz0, hz1, hz2⟩ := info_at info76
 clear hk
 obtain ⟨dv, hdv, hov⟩ := hp1.out.val
 have hpw := hid hp1.out.pow
 obtain ⟨p0, n0, cc0, rfl⟩ : ∃ p n c, dv = .slice p n c := by
  rcases hov.2 with ⟨rfl, _⟩ | ⟨g, cap, cur, rfl, _⟩
  ·exact ⟨_, _, _, rfl⟩
  ·exact ⟨_, _, _, rfl⟩
 have hd0v := cell_one hdv
 have xz : Fx w (w.alloc (.cells #[.iface 79 (.agg #[])] 76)) := Ext.alloc _ _ _
 have hd1 := hid ((xz.block pb (Array.getElem?_eq_some_iff.1 hdv).1 id).trans hdv)
 have ho1 := hid (own_keepF hov xz)
 have hcn := cell_alloc w #[.iface 79 (.agg #[])] 76 0 _ rfl
 have hbs : B ≤ (w.alloc (.cells #[.iface 79 (.agg #[])] 76)).heap.size := by have := hpb.out; have := hp1.out.lt; rw [alloc_size]; omega
 have hlen0 := hid (show (L).length ≤ 4398046511104 from (lo HL.out))
 clear hdv hov
 go_enter Tryz.func139, Tryz.ntmps139
 go_wp2_with (at_builtin; refine wpList_append_pc rfl (.tmp 12) (.tmp 15) 41 rfl B ii _ Tryz.underlying41 hi hz0 hz1 hz2 rfl _ (L) _ 1 .opn rfl rfl ho1.out hcn hlen0.out hbs ?_; intro p7 n7 c7 w7 hown7 hg7; obtain ⟨⟨g1, g2⟩, g3, g4⟩ := px_grown hpb.out hd1.out ho1.out hg7 hown7 (hpw.out.keepF xz); replace g3 := hid g3; replace hown7 := hid hown7; have gx := Px.trans (Px.of (B := B) (pb := pb) xz) g4; clear g4; replace pp := hid (pp.out.trans gx); replace hp1 := hid g3.out; replace hT := hid (hT.out.keepP gx hpb.out))
 have pp0 := hid pp.out
 have hpL := hid hp1.out
 clear g1 g2 gx hd0v hcn hbs hd1 ho1 hlen0 hown7 g3 hp1 pp hpw hT
 go_loopw [21] (fun i wr => ∃ j : Nat, j ≤ l.length ∧ i = .int .i64 j ∧ Hid (PrAt B wr pb (L ++ [Pc.opn] ++ linesG qM (l.take j))) ∧ Hid (Px B pb w wr)) (fun i _ => l.length - (intOf i).toNat)
 case atStart => exact ⟨0, Nat.zero_le _, rfl, hid (hpL.out.cast (by simp [linesG])), pp0⟩
 case round =>
  obtain ⟨j, hj, rfl, hpr, hpx⟩ := hrel
  have hj4 : (j : Int) ≤ 4398046511104 := by have := hll.out; omega
  clear pp0 hpL
  by_cases hlt : j < l.length
  ·obtain ⟨hs1, hs2⟩ := linesG_split (f := qM) hlt
   have hLj := HL.out
   rw [hs1] at hLj
   clear hs1
   obtain ⟨g, o, s, rfl, hgB, e0, e1, e2, e3, hy⟩ := K.out j hlt
   have Hm := hid (Hu.out l[j] (List.getElem_mem hlt))
   have Hcy := hid (cnt_mem (List.getElem_mem hlt))
   generalize l[j] = y at *
   obtain ⟨sl', hs', hks', _⟩ := id hy.open
   obtain rfl : s = sl' := by simpa [nv] using hs'
   clear hs'
   obtain ⟨p', c', rfl, _⟩ := hks'.kid
   clear hks'
   replace ⟨e0, e1, e2, e3⟩ := P4 hpx.out hpb.out hgB e0 e1 e2 e3
   have xa : Fx wr (wr.alloc (.cells #[.int .i64 y.k, .string (sv y.t), .int .i64 y.n, .slice p' y.l.length c'] 24)) := Ext.alloc _ _ _
   have hneC : wr.heap.size ≠ pb := by have := hpr.out.lt; omega
   have HC := hid (heap_new wr (.cells #[.int .i64 y.k, .string (sv y.t), .int .i64 y.n, .slice p' y.l.length c'] 24))
   obtain ⟨d0, d1, d2, d3⟩ := nd_cells wr y.k y.n (sv y.t) (.slice p' y.l.length c')
   have hdy := hid (((NT.mk hy hT0.out).keepP hpx.out hpb.out).keepF xa)
   have hT := hid ((hT0.out.keepP hpx.out hpb.out).keepF xa)
   have hp1 := hid (hpr.out.keepF xa)
   have pp := hid (hpx.out.fx xa)
   simp only [nv] at hdy
   clear hy hpr hpx
   replace hs2 := hid hs2
   have HLj := hid hLj
   clear hLj
   obtain ⟨dv, hdv, hov⟩ := hp1.out.val
   have hpw := hid hp1.out.pow
   obtain ⟨p0, n0, cc0, rfl⟩ : ∃ p n c, dv = .slice p n c := by
    rcases hov.2 with ⟨rfl, _⟩ | ⟨g, cap, cur, rfl, _⟩
    ·exact ⟨_, _, _, rfl⟩
    ·exact ⟨_, _, _, rfl⟩
   have hd0v := cell_one hdv
   have xz : Fx (wr.alloc (.cells #[.int .i64 y.k, .string (sv y.t), .int .i64 y.n, .slice p' y.l.length c'] 24)) ((wr.alloc (.cells #[.int .i64 y.k, .string (sv y.t), .int .i64 y.n, .slice p' y.l.length c'] 24)).alloc (.cells #[.iface 80 (.agg #[])] 76)) := Ext.alloc _ _ _
   have hd1 := hid ((xz.block pb (Array.getElem?_eq_some_iff.1 hdv).1 id).trans hdv)
   have ho1 := hid (own_keepF hov xz)
   have hcn := cell_alloc (wr.alloc (.cells #[.int .i64 y.k, .string (sv y.t), .int .i64 y.n, .slice p' y.l.length c'] 24)) #[.iface 80 (.agg #[])] 76 0 _ rfl
   have hbs : B ≤ ((wr.alloc (.cells #[.int .i64 y.k, .string (sv y.t), .int .i64 y.n, .slice p' y.l.length c'] 24)).alloc (.cells #[.iface 80 (.agg #[])] 76)).heap.size := by have := hpb.out; have := hp1.out.lt; rw [alloc_size]; omega
   have hlen0 := hid (show (L ++ [Pc.opn] ++ linesG qM (l.take j)).length ≤ 4398046511104 from (lo HLj.out))
   clear hdv hov
   rw [alloc_size] at hcn
   go_wp2_with (first
    | (at_builtin; refine wpList_append_pc rfl (.tmp 29) (.tmp 32) 41 rfl B ii _ Tryz.underlying41 hi hz0 hz1 hz2 rfl _ (L ++ [Pc.opn] ++ linesG qM (l.take j)) _ 1 .line rfl rfl ho1.out hcn hlen0.out hbs ?_; intro p7 n7 c7 w7 hown7 hg7; obtain ⟨⟨g1, g2⟩, g3, g4⟩ := px_grown hpb.out hd1.out ho1.out hg7 hown7 (hpw.out.keepF xz); replace g3 := hid g3; replace hown7 := hid hown7; have gx := Px.trans (Px.of (B := B) (pb := pb) xz) g4; clear g4; replace pp := hid (pp.out.trans gx); replace hp1 := hid g3.out; replace HC := hid (gx.loc HC.out hneC (by decide)); replace ⟨d0, d1, d2, d3⟩ := blk4 HC.out; replace hdy := hid (hdy.out.keepP gx hpb.out); replace hT := hid (hT.out.keepP gx hpb.out))
    | (go_at_call 140; refine (mem_p y Hm.out.1 Hm.out.2 hp1.out hdy.out (lo HLj.out)).mono ?_; rintro e w140 ⟨rfl, hq, z_⟩; replace pp := hid (pp.out.trans z_); replace hp1 := hid hq; replace HC := hid (z_.loc HC.out hneC (by decide)); replace ⟨d0, d1, d2, d3⟩ := blk4 HC.out; replace hdy := hid (hdy.out.keepP z_ hpb.out); replace hT := hid (hT.out.keepP z_ hpb.out)))
   go_roundw
   case rel => exact ⟨j + 1, by omega, by go_num, hid (hp1.out.cast (by rw [hs2.out]; simp)), hid pp.out⟩
   case measure => simp [intOf]; omega
  ·have hp1 := hid (hpr.out.cast (show _ = L ++ [Pc.opn] ++ linesG qM l by rw [List.take_of_length_le (by omega)]))
   have pp := hid hpx.out
   have hT := hid (hT0.out.keepP hpx.out hpb.out)
   clear hpr hpx
   obtain ⟨dv, hdv, hov⟩ := hp1.out.val
   have hpw := hid hp1.out.pow
   obtain ⟨p0, n0, cc0, rfl⟩ : ∃ p n c, dv = .slice p n c := by
    rcases hov.2 with ⟨rfl, _⟩ | ⟨g, cap, cur, rfl, _⟩
    ·exact ⟨_, _, _, rfl⟩
    ·exact ⟨_, _, _, rfl⟩
   have hd0v := cell_one hdv
   have xz : Fx wr (wr.alloc (.cells #[.iface 82 (.agg #[])] 76)) := Ext.alloc _ _ _
   have hd1 := hid ((xz.block pb (Array.getElem?_eq_some_iff.1 hdv).1 id).trans hdv)
   have ho1 := hid (own_keepF hov xz)
   have hcn := cell_alloc wr #[.iface 82 (.agg #[])] 76 0 _ rfl
   have hbs : B ≤ (wr.alloc (.cells #[.iface 82 (.agg #[])] 76)).heap.size := by have := hpb.out; have := hp1.out.lt; rw [alloc_size]; omega
   have hlen0 := hid (show (L ++ [Pc.opn] ++ linesG qM l).length ≤ 4398046511104 from (lo HL.out))
   clear hdv hov
   go_wp2_with (at_builtin; refine wpList_append_pc rfl (.tmp 44) (.tmp 47) 41 rfl B ii _ Tryz.underlying41 hi hz0 hz1 hz2 rfl _ (L ++ [Pc.opn] ++ linesG qM l) _ 1 .shut rfl rfl ho1.out hcn hlen0.out hbs ?_; intro p7 n7 c7 w7 hown7 hg7; obtain ⟨⟨g1, g2⟩, g3, g4⟩ := px_grown hpb.out hd1.out ho1.out hg7 hown7 (hpw.out.keepF xz); replace g3 := hid g3; replace hown7 := hid hown7; have gx := Px.trans (Px.of (B := B) (pb := pb) xz) g4; clear g4; replace pp := hid (pp.out.trans gx); replace hp1 := hid g3.out; replace hT := hid (hT.out.keepP gx hpb.out))
   try simp only [Exit.inBlock, Exit.then]
   refine be rfl rfl ?_
   exact ⟨rfl, hp1.out.cast (by simp), pp.out⟩

theorem space_l (t : Bs) (ya : Tr) (B pb : Nat) (L : List Pc) (w : World) (v : Value) (hp : PrAt B w pb L) (h : NT B w v (.mk 67 t 0 [ya])) (bb : Nat) (hX : w.heap[bb]? = some (.cells #[.pointer (some ⟨pb, 0, none⟩)] 40 (0, 0))) (hl : (L ++ ([wd t, wd [32, 61, 32], wd ya.t, wd [59]])).length ≤ 4398046511104) : Calls Tryz.prog 143 #[v, .pointer (some ⟨bb, 0, none⟩)] w (Pts B pb w (L ++ ([wd t, wd [32, 61, 32], wd ya.t, wd [59]]))) := by
 have hsv := sv_list
 obtain ⟨p, c, rfl, hks, hkr, hnr, htl, hcp, hkid, hpb, hne, xw, pp, HB, ⟨c0, c1, c2, c3⟩, hd, hk, hT0, hT, hp1⟩ := hS hp h
 have HL := hid hl
 have K := hid hkid
 have hll := hid hcp.2
 have b0 := xw.cellF (cell_one hX)
 have hneQ := hid (show pb < w.heap.size from hp.lt)
 clear hX
 clear h hks hkid hcp hkr hnr hp hl
 simp only [nv, Tr.k, Tr.t, Tr.n, Tr.l, lC, lN, zA, Nat.reduceAdd] at hd hk HB pp c0 c1 c2 c3 ⊢
 obtain ⟨g, o, s0, rfl, hgB, a0, a1, a2, a3, ha⟩ := K.out 0 (by simp)
 simp only [gZ, gS, zM, oM, aZ, lC, lN, zA, Nat.reduceAdd, Nat.reduceMul] at *
 replace ⟨a0, a1, a2, a3⟩ := F4 xw a0 a1 a2 a3
 replace ha := hid ((NT.mk ha hT0.out).keepF xw)
 simp only [nv] at ha
 obtain ⟨sla, hsa, hksa, _⟩ := id ha.out.node.open
 obtain ⟨pka, cca, hva, _⟩ := hksa.kid
 obtain rfl : s0 = .slice pka ya.l.length cca := by rw [← hva]; simpa [nv] using hsa
 clear hsa hksa hva
 clear K
 go_enter Tryz.func143, Tryz.ntmps143
 go_wp2
 have xX : Fx (w.alloc (.cells #[.int .i64 67, .string (sv t), .int .i64 0, .slice (some ⟨g, o, none⟩) 1 c] 24)) ((w.alloc (.cells #[.int .i64 67, .string (sv t), .int .i64 0, .slice (some ⟨g, o, none⟩) 1 c] 24)).alloc (.cells #[.string (sv t), .string ⟨#[32, 61, 32]⟩, .string (sv ya.t), .string ⟨#[59]⟩] 9)) := Ext.alloc _ _ _
 have hz1 : (w.alloc (.cells #[.int .i64 67, .string (sv t), .int .i64 0, .slice (some ⟨g, o, none⟩) 1 c] 24)).heap.size = w.heap.size + 1 := alloc_size _ _
 have f0 := xX.cellF b0
 have hbX := heap_new (w.alloc (.cells #[.int .i64 67, .string (sv t), .int .i64 0, .slice (some ⟨g, o, none⟩) 1 c] 24)) (.cells #[.string (sv t), .string ⟨#[32, 61, 32]⟩, .string (sv ya.t), .string ⟨#[59]⟩] 9)
 rw [hz1] at hbX
 have xZ := xX.of_eq (Ext.drew (fun _ => False) _)
 have hpZ := hid (hp1.out.keepF xZ)
 have hneZ := hid (show w.heap.size + 1 ≠ pb from by intro e; have h9 := hneQ.out; omega)
 have hput := put_c [t, [32, 61, 32], ya.t, [59]] hpZ.out (vs := #[.string (sv t), .string ⟨#[32, 61, 32]⟩, .string (sv ya.t), .string ⟨#[59]⟩]) (T := 9) (m := 4) (c := 4) (lo HL.out) rfl rfl hbX hneZ.out (by decide)
 have XZ := hid xZ
 clear hbX hz1 xX xZ hpZ
 go_region_with (go_at_call 67; refine hput.mono ?_; rintro e w67 ⟨rfl, hq, x67⟩)
 all_goals
  have x67' := Px.fxo x67 XZ.out
  replace pp := hid (pp.out.trans x67'); replace hp1 := hid hq; replace hd := hid (hd.out.keepP x67' hpb.out); replace hk := hid (hk.out.keepP x67' hpb.out); replace hT := hid (hT.out.keepP x67' hpb.out)
  go_wp2
  try simp only [Exit.inBlock, Exit.then]
  refine be rfl rfl ?_
  exact ⟨rfl, hp1.out.cast (by rfl), pp.out⟩

theorem space_p (y : Tr) (hy : ∃ t z, y = .mk 67 t 0 [z]) {bb B pb : Nat} {L : List Pc} {w : World} {v : Value} (hp : PrAt B w pb L) (h : NT B w v y) (hX : w.heap[bb]? = some (.cells #[.pointer (some ⟨pb, 0, none⟩)] 40 (0, 0))) (hl : (L ++ qN y).length ≤ 4398046511104) : Calls Tryz.prog 143 #[v, .pointer (some ⟨bb, 0, none⟩)] w (Pts B pb w (L ++ qN y)) := by
 obtain ⟨t, z, rfl⟩ := hy
 exact space_l t z B pb L w v hp h bb hX hl

theorem inside_143 (l : List Tr) {B pb : Nat} {L : List Pc} {w : World} {v : Value} (hp : PrAt B w pb L) (h : KidsAt B w v l) (ht0 : Tabs B w) (hm : ∀ y ∈ l, ∃ t z, y = .mk 67 t 0 [z]) (bb : Nat) (hX : w.heap[bb]? = some (.cells #[.pointer (some ⟨pb, 0, none⟩)] 40 (0, 0))) (hbx0 : bb ≠ pb) (hl : (L ++ (Pc.opn :: (linesG qN l ++ [Pc.shut]))).length ≤ 4398046511104) : Calls Tryz.prog 139 #[.pointer (some ⟨pb, 0, none⟩), v, .func (.func 143) #[] #[.pointer (some ⟨bb, 0, none⟩)]] w (Pts B pb w (L ++ (Pc.opn :: (linesG qN l ++ [Pc.shut])))) := by
 have hsv := sv_list
 obtain ⟨p, c, rfl, hcp, hkid⟩ := h.kid
 have hpb := hid hp.le
 have xw : Fx w w := Ext.refl _ _
 have pp := hid (Px.refl B pb w)
 have hk := hid True.intro
 have hT0 := hid ht0
 have hT := hid ht0
 have hp1 := hid hp
 have HL := hid hl
 have K := hid hkid
 have hll := hid hcp.2
 have Hu := hid hm
 have HX := hid hX
 have hbx := hid hbx0
 clear hm hX hbx0
 clear h hkid hcp hp hl ht0
 try simp only [lC, lN, zA, Nat.reduceAdd] at *
 obtain ⟨ii, hi, hz0, hz1, hz2⟩ := info_at info76
 clear hk
 obtain ⟨dv, hdv, hov⟩ := hp1.out.val
 have hpw := hid hp1.out.pow
 obtain ⟨p0, n0, cc0, rfl⟩ : ∃ p n c, dv = .slice p n c := by
  rcases hov.2 with ⟨rfl, _⟩ | ⟨g, cap, cur, rfl, _⟩
  ·exact ⟨_, _, _, rfl⟩
  ·exact ⟨_, _, _, rfl⟩
 have hd0v := cell_one hdv
 have xz : Fx w (w.alloc (.cells #[.iface 79 (.agg #[])] 76)) := Ext.alloc _ _ _
 have hd1 := hid ((xz.block pb (Array.getElem?_eq_some_iff.1 hdv).1 id).trans hdv)
 have ho1 := hid (own_keepF hov xz)
 have hcn := cell_alloc w #[.iface 79 (.agg #[])] 76 0 _ rfl
 have hbs : B ≤ (w.alloc (.cells #[.iface 79 (.agg #[])] 76)).heap.size := by have := hpb.out; have := hp1.out.lt; rw [alloc_size]; omega
 have hlen0 := hid (show (L).length ≤ 4398046511104 from (lo HL.out))
 clear hdv hov
 go_enter Tryz.func139, Tryz.ntmps139
 go_wp2_with (at_builtin; refine wpList_append_pc rfl (.tmp 12) (.tmp 15) 41 rfl B ii _ Tryz.underlying41 hi hz0 hz1 hz2 rfl _ (L) _ 1 .opn rfl rfl ho1.out hcn hlen0.out hbs ?_; intro p7 n7 c7 w7 hown7 hg7; obtain ⟨⟨g1, g2⟩, g3, g4⟩ := px_grown hpb.out hd1.out ho1.out hg7 hown7 (hpw.out.keepF xz); replace g3 := hid g3; replace hown7 := hid hown7; have gx := Px.trans (Px.of (B := B) (pb := pb) xz) g4; clear g4; replace pp := hid (pp.out.trans gx); replace hp1 := hid g3.out; replace hT := hid (hT.out.keepP gx hpb.out))
 have pp0 := hid pp.out
 have hpL := hid hp1.out
 clear g1 g2 gx hd0v hcn hbs hd1 ho1 hlen0 hown7 g3 hp1 pp hpw hT
 go_loopw [21] (fun i wr => ∃ j : Nat, j ≤ l.length ∧ i = .int .i64 j ∧ Hid (PrAt B wr pb (L ++ [Pc.opn] ++ linesG qN (l.take j))) ∧ Hid (Px B pb w wr)) (fun i _ => l.length - (intOf i).toNat)
 case atStart => exact ⟨0, Nat.zero_le _, rfl, hid (hpL.out.cast (by simp [linesG])), pp0⟩
 case round =>
  obtain ⟨j, hj, rfl, hpr, hpx⟩ := hrel
  have hj4 : (j : Int) ≤ 4398046511104 := by have := hll.out; omega
  clear pp0 hpL
  by_cases hlt : j < l.length
  ·obtain ⟨hs1, hs2⟩ := linesG_split (f := qN) hlt
   have hLj := HL.out
   rw [hs1] at hLj
   clear hs1
   obtain ⟨g, o, s, rfl, hgB, e0, e1, e2, e3, hy⟩ := K.out j hlt
   have Hm := hid (Hu.out l[j] (List.getElem_mem hlt))
   have Hcy := hid (cnt_mem (List.getElem_mem hlt))
   generalize l[j] = y at *
   obtain ⟨sl', hs', hks', _⟩ := id hy.open
   obtain rfl : s = sl' := by simpa [nv] using hs'
   clear hs'
   obtain ⟨p', c', rfl, _⟩ := hks'.kid
   clear hks'
   replace ⟨e0, e1, e2, e3⟩ := P4 hpx.out hpb.out hgB e0 e1 e2 e3
   have xa : Fx wr (wr.alloc (.cells #[.int .i64 y.k, .string (sv y.t), .int .i64 y.n, .slice p' y.l.length c'] 24)) := Ext.alloc _ _ _
   have hneC : wr.heap.size ≠ pb := by have := hpr.out.lt; omega
   have HC := hid (heap_new wr (.cells #[.int .i64 y.k, .string (sv y.t), .int .i64 y.n, .slice p' y.l.length c'] 24))
   obtain ⟨d0, d1, d2, d3⟩ := nd_cells wr y.k y.n (sv y.t) (.slice p' y.l.length c')
   have hdy := hid (((NT.mk hy hT0.out).keepP hpx.out hpb.out).keepF xa)
   have hT := hid ((hT0.out.keepP hpx.out hpb.out).keepF xa)
   have hp1 := hid (hpr.out.keepF xa)
   have pp := hid (hpx.out.fx xa)
   simp only [nv] at hdy
   clear hy hpr hpx
   replace hs2 := hid hs2
   have HLj := hid hLj
   clear hLj
   obtain ⟨dv, hdv, hov⟩ := hp1.out.val
   have hpw := hid hp1.out.pow
   obtain ⟨p0, n0, cc0, rfl⟩ : ∃ p n c, dv = .slice p n c := by
    rcases hov.2 with ⟨rfl, _⟩ | ⟨g, cap, cur, rfl, _⟩
    ·exact ⟨_, _, _, rfl⟩
    ·exact ⟨_, _, _, rfl⟩
   have hd0v := cell_one hdv
   have xz : Fx (wr.alloc (.cells #[.int .i64 y.k, .string (sv y.t), .int .i64 y.n, .slice p' y.l.length c'] 24)) ((wr.alloc (.cells #[.int .i64 y.k, .string (sv y.t), .int .i64 y.n, .slice p' y.l.length c'] 24)).alloc (.cells #[.iface 80 (.agg #[])] 76)) := Ext.alloc _ _ _
   have hd1 := hid ((xz.block pb (Array.getElem?_eq_some_iff.1 hdv).1 id).trans hdv)
   have ho1 := hid (own_keepF hov xz)
   have hcn := cell_alloc (wr.alloc (.cells #[.int .i64 y.k, .string (sv y.t), .int .i64 y.n, .slice p' y.l.length c'] 24)) #[.iface 80 (.agg #[])] 76 0 _ rfl
   have hbs : B ≤ ((wr.alloc (.cells #[.int .i64 y.k, .string (sv y.t), .int .i64 y.n, .slice p' y.l.length c'] 24)).alloc (.cells #[.iface 80 (.agg #[])] 76)).heap.size := by have := hpb.out; have := hp1.out.lt; rw [alloc_size]; omega
   have hlen0 := hid (show (L ++ [Pc.opn] ++ linesG qN (l.take j)).length ≤ 4398046511104 from (lo HLj.out))
   clear hdv hov
   rw [alloc_size] at hcn
   go_wp2_with (first
    | (at_builtin; refine wpList_append_pc rfl (.tmp 29) (.tmp 32) 41 rfl B ii _ Tryz.underlying41 hi hz0 hz1 hz2 rfl _ (L ++ [Pc.opn] ++ linesG qN (l.take j)) _ 1 .line rfl rfl ho1.out hcn hlen0.out hbs ?_; intro p7 n7 c7 w7 hown7 hg7; obtain ⟨⟨g1, g2⟩, g3, g4⟩ := px_grown hpb.out hd1.out ho1.out hg7 hown7 (hpw.out.keepF xz); replace g3 := hid g3; replace hown7 := hid hown7; have gx := Px.trans (Px.of (B := B) (pb := pb) xz) g4; clear g4; replace pp := hid (pp.out.trans gx); replace hp1 := hid g3.out; replace HC := hid (gx.loc HC.out hneC (by decide)); replace ⟨d0, d1, d2, d3⟩ := blk4 HC.out; replace hdy := hid (hdy.out.keepP gx hpb.out); replace hT := hid (hT.out.keepP gx hpb.out))
    | (go_at_call 143; refine (space_p y Hm.out hp1.out hdy.out (pp.out.loc HX.out hbx.out (by decide)) (lo HLj.out)).mono ?_; rintro e w143 ⟨rfl, hq, z_⟩; replace pp := hid (pp.out.trans z_); replace hp1 := hid hq; replace HC := hid (z_.loc HC.out hneC (by decide)); replace ⟨d0, d1, d2, d3⟩ := blk4 HC.out; replace hdy := hid (hdy.out.keepP z_ hpb.out); replace hT := hid (hT.out.keepP z_ hpb.out)))
   go_roundw
   case rel => exact ⟨j + 1, by omega, by go_num, hid (hp1.out.cast (by rw [hs2.out]; simp)), hid pp.out⟩
   case measure => simp [intOf]; omega
  ·have hp1 := hid (hpr.out.cast (show _ = L ++ [Pc.opn] ++ linesG qN l by rw [List.take_of_length_le (by omega)]))
   have pp := hid hpx.out
   have hT := hid (hT0.out.keepP hpx.out hpb.out)
   clear hpr hpx
   obtain ⟨dv, hdv, hov⟩ := hp1.out.val
   have hpw := hid hp1.out.pow
   obtain ⟨p0, n0, cc0, rfl⟩ : ∃ p n c, dv = .slice p n c := by
    rcases hov.2 with ⟨rfl, _⟩ | ⟨g, cap, cur, rfl, _⟩
    ·exact ⟨_, _, _, rfl⟩
    ·exact ⟨_, _, _, rfl⟩
   have hd0v := cell_one hdv
   have xz : Fx wr (wr.alloc (.cells #[.iface 82 (.agg #[])] 76)) := Ext.alloc _ _ _
   have hd1 := hid ((xz.block pb (Array.getElem?_eq_some_iff.1 hdv).1 id).trans hdv)
   have ho1 := hid (own_keepF hov xz)
   have hcn := cell_alloc wr #[.iface 82 (.agg #[])] 76 0 _ rfl
   have hbs : B ≤ (wr.alloc (.cells #[.iface 82 (.agg #[])] 76)).heap.size := by have := hpb.out; have := hp1.out.lt; rw [alloc_size]; omega
   have hlen0 := hid (show (L ++ [Pc.opn] ++ linesG qN l).length ≤ 4398046511104 from (lo HL.out))
   clear hdv hov
   go_wp2_with (at_builtin; refine wpList_append_pc rfl (.tmp 44) (.tmp 47) 41 rfl B ii _ Tryz.underlying41 hi hz0 hz1 hz2 rfl _ (L ++ [Pc.opn] ++ linesG qN l) _ 1 .shut rfl rfl ho1.out hcn hlen0.out hbs ?_; intro p7 n7 c7 w7 hown7 hg7; obtain ⟨⟨g1, g2⟩, g3, g4⟩ := px_grown hpb.out hd1.out ho1.out hg7 hown7 (hpw.out.keepF xz); replace g3 := hid g3; replace hown7 := hid hown7; have gx := Px.trans (Px.of (B := B) (pb := pb) xz) g4; clear g4; replace pp := hid (pp.out.trans gx); replace hp1 := hid g3.out; replace hT := hid (hT.out.keepP gx hpb.out))
   try simp only [Exit.inBlock, Exit.then]
   refine be rfl rfl ?_
   exact ⟨rfl, hp1.out.cast (by simp), pp.out⟩

theorem names_p (l : List Tr) {B pb : Nat} {L : List Pc} {w : World} {v : Value} (hp : PrAt B w pb L) (h : KidsAt B w v l) (ht0 : Tabs B w) (hm : ∀ y ∈ l, ∃ ky kt z, y = .mk ky kt 0 [z]) : Pn 183 B pb w L v ([wd [123, 32]] ++ namesP true l ++ [wd [32, 125]]) := by
 intro hl
 have hsv := sv_list
 obtain ⟨p, c, rfl, hcp, hkid⟩ := h.kid
 have hpb := hid hp.le
 have xw : Fx w w := Ext.refl _ _
 have pp := hid (Px.refl B pb w)
 have hk := hid True.intro
 have hT0 := hid ht0
 have hT := hid ht0
 have hp1 := hid hp
 have HL := hid hl
 have K := hid hkid
 have hll := hid hcp.2
 have Hu := hid hm
 clear hm
 clear h hkid hcp hp hl ht0
 try simp only [lC, lN, zA, Nat.reduceAdd] at *
 go_enter Tryz.func183, Tryz.ntmps183
 go_wp2_with (go_at_call 67; refine (pl [[123, 32]] hp1.out (lo HL.out)).mono ?_; rintro e w67 ⟨rfl, hq, z_⟩; replace pp := hid (pp.out.trans z_); replace hp1 := hid hq; replace hT := hid (hT.out.keepP z_ hpb.out))
 have pp0 := hid pp.out
 have hpL := hid (hp1.out.cast (show _ = (L ++ [wd [123, 32]]) by simp))
 have hLL := hid (show ((L ++ [wd [123, 32]]) ++ namesP true (l)).length ≤ 4398046511104 from by have hL := HL.out; simp only [lA, lC, lN, lM, mC, mN] at hL ⊢; omega)
 clear hp1 pp hk hT
 go_loopw [13] (fun i wr => ∃ j : Nat, j ≤ l.length ∧ i = .int .i64 j ∧ Hid (PrAt B wr pb ((L ++ [wd [123, 32]]) ++ namesP true (l.take j))) ∧ Hid (Px B pb w67 wr)) (fun i _ => l.length - (intOf i).toNat)
 case atStart => exact ⟨0, Nat.zero_le _, rfl, hid (hpL.out.cast (by simp [namesP])), hid (Px.refl _ _ _)⟩
 case round =>
  obtain ⟨j, hj, rfl, hpr, hpx⟩ := hrel
  have qq := hid (pp0.out.trans hpx.out)
  have hj4 : (j : Int) ≤ 4398046511104 := by have := hll.out; omega
  by_cases hlt : j < l.length
  ·obtain ⟨hs1, hs2⟩ := namesP_split hlt
   have hLj := hLL.out
   rw [hs1] at hLj
   clear hs1
   obtain ⟨ky, kt, z, hy0⟩ := Hu.out l[j] (List.getElem_mem hlt)
   obtain ⟨g, o, s, rfl, hgB, e0, e1, e2, e3, hy⟩ := K.out j hlt
   rw [hy0] at e0 e1 e2 hy hs2 hLj
   simp only [Tr.k, Tr.t, Tr.n] at e0 e1 e2
   obtain ⟨sl', hs', hks', _, _, htl'⟩ := id hy.open
   obtain rfl : s = sl' := by simpa [nv, Tr.k, Tr.t, Tr.n] using hs'
   simp only [Tr.k, Tr.t, Tr.n, Tr.l] at hks' htl'
   obtain ⟨p', c', rfl, _, hkid'⟩ := hks'.kid
   have K' := hid hkid'
   clear hs' hks' hy0 hkid'
   simp only [lC, lN, zA] at *
   obtain ⟨g', o', s', rfl, hgz, z0, z1, z2, z3, hz⟩ := K'.out 0 (by simp)
   simp only [gZ] at z0 z1 z2 hz
   obtain ⟨slz, hsz, hksz, _⟩ := id hz.open
   obtain rfl : s' = slz := by simpa [nv] using hsz
   clear hsz K'
   obtain ⟨pz, cz, rfl, _⟩ := hksz.kid
   clear hksz
   simp only [zM, aZ, gZ] at z0 z1 z2 z3
   replace ⟨z0, z1, z2, z3⟩ := P4 qq.out hpb.out hgz z0 z1 z2 z3
   replace ⟨e0, e1, e2, e3⟩ := P4 qq.out hpb.out hgB e0 e1 e2 e3
   have xa : Fx wr (wr.alloc (.cells #[.int .i64 ky, .string (sv kt), .int .i64 0, .slice (some ⟨g', o', none⟩) 1 c'] 24)) := Ext.alloc _ _ _
   have hneC : wr.heap.size ≠ pb := by have := hpr.out.lt; omega
   have HC := hid (heap_new wr (.cells #[.int .i64 ky, .string (sv kt), .int .i64 0, .slice (some ⟨g', o', none⟩) 1 c'] 24))
   obtain ⟨d0, d1, d2, d3⟩ := nd_cells wr ky 0 (sv kt) (.slice (some ⟨g', o', none⟩) 1 c')
   have hdy := hid (((NT.mk hy hT0.out).keepP qq.out hpb.out).keepF xa)
   have hT := hid ((hT0.out.keepP qq.out hpb.out).keepF xa)
   have hp1 := hid (hpr.out.keepF xa)
   have pp := hid (hpx.out.fx xa)
   replace ⟨z0, z1, z2, z3⟩ := F4 xa z0 z1 z2 z3
   replace hz := hid (((NT.mk hz hT0.out).keepP qq.out hpb.out).keepF xa)
   simp only [nv, Tr.k, Tr.t, Tr.n, Tr.l, lC, lN, zA] at hdy
   simp only [nv] at hz
   clear hy hpr hpx qq
   replace hs2 := hid hs2
   replace hLj := hid hLj
   obtain ⟨zk, zt, zn, zl⟩ := z
   simp only [Tr.k, Tr.t, Tr.n, Tr.l] at *
   by_cases q14 : zk = 14
   ·have hone := hid (show oneP (.mk ky kt 0 [.mk zk zt zn zl]) = [wd kt] by simp [oneP, Tr.k, Tr.t, Tr.l, q14])
    subst q14
    rw [hone.out] at hs2 hLj
    rcases Nat.eq_zero_or_pos j with hj0 | hj0
    ·have hz0 : ¬ (0 : Int) < (j : Int) := by omega
     rw [show sepP j [44, 32] = [] from by rw [hj0]; rfl] at hs2 hLj
     have HLj := hid hLj.out
     replace hj0 := hid hj0
     clear hLj
     go_wp2_with (first
      | (go_at_call 67; refine (pl [kt] hp1.out (lo HLj.out)).mono ?_; rintro e w67 ⟨rfl, hq, z_⟩; replace pp := hid (pp.out.trans z_); replace hp1 := hid hq; replace HC := hid (z_.loc HC.out hneC (by decide)); replace ⟨d0, d1, d2, d3⟩ := blk4 HC.out; replace ⟨z0, z1, z2, z3⟩ := P4 z_ hpb.out hgz z0 z1 z2 z3; replace hz := hid (hz.out.keepP z_ hpb.out); replace hdy := hid (hdy.out.keepP z_ hpb.out); replace hT := hid (hT.out.keepP z_ hpb.out); have d00 := d0; have z00 := z0; have d11 := d1; have z11 := z1; have d22 := d2; have z22 := z2; have d33 := d3; have z33 := z3; have xe : Fx w67 (w67.alloc (.cells #[.int .i64 14, .string (sv zt), .int .i64 zn, .slice pz zl.length cz] 24)) := Ext.alloc _ _ _; have hneE : w67.heap.size ≠ pb := (by have := hp1.out.lt; omega); have HE := hid (heap_new w67 (.cells #[.int .i64 14, .string (sv zt), .int .i64 zn, .slice pz zl.length cz] 24)); obtain ⟨q0, q1, q2, q3⟩ := nd_cells w67 14 zn (sv zt) (.slice pz zl.length cz); replace pp := hid (pp.out.trans (Px.of (B := B) (pb := pb) xe)); replace hp1 := hid (hp1.out.keepF xe); replace HC := hid ((Px.of (B := B) (pb := pb) xe).loc HC.out hneC (by decide)); replace ⟨d0, d1, d2, d3⟩ := blk4 HC.out; replace z0 := (Px.of (B := B) (pb := pb) xe).cellB hpb.out hgz z0; replace z1 := (Px.of (B := B) (pb := pb) xe).cellB hpb.out hgz z1; replace z2 := (Px.of (B := B) (pb := pb) xe).cellB hpb.out hgz z2; replace z3 := (Px.of (B := B) (pb := pb) xe).cellB hpb.out hgz z3; replace hz := hid (hz.out.keepP (Px.of (B := B) (pb := pb) xe) hpb.out); replace hdy := hid (hdy.out.keepP (Px.of (B := B) (pb := pb) xe) hpb.out); replace hT := hid (hT.out.keepP (Px.of (B := B) (pb := pb) xe) hpb.out))
      | (go_at_call 67; refine (pl [[32, 97, 115, 32], zt] hp1.out (lo HLj.out)).mono ?_; rintro e w67 ⟨rfl, hq, z_⟩; replace pp := hid (pp.out.trans z_); replace hp1 := hid hq; replace HC := hid (z_.loc HC.out hneC (by decide)); replace ⟨d0, d1, d2, d3⟩ := blk4 HC.out; replace HE := hid (z_.loc HE.out hneE (by decide)); replace ⟨q0, q1, q2, q3⟩ := blk4 HE.out; replace ⟨z0, z1, z2, z3⟩ := P4 z_ hpb.out hgz z0 z1 z2 z3; replace hz := hid (hz.out.keepP z_ hpb.out); replace hdy := hid (hdy.out.keepP z_ hpb.out); replace hT := hid (hT.out.keepP z_ hpb.out)))
     go_roundw
     case rel => exact ⟨j + 1, by omega, by go_num, hid (hp1.out.cast (by rw [hs2.out]; simp)), hid pp.out⟩
     case measure => simp [intOf]; omega
    ·have hz0 : (0 : Int) < (j : Int) := by omega
     rw [sepP_s hj0] at hs2 hLj
     have HLj := hid hLj.out
     replace hj0 := hid hj0
     clear hLj
     go_wp2_with (first
      | (go_at_call 67; refine (pl [[44, 32]] hp1.out (lo HLj.out)).mono ?_; rintro e w67 ⟨rfl, hq, z_⟩; replace pp := hid (pp.out.trans z_); replace hp1 := hid hq; replace HC := hid (z_.loc HC.out hneC (by decide)); replace ⟨d0, d1, d2, d3⟩ := blk4 HC.out; replace ⟨z0, z1, z2, z3⟩ := P4 z_ hpb.out hgz z0 z1 z2 z3; replace hz := hid (hz.out.keepP z_ hpb.out); replace hdy := hid (hdy.out.keepP z_ hpb.out); replace hT := hid (hT.out.keepP z_ hpb.out))
      | (go_at_call 67; refine (pl [kt] hp1.out (lo HLj.out)).mono ?_; rintro e w67 ⟨rfl, hq, z_⟩; replace pp := hid (pp.out.trans z_); replace hp1 := hid hq; replace HC := hid (z_.loc HC.out hneC (by decide)); replace ⟨d0, d1, d2, d3⟩ := blk4 HC.out; replace ⟨z0, z1, z2, z3⟩ := P4 z_ hpb.out hgz z0 z1 z2 z3; replace hz := hid (hz.out.keepP z_ hpb.out); replace hdy := hid (hdy.out.keepP z_ hpb.out); replace hT := hid (hT.out.keepP z_ hpb.out); have d00 := d0; have z00 := z0; have d11 := d1; have z11 := z1; have d22 := d2; have z22 := z2; have d33 := d3; have z33 := z3; have xe : Fx w67 (w67.alloc (.cells #[.int .i64 14, .string (sv zt), .int .i64 zn, .slice pz zl.length cz] 24)) := Ext.alloc _ _ _; have hneE : w67.heap.size ≠ pb := (by have := hp1.out.lt; omega); have HE := hid (heap_new w67 (.cells #[.int .i64 14, .string (sv zt), .int .i64 zn, .slice pz zl.length cz] 24)); obtain ⟨q0, q1, q2, q3⟩ := nd_cells w67 14 zn (sv zt) (.slice pz zl.length cz); replace pp := hid (pp.out.trans (Px.of (B := B) (pb := pb) xe)); replace hp1 := hid (hp1.out.keepF xe); replace HC := hid ((Px.of (B := B) (pb := pb) xe).loc HC.out hneC (by decide)); replace ⟨d0, d1, d2, d3⟩ := blk4 HC.out; replace z0 := (Px.of (B := B) (pb := pb) xe).cellB hpb.out hgz z0; replace z1 := (Px.of (B := B) (pb := pb) xe).cellB hpb.out hgz z1; replace z2 := (Px.of (B := B) (pb := pb) xe).cellB hpb.out hgz z2; replace z3 := (Px.of (B := B) (pb := pb) xe).cellB hpb.out hgz z3; replace hz := hid (hz.out.keepP (Px.of (B := B) (pb := pb) xe) hpb.out); replace hdy := hid (hdy.out.keepP (Px.of (B := B) (pb := pb) xe) hpb.out); replace hT := hid (hT.out.keepP (Px.of (B := B) (pb := pb) xe) hpb.out))
      | (go_at_call 67; refine (pl [[32, 97, 115, 32], zt] hp1.out (lo HLj.out)).mono ?_; rintro e w67 ⟨rfl, hq, z_⟩; replace pp := hid (pp.out.trans z_); replace hp1 := hid hq; replace HC := hid (z_.loc HC.out hneC (by decide)); replace ⟨d0, d1, d2, d3⟩ := blk4 HC.out; replace HE := hid (z_.loc HE.out hneE (by decide)); replace ⟨q0, q1, q2, q3⟩ := blk4 HE.out; replace ⟨z0, z1, z2, z3⟩ := P4 z_ hpb.out hgz z0 z1 z2 z3; replace hz := hid (hz.out.keepP z_ hpb.out); replace hdy := hid (hdy.out.keepP z_ hpb.out); replace hT := hid (hT.out.keepP z_ hpb.out)))
     go_roundw
     case rel => exact ⟨j + 1, by omega, by go_num, hid (hp1.out.cast (by rw [hs2.out]; simp)), hid pp.out⟩
     case measure => simp [intOf]; omega
   have k14 : (zk == 14) = false := by simpa using q14
   by_cases q61 : ky = 61
   ·subst q61
    by_cases qt : zt = kt
    ·have hone := hid (show oneP (.mk 61 kt 0 [.mk zk zt zn zl]) = [wd kt] by simp [oneP, Tr.k, Tr.t, Tr.l, qt])
     subst qt
     rw [hone.out] at hs2 hLj
     rcases Nat.eq_zero_or_pos j with hj0 | hj0
     ·have hz0 : ¬ (0 : Int) < (j : Int) := by omega
      rw [show sepP j [44, 32] = [] from by rw [hj0]; rfl] at hs2 hLj
      have HLj := hid hLj.out
      replace hj0 := hid hj0
      clear hLj
      go_wp2_with (first
       | (go_at_call 67; refine (pl [zt] hp1.out (lo HLj.out)).mono ?_; rintro e w67 ⟨rfl, hq, z_⟩; replace pp := hid (pp.out.trans z_); replace hp1 := hid hq; replace HC := hid (z_.loc HC.out hneC (by decide)); replace ⟨d0, d1, d2, d3⟩ := blk4 HC.out; replace ⟨z0, z1, z2, z3⟩ := P4 z_ hpb.out hgz z0 z1 z2 z3; replace hz := hid (hz.out.keepP z_ hpb.out); replace hdy := hid (hdy.out.keepP z_ hpb.out); replace hT := hid (hT.out.keepP z_ hpb.out); have d00 := d0; have z00 := z0; have d11 := d1; have z11 := z1; have d22 := d2; have z22 := z2; have d33 := d3; have z33 := z3; have xe : Fx w67 (w67.alloc (.cells #[.int .i64 zk, .string (sv zt), .int .i64 zn, .slice pz zl.length cz] 24)) := Ext.alloc _ _ _; have hneE : w67.heap.size ≠ pb := (by have := hp1.out.lt; omega); have HE := hid (heap_new w67 (.cells #[.int .i64 zk, .string (sv zt), .int .i64 zn, .slice pz zl.length cz] 24)); obtain ⟨q0, q1, q2, q3⟩ := nd_cells w67 zk zn (sv zt) (.slice pz zl.length cz); replace pp := hid (pp.out.trans (Px.of (B := B) (pb := pb) xe)); replace hp1 := hid (hp1.out.keepF xe); replace HC := hid ((Px.of (B := B) (pb := pb) xe).loc HC.out hneC (by decide)); replace ⟨d0, d1, d2, d3⟩ := blk4 HC.out; replace z0 := (Px.of (B := B) (pb := pb) xe).cellB hpb.out hgz z0; replace z1 := (Px.of (B := B) (pb := pb) xe).cellB hpb.out hgz z1; replace z2 := (Px.of (B := B) (pb := pb) xe).cellB hpb.out hgz z2; replace z3 := (Px.of (B := B) (pb := pb) xe).cellB hpb.out hgz z3; replace hz := hid (hz.out.keepP (Px.of (B := B) (pb := pb) xe) hpb.out); replace hdy := hid (hdy.out.keepP (Px.of (B := B) (pb := pb) xe) hpb.out); replace hT := hid (hT.out.keepP (Px.of (B := B) (pb := pb) xe) hpb.out))
       | (go_at_call 67; refine (pl [[32, 97, 115, 32], zt] hp1.out (lo HLj.out)).mono ?_; rintro e w67 ⟨rfl, hq, z_⟩; replace pp := hid (pp.out.trans z_); replace hp1 := hid hq; replace HC := hid (z_.loc HC.out hneC (by decide)); replace ⟨d0, d1, d2, d3⟩ := blk4 HC.out; replace HE := hid (z_.loc HE.out hneE (by decide)); replace ⟨q0, q1, q2, q3⟩ := blk4 HE.out; replace ⟨z0, z1, z2, z3⟩ := P4 z_ hpb.out hgz z0 z1 z2 z3; replace hz := hid (hz.out.keepP z_ hpb.out); replace hdy := hid (hdy.out.keepP z_ hpb.out); replace hT := hid (hT.out.keepP z_ hpb.out)))
      go_roundw
      case rel => exact ⟨j + 1, by omega, by go_num, hid (hp1.out.cast (by rw [hs2.out]; simp)), hid pp.out⟩
      case measure => simp [intOf]; omega
     ·have hz0 : (0 : Int) < (j : Int) := by omega
      rw [sepP_s hj0] at hs2 hLj
      have HLj := hid hLj.out
      replace hj0 := hid hj0
      clear hLj
      go_wp2_with (first
       | (go_at_call 67; refine (pl [[44, 32]] hp1.out (lo HLj.out)).mono ?_; rintro e w67 ⟨rfl, hq, z_⟩; replace pp := hid (pp.out.trans z_); replace hp1 := hid hq; replace HC := hid (z_.loc HC.out hneC (by decide)); replace ⟨d0, d1, d2, d3⟩ := blk4 HC.out; replace ⟨z0, z1, z2, z3⟩ := P4 z_ hpb.out hgz z0 z1 z2 z3; replace hz := hid (hz.out.keepP z_ hpb.out); replace hdy := hid (hdy.out.keepP z_ hpb.out); replace hT := hid (hT.out.keepP z_ hpb.out))
       | (go_at_call 67; refine (pl [zt] hp1.out (lo HLj.out)).mono ?_; rintro e w67 ⟨rfl, hq, z_⟩; replace pp := hid (pp.out.trans z_); replace hp1 := hid hq; replace HC := hid (z_.loc HC.out hneC (by decide)); replace ⟨d0, d1, d2, d3⟩ := blk4 HC.out; replace ⟨z0, z1, z2, z3⟩ := P4 z_ hpb.out hgz z0 z1 z2 z3; replace hz := hid (hz.out.keepP z_ hpb.out); replace hdy := hid (hdy.out.keepP z_ hpb.out); replace hT := hid (hT.out.keepP z_ hpb.out); have d00 := d0; have z00 := z0; have d11 := d1; have z11 := z1; have d22 := d2; have z22 := z2; have d33 := d3; have z33 := z3; have xe : Fx w67 (w67.alloc (.cells #[.int .i64 zk, .string (sv zt), .int .i64 zn, .slice pz zl.length cz] 24)) := Ext.alloc _ _ _; have hneE : w67.heap.size ≠ pb := (by have := hp1.out.lt; omega); have HE := hid (heap_new w67 (.cells #[.int .i64 zk, .string (sv zt), .int .i64 zn, .slice pz zl.length cz] 24)); obtain ⟨q0, q1, q2, q3⟩ := nd_cells w67 zk zn (sv zt) (.slice pz zl.length cz); replace pp := hid (pp.out.trans (Px.of (B := B) (pb := pb) xe)); replace hp1 := hid (hp1.out.keepF xe); replace HC := hid ((Px.of (B := B) (pb := pb) xe).loc HC.out hneC (by decide)); replace ⟨d0, d1, d2, d3⟩ := blk4 HC.out; replace z0 := (Px.of (B := B) (pb := pb) xe).cellB hpb.out hgz z0; replace z1 := (Px.of (B := B) (pb := pb) xe).cellB hpb.out hgz z1; replace z2 := (Px.of (B := B) (pb := pb) xe).cellB hpb.out hgz z2; replace z3 := (Px.of (B := B) (pb := pb) xe).cellB hpb.out hgz z3; replace hz := hid (hz.out.keepP (Px.of (B := B) (pb := pb) xe) hpb.out); replace hdy := hid (hdy.out.keepP (Px.of (B := B) (pb := pb) xe) hpb.out); replace hT := hid (hT.out.keepP (Px.of (B := B) (pb := pb) xe) hpb.out))
       | (go_at_call 67; refine (pl [[32, 97, 115, 32], zt] hp1.out (lo HLj.out)).mono ?_; rintro e w67 ⟨rfl, hq, z_⟩; replace pp := hid (pp.out.trans z_); replace hp1 := hid hq; replace HC := hid (z_.loc HC.out hneC (by decide)); replace ⟨d0, d1, d2, d3⟩ := blk4 HC.out; replace HE := hid (z_.loc HE.out hneE (by decide)); replace ⟨q0, q1, q2, q3⟩ := blk4 HE.out; replace ⟨z0, z1, z2, z3⟩ := P4 z_ hpb.out hgz z0 z1 z2 z3; replace hz := hid (hz.out.keepP z_ hpb.out); replace hdy := hid (hdy.out.keepP z_ hpb.out); replace hT := hid (hT.out.keepP z_ hpb.out)))
      go_roundw
      case rel => exact ⟨j + 1, by omega, by go_num, hid (hp1.out.cast (by rw [hs2.out]; simp)), hid pp.out⟩
      case measure => simp [intOf]; omega
    ·have hone := hid (show oneP (.mk 61 kt 0 [.mk zk zt zn zl]) = [wd kt, wd [32, 97, 115, 32], wd zt] by simp [oneP, Tr.k, Tr.t, Tr.l, qt, q14])
     have hnq : (zt == kt) = false := by simpa using qt
     rw [hone.out] at hs2 hLj
     rcases Nat.eq_zero_or_pos j with hj0 | hj0
     ·have hz0 : ¬ (0 : Int) < (j : Int) := by omega
      rw [show sepP j [44, 32] = [] from by rw [hj0]; rfl] at hs2 hLj
      have HLj := hid hLj.out
      replace hj0 := hid hj0
      clear hLj
      go_wp2_with (first
       | (go_at_call 67; refine (pl [kt] hp1.out (lo HLj.out)).mono ?_; rintro e w67 ⟨rfl, hq, z_⟩; replace pp := hid (pp.out.trans z_); replace hp1 := hid hq; replace HC := hid (z_.loc HC.out hneC (by decide)); replace ⟨d0, d1, d2, d3⟩ := blk4 HC.out; replace ⟨z0, z1, z2, z3⟩ := P4 z_ hpb.out hgz z0 z1 z2 z3; replace hz := hid (hz.out.keepP z_ hpb.out); replace hdy := hid (hdy.out.keepP z_ hpb.out); replace hT := hid (hT.out.keepP z_ hpb.out); have d00 := d0; have z00 := z0; have d11 := d1; have z11 := z1; have d22 := d2; have z22 := z2; have d33 := d3; have z33 := z3; have xe : Fx w67 (w67.alloc (.cells #[.int .i64 zk, .string (sv zt), .int .i64 zn, .slice pz zl.length cz] 24)) := Ext.alloc _ _ _; have hneE : w67.heap.size ≠ pb := (by have := hp1.out.lt; omega); have HE := hid (heap_new w67 (.cells #[.int .i64 zk, .string (sv zt), .int .i64 zn, .slice pz zl.length cz] 24)); obtain ⟨q0, q1, q2, q3⟩ := nd_cells w67 zk zn (sv zt) (.slice pz zl.length cz); replace pp := hid (pp.out.trans (Px.of (B := B) (pb := pb) xe)); replace hp1 := hid (hp1.out.keepF xe); replace HC := hid ((Px.of (B := B) (pb := pb) xe).loc HC.out hneC (by decide)); replace ⟨d0, d1, d2, d3⟩ := blk4 HC.out; replace z0 := (Px.of (B := B) (pb := pb) xe).cellB hpb.out hgz z0; replace z1 := (Px.of (B := B) (pb := pb) xe).cellB hpb.out hgz z1; replace z2 := (Px.of (B := B) (pb := pb) xe).cellB hpb.out hgz z2; replace z3 := (Px.of (B := B) (pb := pb) xe).cellB hpb.out hgz z3; replace hz := hid (hz.out.keepP (Px.of (B := B) (pb := pb) xe) hpb.out); replace hdy := hid (hdy.out.keepP (Px.of (B := B) (pb := pb) xe) hpb.out); replace hT := hid (hT.out.keepP (Px.of (B := B) (pb := pb) xe) hpb.out))
       | (go_at_call 67; refine (pl [[32, 97, 115, 32], zt] hp1.out (lo HLj.out)).mono ?_; rintro e w67 ⟨rfl, hq, z_⟩; replace pp := hid (pp.out.trans z_); replace hp1 := hid hq; replace HC := hid (z_.loc HC.out hneC (by decide)); replace ⟨d0, d1, d2, d3⟩ := blk4 HC.out; replace HE := hid (z_.loc HE.out hneE (by decide)); replace ⟨q0, q1, q2, q3⟩ := blk4 HE.out; replace ⟨z0, z1, z2, z3⟩ := P4 z_ hpb.out hgz z0 z1 z2 z3; replace hz := hid (hz.out.keepP z_ hpb.out); replace hdy := hid (hdy.out.keepP z_ hpb.out); replace hT := hid (hT.out.keepP z_ hpb.out)))
      go_roundw
      case rel => exact ⟨j + 1, by omega, by go_num, hid (hp1.out.cast (by rw [hs2.out]; simp)), hid pp.out⟩
      case measure => simp [intOf]; omega
     ·have hz0 : (0 : Int) < (j : Int) := by omega
      rw [sepP_s hj0] at hs2 hLj
      have HLj := hid hLj.out
      replace hj0 := hid hj0
      clear hLj
      go_wp2_with (first
       | (go_at_call 67; refine (pl [[44, 32]] hp1.out (lo HLj.out)).mono ?_; rintro e w67 ⟨rfl, hq, z_⟩; replace pp := hid (pp.out.trans z_); replace hp1 := hid hq; replace HC := hid (z_.loc HC.out hneC (by decide)); replace ⟨d0, d1, d2, d3⟩ := blk4 HC.out; replace ⟨z0, z1, z2, z3⟩ := P4 z_ hpb.out hgz z0 z1 z2 z3; replace hz := hid (hz.out.keepP z_ hpb.out); replace hdy := hid (hdy.out.keepP z_ hpb.out); replace hT := hid (hT.out.keepP z_ hpb.out))
       | (go_at_call 67; refine (pl [kt] hp1.out (lo HLj.out)).mono ?_; rintro e w67 ⟨rfl, hq, z_⟩; replace pp := hid (pp.out.trans z_); replace hp1 := hid hq; replace HC := hid (z_.loc HC.out hneC (by decide)); replace ⟨d0, d1, d2, d3⟩ := blk4 HC.out; replace ⟨z0, z1, z2, z3⟩ := P4 z_ hpb.out hgz z0 z1 z2 z3; replace hz := hid (hz.out.keepP z_ hpb.out); replace hdy := hid (hdy.out.keepP z_ hpb.out); replace hT := hid (hT.out.keepP z_ hpb.out); have d00 := d0; have z00 := z0; have d11 := d1; have z11 := z1; have d22 := d2; have z22 := z2; have d33 := d3; have z33 := z3; have xe : Fx w67 (w67.alloc (.cells #[.int .i64 zk, .string (sv zt), .int .i64 zn, .slice pz zl.length cz] 24)) := Ext.alloc _ _ _; have hneE : w67.heap.size ≠ pb := (by have := hp1.out.lt; omega); have HE := hid (heap_new w67 (.cells #[.int .i64 zk, .string (sv zt), .int .i64 zn, .slice pz zl.length cz] 24)); obtain ⟨q0, q1, q2, q3⟩ := nd_cells w67 zk zn (sv zt) (.slice pz zl.length cz); replace pp := hid (pp.out.trans (Px.of (B := B) (pb := pb) xe)); replace hp1 := hid (hp1.out.keepF xe); replace HC := hid ((Px.of (B := B) (pb := pb) xe).loc HC.out hneC (by decide)); replace ⟨d0, d1, d2, d3⟩ := blk4 HC.out; replace z0 := (Px.of (B := B) (pb := pb) xe).cellB hpb.out hgz z0; replace z1 := (Px.of (B := B) (pb := pb) xe).cellB hpb.out hgz z1; replace z2 := (Px.of (B := B) (pb := pb) xe).cellB hpb.out hgz z2; replace z3 := (Px.of (B := B) (pb := pb) xe).cellB hpb.out hgz z3; replace hz := hid (hz.out.keepP (Px.of (B := B) (pb := pb) xe) hpb.out); replace hdy := hid (hdy.out.keepP (Px.of (B := B) (pb := pb) xe) hpb.out); replace hT := hid (hT.out.keepP (Px.of (B := B) (pb := pb) xe) hpb.out))
       | (go_at_call 67; refine (pl [[32, 97, 115, 32], zt] hp1.out (lo HLj.out)).mono ?_; rintro e w67 ⟨rfl, hq, z_⟩; replace pp := hid (pp.out.trans z_); replace hp1 := hid hq; replace HC := hid (z_.loc HC.out hneC (by decide)); replace ⟨d0, d1, d2, d3⟩ := blk4 HC.out; replace HE := hid (z_.loc HE.out hneE (by decide)); replace ⟨q0, q1, q2, q3⟩ := blk4 HE.out; replace ⟨z0, z1, z2, z3⟩ := P4 z_ hpb.out hgz z0 z1 z2 z3; replace hz := hid (hz.out.keepP z_ hpb.out); replace hdy := hid (hdy.out.keepP z_ hpb.out); replace hT := hid (hT.out.keepP z_ hpb.out)))
      go_roundw
      case rel => exact ⟨j + 1, by omega, by go_num, hid (hp1.out.cast (by rw [hs2.out]; simp)), hid pp.out⟩
      case measure => simp [intOf]; omega
   ·have hone := hid (show oneP (.mk ky kt 0 [.mk zk zt zn zl]) = [wd kt, wd [32, 97, 115, 32], wd zt] by simp [oneP, Tr.k, Tr.t, Tr.l, q61, q14])
    have k61 : (ky == 61) = false := by simpa using q61
    rw [hone.out] at hs2 hLj
    rcases Nat.eq_zero_or_pos j with hj0 | hj0
    ·have hz0 : ¬ (0 : Int) < (j : Int) := by omega
     rw [show sepP j [44, 32] = [] from by rw [hj0]; rfl] at hs2 hLj
     have HLj := hid hLj.out
     replace hj0 := hid hj0
     clear hLj
     go_wp2_with (first
      | (go_at_call 67; refine (pl [kt] hp1.out (lo HLj.out)).mono ?_; rintro e w67 ⟨rfl, hq, z_⟩; replace pp := hid (pp.out.trans z_); replace hp1 := hid hq; replace HC := hid (z_.loc HC.out hneC (by decide)); replace ⟨d0, d1, d2, d3⟩ := blk4 HC.out; replace ⟨z0, z1, z2, z3⟩ := P4 z_ hpb.out hgz z0 z1 z2 z3; replace hz := hid (hz.out.keepP z_ hpb.out); replace hdy := hid (hdy.out.keepP z_ hpb.out); replace hT := hid (hT.out.keepP z_ hpb.out); have d00 := d0; have z00 := z0; have d11 := d1; have z11 := z1; have d22 := d2; have z22 := z2; have d33 := d3; have z33 := z3; have xe : Fx w67 (w67.alloc (.cells #[.int .i64 zk, .string (sv zt), .int .i64 zn, .slice pz zl.length cz] 24)) := Ext.alloc _ _ _; have hneE : w67.heap.size ≠ pb := (by have := hp1.out.lt; omega); have HE := hid (heap_new w67 (.cells #[.int .i64 zk, .string (sv zt), .int .i64 zn, .slice pz zl.length cz] 24)); obtain ⟨q0, q1, q2, q3⟩ := nd_cells w67 zk zn (sv zt) (.slice pz zl.length cz); replace pp := hid (pp.out.trans (Px.of (B := B) (pb := pb) xe)); replace hp1 := hid (hp1.out.keepF xe); replace HC := hid ((Px.of (B := B) (pb := pb) xe).loc HC.out hneC (by decide)); replace ⟨d0, d1, d2, d3⟩ := blk4 HC.out; replace z0 := (Px.of (B := B) (pb := pb) xe).cellB hpb.out hgz z0; replace z1 := (Px.of (B := B) (pb := pb) xe).cellB hpb.out hgz z1; replace z2 := (Px.of (B := B) (pb := pb) xe).cellB hpb.out hgz z2; replace z3 := (Px.of (B := B) (pb := pb) xe).cellB hpb.out hgz z3; replace hz := hid (hz.out.keepP (Px.of (B := B) (pb := pb) xe) hpb.out); replace hdy := hid (hdy.out.keepP (Px.of (B := B) (pb := pb) xe) hpb.out); replace hT := hid (hT.out.keepP (Px.of (B := B) (pb := pb) xe) hpb.out))
      | (go_at_call 67; refine (pl [[32, 97, 115, 32], zt] hp1.out (lo HLj.out)).mono ?_; rintro e w67 ⟨rfl, hq, z_⟩; replace pp := hid (pp.out.trans z_); replace hp1 := hid hq; replace HC := hid (z_.loc HC.out hneC (by decide)); replace ⟨d0, d1, d2, d3⟩ := blk4 HC.out; replace HE := hid (z_.loc HE.out hneE (by decide)); replace ⟨q0, q1, q2, q3⟩ := blk4 HE.out; replace ⟨z0, z1, z2, z3⟩ := P4 z_ hpb.out hgz z0 z1 z2 z3; replace hz := hid (hz.out.keepP z_ hpb.out); replace hdy := hid (hdy.out.keepP z_ hpb.out); replace hT := hid (hT.out.keepP z_ hpb.out)))
     go_roundw
     case rel => exact ⟨j + 1, by omega, by go_num, hid (hp1.out.cast (by rw [hs2.out]; simp)), hid pp.out⟩
     case measure => simp [intOf]; omega
    ·have hz0 : (0 : Int) < (j : Int) := by omega
     rw [sepP_s hj0] at hs2 hLj
     have HLj := hid hLj.out
     replace hj0 := hid hj0
     clear hLj
     go_wp2_with (first
      | (go_at_call 67; refine (pl [[44, 32]] hp1.out (lo HLj.out)).mono ?_; rintro e w67 ⟨rfl, hq, z_⟩; replace pp := hid (pp.out.trans z_); replace hp1 := hid hq; replace HC := hid (z_.loc HC.out hneC (by decide)); replace ⟨d0, d1, d2, d3⟩ := blk4 HC.out; replace ⟨z0, z1, z2, z3⟩ := P4 z_ hpb.out hgz z0 z1 z2 z3; replace hz := hid (hz.out.keepP z_ hpb.out); replace hdy := hid (hdy.out.keepP z_ hpb.out); replace hT := hid (hT.out.keepP z_ hpb.out))
      | (go_at_call 67; refine (pl [kt] hp1.out (lo HLj.out)).mono ?_; rintro e w67 ⟨rfl, hq, z_⟩; replace pp := hid (pp.out.trans z_); replace hp1 := hid hq; replace HC := hid (z_.loc HC.out hneC (by decide)); replace ⟨d0, d1, d2, d3⟩ := blk4 HC.out; replace ⟨z0, z1, z2, z3⟩ := P4 z_ hpb.out hgz z0 z1 z2 z3; replace hz := hid (hz.out.keepP z_ hpb.out); replace hdy := hid (hdy.out.keepP z_ hpb.out); replace hT := hid (hT.out.keepP z_ hpb.out); have d00 := d0; have z00 := z0; have d11 := d1; have z11 := z1; have d22 := d2; have z22 := z2; have d33 := d3; have z33 := z3; have xe : Fx w67 (w67.alloc (.cells #[.int .i64 zk, .string (sv zt), .int .i64 zn, .slice pz zl.length cz] 24)) := Ext.alloc _ _ _; have hneE : w67.heap.size ≠ pb := (by have := hp1.out.lt; omega); have HE := hid (heap_new w67 (.cells #[.int .i64 zk, .string (sv zt), .int .i64 zn, .slice pz zl.length cz] 24)); obtain ⟨q0, q1, q2, q3⟩ := nd_cells w67 zk zn (sv zt) (.slice pz zl.length cz); replace pp := hid (pp.out.trans (Px.of (B := B) (pb := pb) xe)); replace hp1 := hid (hp1.out.keepF xe); replace HC := hid ((Px.of (B := B) (pb := pb) xe).loc HC.out hneC (by decide)); replace ⟨d0, d1, d2, d3⟩ := blk4 HC.out; replace z0 := (Px.of (B := B) (pb := pb) xe).cellB hpb.out hgz z0; replace z1 := (Px.of (B := B) (pb := pb) xe).cellB hpb.out hgz z1; replace z2 := (Px.of (B := B) (pb := pb) xe).cellB hpb.out hgz z2; replace z3 := (Px.of (B := B) (pb := pb) xe).cellB hpb.out hgz z3; replace hz := hid (hz.out.keepP (Px.of (B := B) (pb := pb) xe) hpb.out); replace hdy := hid (hdy.out.keepP (Px.of (B := B) (pb := pb) xe) hpb.out); replace hT := hid (hT.out.keepP (Px.of (B := B) (pb := pb) xe) hpb.out))
      | (go_at_call 67; refine (pl [[32, 97, 115, 32], zt] hp1.out (lo HLj.out)).mono ?_; rintro e w67 ⟨rfl, hq, z_⟩; replace pp := hid (pp.out.trans z_); replace hp1 := hid hq; replace HC := hid (z_.loc HC.out hneC (by decide)); replace ⟨d0, d1, d2, d3⟩ := blk4 HC.out; replace HE := hid (z_.loc HE.out hneE (by decide)); replace ⟨q0, q1, q2, q3⟩ := blk4 HE.out; replace ⟨z0, z1, z2, z3⟩ := P4 z_ hpb.out hgz z0 z1 z2 z3; replace hz := hid (hz.out.keepP z_ hpb.out); replace hdy := hid (hdy.out.keepP z_ hpb.out); replace hT := hid (hT.out.keepP z_ hpb.out)))
     go_roundw
     case rel => exact ⟨j + 1, by omega, by go_num, hid (hp1.out.cast (by rw [hs2.out]; simp)), hid pp.out⟩
     case measure => simp [intOf]; omega
  ·have hp1 := hid (hpr.out.cast (show _ = (L ++ [wd [123, 32]]) ++ namesP true (l) by rw [List.take_of_length_le (by omega)]))
   have pp := hid (pp0.out.trans hpx.out)
   have hT := hid (hT0.out.keepP qq.out hpb.out)
   clear hpr hpx qq
   go_wp2_with (go_at_call 67; refine (pl [[32, 125]] hp1.out (lo HL.out)).mono ?_; rintro e w67 ⟨rfl, hq, z_⟩; replace pp := hid (pp.out.trans z_); replace hp1 := hid hq; replace hT := hid (hT.out.keepP z_ hpb.out))
   try simp only [Exit.inBlock, Exit.then]
   refine be rfl rfl ?_
   exact ⟨rfl, hp1.out.cast (by simp), pp.out⟩

theorem imp_0_0 (t : Bs)  (B pb : Nat) (L : List Pc) (w : World) (v : Value) (hp : PrAt B w pb L) (h : NT B w v (.mk 60 t 0 [])) (hv : valid t = true)  : Pn 141 B pb w L v ([wd [105, 109, 112, 111, 114, 116, 32]] ++ [wd (quote t), wd [59]]) := by
 intro hl
 have hsv := sv_list
 obtain ⟨p, c, rfl, hks, hkr, hnr, htl, hcp, hkid, hpb, hne, xw, pp, HB, ⟨c0, c1, c2, c3⟩, hd, hk, hT0, hT, hp1⟩ := hS hp h
 have HL := hid hl
 have K := hid hkid
 have hll := hid hcp.2
 have Hv := hid hv
 clear hv
 clear h hks hkid hcp hkr hnr hp hl
 simp only [nv, Tr.k, Tr.t, Tr.n, Tr.l, lC, lN, zA, Nat.reduceAdd] at hd hk HB pp c0 c1 c2 c3 ⊢
 clear K
 go_enter Tryz.func141, Tryz.ntmps141
 go_wp2_with ((first | (go_at_call 67; (first | refine (pl [[105, 109, 112, 111, 114, 116, 32]] hp1.out (lo HL.out)).mono ?_ | refine (pl [quote t, [59]] hp1.out (lo HL.out)).mono ?_); rintro e w67 ⟨rfl, hq, z_⟩) | (go_at_call 133; refine (quote_p t Hv.out htl B _ hT.out).mono ?_; rintro e w133 ⟨rfl, z_⟩; have hq := hp1.out.keepF z_; replace z_ := Px.of (B := B) (pb := pb) z_)) <;> (replace ⟨pp, hp1, HB, c0, c1, c2, c3⟩ := Q5 z_ pp hq HB hne; replace ⟨hd, hk, hT⟩ := D3 z_ hpb hd hk hT))
 try simp only [Exit.inBlock, Exit.then]
 refine be rfl rfl ?_
 exact ⟨rfl, hp1.out.cast (by first | (simp; done) | (simp <;> rfl)), pp.out⟩

theorem imp_0_1 (t : Bs)  (B pb : Nat) (L : List Pc) (w : World) (v : Value) (hp : PrAt B w pb L) (h : NT B w v (.mk 60 t 1 [])) (hv : valid t = true)  : Pn 141 B pb w L v ([wd [105, 109, 112, 111, 114, 116, 32]] ++ [wd (quote t), wd [59]]) := by
 intro hl
 have hsv := sv_list
 obtain ⟨p, c, rfl, hks, hkr, hnr, htl, hcp, hkid, hpb, hne, xw, pp, HB, ⟨c0, c1, c2, c3⟩, hd, hk, hT0, hT, hp1⟩ := hS hp h
 have HL := hid hl
 have K := hid hkid
 have hll := hid hcp.2
 have Hv := hid hv
 clear hv
 clear h hks hkid hcp hkr hnr hp hl
 simp only [nv, Tr.k, Tr.t, Tr.n, Tr.l, lC, lN, zA, Nat.reduceAdd] at hd hk HB pp c0 c1 c2 c3 ⊢
 clear K
 go_enter Tryz.func141, Tryz.ntmps141
 go_wp2_with ((first | (go_at_call 67; (first | refine (pl [[105, 109, 112, 111, 114, 116, 32]] hp1.out (lo HL.out)).mono ?_ | refine (pl [[116, 121, 112, 101, 32]] hp1.out (lo HL.out)).mono ?_ | refine (pl [quote t, [59]] hp1.out (lo HL.out)).mono ?_); rintro e w67 ⟨rfl, hq, z_⟩) | (go_at_call 133; refine (quote_p t Hv.out htl B _ hT.out).mono ?_; rintro e w133 ⟨rfl, z_⟩; have hq := hp1.out.keepF z_; replace z_ := Px.of (B := B) (pb := pb) z_)) <;> (replace ⟨pp, hp1, HB, c0, c1, c2, c3⟩ := Q5 z_ pp hq HB hne; replace ⟨hd, hk, hT⟩ := D3 z_ hpb hd hk hT))
 try simp only [Exit.inBlock, Exit.then]
 refine be rfl rfl ?_
 exact ⟨rfl, hp1.out.cast (by first | (simp; done) | (simp <;> rfl)), pp.out⟩

theorem imp_1_0 (t : Bs) (qa : Tr) (B pb : Nat) (L : List Pc) (w : World) (v : Value) (hp : PrAt B w pb L) (h : NT B w v (.mk 60 t 0 [.mk 61 [100, 101, 102, 97, 117, 108, 116] 0 [qa]])) (hv : valid t = true)  : Pn 141 B pb w L v ([wd [105, 109, 112, 111, 114, 116, 32]] ++ [wd qa.t] ++ [wd [32, 102, 114, 111, 109, 32]] ++ [wd (quote t), wd [59]]) := by
 intro hl
 have hsv := sv_list
 obtain ⟨p, c, rfl, hks, hkr, hnr, htl, hcp, hkid, hpb, hne, xw, pp, HB, ⟨c0, c1, c2, c3⟩, hd, hk, hT0, hT, hp1⟩ := hS hp h
 have HL := hid hl
 have K := hid hkid
 have hll := hid hcp.2
 have Hv := hid hv
 clear hv
 clear h hks hkid hcp hkr hnr hp hl
 simp only [nv, Tr.k, Tr.t, Tr.n, Tr.l, lC, lN, zA, Nat.reduceAdd] at hd hk HB pp c0 c1 c2 c3 ⊢
 obtain ⟨g, o, s0, rfl, hgB, a0, a1, a2, a3, ha⟩ := K.out 0 (by simp)
 simp only [gZ, gS, zM, oM, aZ, lC, lN, zA, Nat.reduceAdd, Nat.reduceMul] at *
 simp only [Tr.k, Tr.t, Tr.n] at a0 a1 a2
 obtain ⟨sla, hsa, hksa, _, _, htla⟩ := id ha.open
 obtain rfl : s0 = sla := by simpa [nv, Tr.k, Tr.t, Tr.n] using hsa
 simp only [Tr.k, Tr.t, Tr.n, Tr.l] at hksa htla
 obtain ⟨pa, ca, rfl, _, hkida⟩ := hksa.kid
 have Ka := hid hkida
 clear hsa hksa hkida
 simp only [lC, lN, zA] at *
 obtain ⟨gqa, oqa, sqa, rfl, hgqa, qa0, qa1, qa2, qa3, hqa⟩ := Ka.out 0 (by simp)
 simp only [gZ] at qa0 qa1 qa2 hqa
 obtain ⟨slqa, hsqa, hksqa, _⟩ := id hqa.open
 obtain rfl : sqa = slqa := by simpa [nv] using hsqa
 clear hsqa Ka
 obtain ⟨pqa, cqa, rfl, _⟩ := hksqa.kid
 clear hksqa
 simp only [zM, aZ] at qa0 qa1 qa2 qa3
 replace ⟨a0, a1, a2, a3⟩ := F4 xw a0 a1 a2 a3
 replace ⟨qa0, qa1, qa2, qa3⟩ := F4 xw qa0 qa1 qa2 qa3
 replace ha := hid ((NT.mk ha hT0.out).keepF xw)
 replace hqa := hid ((NT.mk hqa hT0.out).keepF xw)
 simp only [nv, Tr.k, Tr.t, Tr.n, Tr.l, lC, lN, zA] at ha
 simp only [nv] at hqa
 clear K
 go_enter Tryz.func141, Tryz.ntmps141
 go_wp2_with ((first | (go_at_call 67; (first | refine (pl [[105, 109, 112, 111, 114, 116, 32]] hp1.out (lo HL.out)).mono ?_ | refine (pl [qa.t] hp1.out (lo HL.out)).mono ?_ | refine (pl [[32, 102, 114, 111, 109, 32]] hp1.out (lo HL.out)).mono ?_ | refine (pl [quote t, [59]] hp1.out (lo HL.out)).mono ?_); rintro e w67 ⟨rfl, hq, z_⟩) | (go_at_call 133; refine (quote_p t Hv.out htl B _ hT.out).mono ?_; rintro e w133 ⟨rfl, z_⟩; have hq := hp1.out.keepF z_; replace z_ := Px.of (B := B) (pb := pb) z_)) <;> (replace ⟨pp, hp1, HB, c0, c1, c2, c3⟩ := Q5 z_ pp hq HB hne; replace ⟨a0, a1, a2, a3⟩ := P4 z_ hpb.out hgB a0 a1 a2 a3; replace ha := hid (ha.out.keepP z_ hpb.out); replace ⟨qa0, qa1, qa2, qa3⟩ := P4 z_ hpb.out hgqa qa0 qa1 qa2 qa3; replace hqa := hid (hqa.out.keepP z_ hpb.out); replace ⟨hd, hk, hT⟩ := D3 z_ hpb hd hk hT))
 all_goals
  try simp only [Exit.inBlock, Exit.then]
  refine be rfl rfl ?_
  exact ⟨rfl, hp1.out.cast (by first | (simp only [mC, mN, List.append_assoc, List.cons_append, List.nil_append, List.append_nil]; done) | (simp; done) | (simp <;> first | rfl | exact ⟨rfl, rfl⟩)), pp.out⟩

theorem imp_1_1 (t : Bs) (qa : Tr) (B pb : Nat) (L : List Pc) (w : World) (v : Value) (hp : PrAt B w pb L) (h : NT B w v (.mk 60 t 1 [.mk 61 [100, 101, 102, 97, 117, 108, 116] 0 [qa]])) (hv : valid t = true)  : Pn 141 B pb w L v ([wd [105, 109, 112, 111, 114, 116, 32]] ++ [wd [116, 121, 112, 101, 32]] ++ [wd qa.t] ++ [wd [32, 102, 114, 111, 109, 32]] ++ [wd (quote t), wd [59]]) := by
 intro hl
 have hsv := sv_list
 obtain ⟨p, c, rfl, hks, hkr, hnr, htl, hcp, hkid, hpb, hne, xw, pp, HB, ⟨c0, c1, c2, c3⟩, hd, hk, hT0, hT, hp1⟩ := hS hp h
 have HL := hid hl
 have K := hid hkid
 have hll := hid hcp.2
 have Hv := hid hv
 clear hv
 clear h hks hkid hcp hkr hnr hp hl
 simp only [nv, Tr.k, Tr.t, Tr.n, Tr.l, lC, lN, zA, Nat.reduceAdd] at hd hk HB pp c0 c1 c2 c3 ⊢
 obtain ⟨g, o, s0, rfl, hgB, a0, a1, a2, a3, ha⟩ := K.out 0 (by simp)
 simp only [gZ, gS, zM, oM, aZ, lC, lN, zA, Nat.reduceAdd, Nat.reduceMul] at *
 simp only [Tr.k, Tr.t, Tr.n] at a0 a1 a2
 obtain ⟨sla, hsa, hksa, _, _, htla⟩ := id ha.open
 obtain rfl : s0 = sla := by simpa [nv, Tr.k, Tr.t, Tr.n] using hsa
 simp only [Tr.k, Tr.t, Tr.n, Tr.l] at hksa htla
 obtain ⟨pa, ca, rfl, _, hkida⟩ := hksa.kid
 have Ka := hid hkida
 clear hsa hksa hkida
 simp only [lC, lN, zA] at *
 obtain ⟨gqa, oqa, sqa, rfl, hgqa, qa0, qa1, qa2, qa3, hqa⟩ := Ka.out 0 (by simp)
 simp only [gZ] at qa0 qa1 qa2 hqa
 obtain ⟨slqa, hsqa, hksqa, _⟩ := id hqa.open
 obtain rfl : sqa = slqa := by simpa [nv] using hsqa
 clear hsqa Ka
 obtain ⟨pqa, cqa, rfl, _⟩ := hksqa.kid
 clear hksqa
 simp only [zM, aZ] at qa0 qa1 qa2 qa3
 replace ⟨a0, a1, a2, a3⟩ := F4 xw a0 a1 a2 a3
 replace ⟨qa0, qa1, qa2, qa3⟩ := F4 xw qa0 qa1 qa2 qa3
 replace ha := hid ((NT.mk ha hT0.out).keepF xw)
 replace hqa := hid ((NT.mk hqa hT0.out).keepF xw)
 simp only [nv, Tr.k, Tr.t, Tr.n, Tr.l, lC, lN, zA] at ha
 simp only [nv] at hqa
 clear K
 go_enter Tryz.func141, Tryz.ntmps141
 go_wp2_with ((first | (go_at_call 67; (first | refine (pl [[105, 109, 112, 111, 114, 116, 32]] hp1.out (lo HL.out)).mono ?_ | refine (pl [[116, 121, 112, 101, 32]] hp1.out (lo HL.out)).mono ?_ | refine (pl [qa.t] hp1.out (lo HL.out)).mono ?_ | refine (pl [[32, 102, 114, 111, 109, 32]] hp1.out (lo HL.out)).mono ?_ | refine (pl [quote t, [59]] hp1.out (lo HL.out)).mono ?_); rintro e w67 ⟨rfl, hq, z_⟩) | (go_at_call 133; refine (quote_p t Hv.out htl B _ hT.out).mono ?_; rintro e w133 ⟨rfl, z_⟩; have hq := hp1.out.keepF z_; replace z_ := Px.of (B := B) (pb := pb) z_)) <;> (replace ⟨pp, hp1, HB, c0, c1, c2, c3⟩ := Q5 z_ pp hq HB hne; replace ⟨a0, a1, a2, a3⟩ := P4 z_ hpb.out hgB a0 a1 a2 a3; replace ha := hid (ha.out.keepP z_ hpb.out); replace ⟨qa0, qa1, qa2, qa3⟩ := P4 z_ hpb.out hgqa qa0 qa1 qa2 qa3; replace hqa := hid (hqa.out.keepP z_ hpb.out); replace ⟨hd, hk, hT⟩ := D3 z_ hpb hd hk hT))
 all_goals
  try simp only [Exit.inBlock, Exit.then]
  refine be rfl rfl ?_
  exact ⟨rfl, hp1.out.cast (by first | (simp only [mC, mN, List.append_assoc, List.cons_append, List.nil_append, List.append_nil]; done) | (simp; done) | (simp <;> first | rfl | exact ⟨rfl, rfl⟩)), pp.out⟩

theorem imp_2_0 (t : Bs) (qa qb : Tr) (r : List Tr) (B pb : Nat) (L : List Pc) (w : World) (v : Value) (hp : PrAt B w pb L) (h : NT B w v (.mk 60 t 0 (.mk 61 [100, 101, 102, 97, 117, 108, 116] 0 [qa] :: .mk 61 [42] 0 [qb] :: r))) (hv : valid t = true)  : Pn 141 B pb w L v ([wd [105, 109, 112, 111, 114, 116, 32]] ++ [wd qa.t] ++ [wd [44, 32]] ++ [wd [42, 32, 97, 115, 32], wd qb.t] ++ [wd [32, 102, 114, 111, 109, 32]] ++ [wd (quote t), wd [59]]) := by
 intro hl
 have hsv := sv_list
 obtain ⟨p, c, rfl, hks, hkr, hnr, htl, hcp, hkid, hpb, hne, xw, pp, HB, ⟨c0, c1, c2, c3⟩, hd, hk, hT0, hT, hp1⟩ := hS hp h
 have HL := hid hl
 have K := hid hkid
 have hll := hid hcp.2
 have Hv := hid hv
 clear hv
 have h1l : (1 : Int) ≤ ((r.length : Int) + 1 + 1) := by omega
 have h0l : (0 : Int) < ((r.length : Int) + 1) := by omega
 have h0m : (0 : Int) < ((r.length : Int) + 1 + 1) := by omega
 have hc1 : ¬ c = 1 := by have := hcp.1; simp only [lC] at this; omega
 have hc1b : ¬ c - 1 = 0 := by have := hcp.1; simp only [lC] at this; omega
 clear h hks hkid hcp hkr hnr hp hl
 simp only [nv, Tr.k, Tr.t, Tr.n, Tr.l, lC, lN, zA, Nat.reduceAdd] at hd hk HB pp c0 c1 c2 c3 ⊢
 obtain ⟨g, o, s0, rfl, hgB, a0, a1, a2, a3, ha⟩ := K.out 0 (by simp)
 obtain ⟨g1, o1, s1, hgo, hgB1, b0, b1, b2, b3, hb⟩ := K.out 1 (by simp)
 simp only [Option.some.injEq, Addr.mk.injEq, and_true] at hgo
 obtain ⟨rfl, rfl⟩ := hgo
 simp only [gZ, gS, zM, oM, aZ, lC, lN, zA, Nat.reduceAdd, Nat.reduceMul] at *
 simp only [Tr.k, Tr.t, Tr.n] at a0 a1 a2 b0 b1 b2
 obtain ⟨sla, hsa, hksa, _, _, htla⟩ := id ha.open
 obtain rfl : s0 = sla := by simpa [nv, Tr.k, Tr.t, Tr.n] using hsa
 simp only [Tr.k, Tr.t, Tr.n, Tr.l] at hksa htla
 obtain ⟨pa, ca, rfl, _, hkida⟩ := hksa.kid
 have Ka := hid hkida
 clear hsa hksa hkida
 simp only [lC, lN, zA] at *
 obtain ⟨gqa, oqa, sqa, rfl, hgqa, qa0, qa1, qa2, qa3, hqa⟩ := Ka.out 0 (by simp)
 simp only [gZ] at qa0 qa1 qa2 hqa
 obtain ⟨slqa, hsqa, hksqa, _⟩ := id hqa.open
 obtain rfl : sqa = slqa := by simpa [nv] using hsqa
 clear hsqa Ka
 obtain ⟨pqa, cqa, rfl, _⟩ := hksqa.kid
 clear hksqa
 simp only [zM, aZ] at qa0 qa1 qa2 qa3
 replace ⟨a0, a1, a2, a3⟩ := F4 xw a0 a1 a2 a3
 replace ⟨qa0, qa1, qa2, qa3⟩ := F4 xw qa0 qa1 qa2 qa3
 replace ha := hid ((NT.mk ha hT0.out).keepF xw)
 replace hqa := hid ((NT.mk hqa hT0.out).keepF xw)
 simp only [nv, Tr.k, Tr.t, Tr.n, Tr.l, lC, lN, zA] at ha
 simp only [nv] at hqa
 obtain ⟨slb, hsb, hksb, _, _, htlb⟩ := id hb.open
 obtain rfl : s1 = slb := by simpa [nv, Tr.k, Tr.t, Tr.n] using hsb
 simp only [Tr.k, Tr.t, Tr.n, Tr.l] at hksb htlb
 obtain ⟨pb, cb, rfl, _, hkidb⟩ := hksb.kid
 have Kb := hid hkidb
 clear hsb hksb hkidb
 simp only [lC, lN, zA] at *
 obtain ⟨gqb, oqb, sqb, rfl, hgqb, qb0, qb1, qb2, qb3, hqb⟩ := Kb.out 0 (by simp)
 simp only [gZ] at qb0 qb1 qb2 hqb
 obtain ⟨slqb, hsqb, hksqb, _⟩ := id hqb.open
 obtain rfl : sqb = slqb := by simpa [nv] using hsqb
 clear hsqb Kb
 obtain ⟨pqb, cqb, rfl, _⟩ := hksqb.kid
 clear hksqb
 simp only [zM, aZ] at qb0 qb1 qb2 qb3
 replace ⟨b0, b1, b2, b3⟩ := F4 xw b0 b1 b2 b3
 replace ⟨qb0, qb1, qb2, qb3⟩ := F4 xw qb0 qb1 qb2 qb3
 replace hb := hid ((NT.mk hb hT0.out).keepF xw)
 replace hqb := hid ((NT.mk hqb hT0.out).keepF xw)
 simp only [nv, Tr.k, Tr.t, Tr.n, Tr.l, lC, lN, zA] at hb
 simp only [nv] at hqb
 clear K
 go_enter Tryz.func141, Tryz.ntmps141
 go_wp2_with ((first | (go_at_call 67; (first | refine (pl [[105, 109, 112, 111, 114, 116, 32]] hp1.out (lo HL.out)).mono ?_ | refine (pl [qa.t] hp1.out (lo HL.out)).mono ?_ | refine (pl [[44, 32]] hp1.out (lo HL.out)).mono ?_ | refine (pl [[42, 32, 97, 115, 32], qb.t] hp1.out (lo HL.out)).mono ?_ | refine (pl [[32, 102, 114, 111, 109, 32]] hp1.out (lo HL.out)).mono ?_ | refine (pl [quote t, [59]] hp1.out (lo HL.out)).mono ?_); rintro e w67 ⟨rfl, hq, z_⟩) | (go_at_call 133; refine (quote_p t Hv.out htl B _ hT.out).mono ?_; rintro e w133 ⟨rfl, z_⟩; have hq := hp1.out.keepF z_; replace z_ := Px.of (B := B) (pb := pb) z_)) <;> (replace ⟨pp, hp1, HB, c0, c1, c2, c3⟩ := Q5 z_ pp hq HB hne; replace ⟨a0, a1, a2, a3⟩ := P4 z_ hpb.out hgB a0 a1 a2 a3; replace ha := hid (ha.out.keepP z_ hpb.out); replace ⟨qa0, qa1, qa2, qa3⟩ := P4 z_ hpb.out hgqa qa0 qa1 qa2 qa3; replace hqa := hid (hqa.out.keepP z_ hpb.out); replace ⟨b0, b1, b2, b3⟩ := P4 z_ hpb.out hgB b0 b1 b2 b3; replace hb := hid (hb.out.keepP z_ hpb.out); replace ⟨qb0, qb1, qb2, qb3⟩ := P4 z_ hpb.out hgqb qb0 qb1 qb2 qb3; replace hqb := hid (hqb.out.keepP z_ hpb.out); replace ⟨hd, hk, hT⟩ := D3 z_ hpb hd hk hT))
 try simp only [Exit.inBlock, Exit.then]
 refine be rfl rfl ?_
 exact ⟨rfl, hp1.out.cast (by first | (simp only [mC, mN, List.append_assoc, List.cons_append, List.nil_append, List.append_nil]; done) | (simp; done) | (simp <;> first | rfl | exact ⟨rfl, rfl⟩)), pp.out⟩

theorem imp_2_1 (t : Bs) (qa qb : Tr) (r : List Tr) (B pb : Nat) (L : List Pc) (w : World) (v : Value) (hp : PrAt B w pb L) (h : NT B w v (.mk 60 t 1 (.mk 61 [100, 101, 102, 97, 117, 108, 116] 0 [qa] :: .mk 61 [42] 0 [qb] :: r))) (hv : valid t = true)  : Pn 141 B pb w L v ([wd [105, 109, 112, 111, 114, 116, 32]] ++ [wd [116, 121, 112, 101, 32]] ++ [wd qa.t] ++ [wd [44, 32]] ++ [wd [42, 32, 97, 115, 32], wd qb.t] ++ [wd [32, 102, 114, 111, 109, 32]] ++ [wd (quote t), wd [59]]) := by
 intro hl
 have hsv := sv_list
 obtain ⟨p, c, rfl, hks, hkr, hnr, htl, hcp, hkid, hpb, hne, xw, pp, HB, ⟨c0, c1, c2, c3⟩, hd, hk, hT0, hT, hp1⟩ := hS hp h
 have HL := hid hl
 have K := hid hkid
 have hll := hid hcp.2
 have Hv := hid hv
 clear hv
 have h1l : (1 : Int) ≤ ((r.length : Int) + 1 + 1) := by omega
 have h0l : (0 : Int) < ((r.length : Int) + 1) := by omega
 have h0m : (0 : Int) < ((r.length : Int) + 1 + 1) := by omega
 have hc1 : ¬ c = 1 := by have := hcp.1; simp only [lC] at this; omega
 have hc1b : ¬ c - 1 = 0 := by have := hcp.1; simp only [lC] at this; omega
 clear h hks hkid hcp hkr hnr hp hl
 simp only [nv, Tr.k, Tr.t, Tr.n, Tr.l, lC, lN, zA, Nat.reduceAdd] at hd hk HB pp c0 c1 c2 c3 ⊢
 obtain ⟨g, o, s0, rfl, hgB, a0, a1, a2, a3, ha⟩ := K.out 0 (by simp)
 obtain ⟨g1, o1, s1, hgo, hgB1, b0, b1, b2, b3, hb⟩ := K.out 1 (by simp)
 simp only [Option.some.injEq, Addr.mk.injEq, and_true] at hgo
 obtain ⟨rfl, rfl⟩ := hgo
 simp only [gZ, gS, zM, oM, aZ, lC, lN, zA, Nat.reduceAdd, Nat.reduceMul] at *
 simp only [Tr.k, Tr.t, Tr.n] at a0 a1 a2 b0 b1 b2
 obtain ⟨sla, hsa, hksa, _, _, htla⟩ := id ha.open
 obtain rfl : s0 = sla := by simpa [nv, Tr.k, Tr.t, Tr.n] using hsa
 simp only [Tr.k, Tr.t, Tr.n, Tr.l] at hksa htla
 obtain ⟨pa, ca, rfl, _, hkida⟩ := hksa.kid
 have Ka := hid hkida
 clear hsa hksa hkida
 simp only [lC, lN, zA] at *
 obtain ⟨gqa, oqa, sqa, rfl, hgqa, qa0, qa1, qa2, qa3, hqa⟩ := Ka.out 0 (by simp)
 simp only [gZ] at qa0 qa1 qa2 hqa
 obtain ⟨slqa, hsqa, hksqa, _⟩ := id hqa.open
 obtain rfl : sqa = slqa := by simpa [nv] using hsqa
 clear hsqa Ka
 obtain ⟨pqa, cqa, rfl, _⟩ := hksqa.kid
 clear hksqa
 simp only [zM, aZ] at qa0 qa1 qa2 qa3
 replace ⟨a0, a1, a2, a3⟩ := F4 xw a0 a1 a2 a3
 replace ⟨qa0, qa1, qa2, qa3⟩ := F4 xw qa0 qa1 qa2 qa3
 replace ha := hid ((NT.mk ha hT0.out).keepF xw)
 replace hqa := hid ((NT.mk hqa hT0.out).keepF xw)
 simp only [nv, Tr.k, Tr.t, Tr.n, Tr.l, lC, lN, zA] at ha
 simp only [nv] at hqa
 obtain ⟨slb, hsb, hksb, _, _, htlb⟩ := id hb.open
 obtain rfl : s1 = slb := by simpa [nv, Tr.k, Tr.t, Tr.n] using hsb
 simp only [Tr.k, Tr.t, Tr.n, Tr.l] at hksb htlb
 obtain ⟨pb, cb, rfl, _, hkidb⟩ := hksb.kid
 have Kb := hid hkidb
 clear hsb hksb hkidb
 simp only [lC, lN, zA] at *
 obtain ⟨gqb, oqb, sqb, rfl, hgqb, qb0, qb1, qb2, qb3, hqb⟩ := Kb.out 0 (by simp)
 simp only [gZ] at qb0 qb1 qb2 hqb
 obtain ⟨slqb, hsqb, hksqb, _⟩ := id hqb.open
 obtain rfl : sqb = slqb := by simpa [nv] using hsqb
 clear hsqb Kb
 obtain ⟨pqb, cqb, rfl, _⟩ := hksqb.kid
 clear hksqb
 simp only [zM, aZ] at qb0 qb1 qb2 qb3
 replace ⟨b0, b1, b2, b3⟩ := F4 xw b0 b1 b2 b3
 replace ⟨qb0, qb1, qb2, qb3⟩ := F4 xw qb0 qb1 qb2 qb3
 replace hb := hid ((NT.mk hb hT0.out).keepF xw)
 replace hqb := hid ((NT.mk hqb hT0.out).keepF xw)
 simp only [nv, Tr.k, Tr.t, Tr.n, Tr.l, lC, lN, zA] at hb
 simp only [nv] at hqb
 clear K
 go_enter Tryz.func141, Tryz.ntmps141
 go_wp2_with ((first | (go_at_call 67; (first | refine (pl [[105, 109, 112, 111, 114, 116, 32]] hp1.out (lo HL.out)).mono ?_ | refine (pl [[116, 121, 112, 101, 32]] hp1.out (lo HL.out)).mono ?_ | refine (pl [qa.t] hp1.out (lo HL.out)).mono ?_ | refine (pl [[44, 32]] hp1.out (lo HL.out)).mono ?_ | refine (pl [[42, 32, 97, 115, 32], qb.t] hp1.out (lo HL.out)).mono ?_ | refine (pl [[32, 102, 114, 111, 109, 32]] hp1.out (lo HL.out)).mono ?_ | refine (pl [quote t, [59]] hp1.out (lo HL.out)).mono ?_); rintro e w67 ⟨rfl, hq, z_⟩) | (go_at_call 133; refine (quote_p t Hv.out htl B _ hT.out).mono ?_; rintro e w133 ⟨rfl, z_⟩; have hq := hp1.out.keepF z_; replace z_ := Px.of (B := B) (pb := pb) z_)) <;> (replace ⟨pp, hp1, HB, c0, c1, c2, c3⟩ := Q5 z_ pp hq HB hne; replace ⟨a0, a1, a2, a3⟩ := P4 z_ hpb.out hgB a0 a1 a2 a3; replace ha := hid (ha.out.keepP z_ hpb.out); replace ⟨qa0, qa1, qa2, qa3⟩ := P4 z_ hpb.out hgqa qa0 qa1 qa2 qa3; replace hqa := hid (hqa.out.keepP z_ hpb.out); replace ⟨b0, b1, b2, b3⟩ := P4 z_ hpb.out hgB b0 b1 b2 b3; replace hb := hid (hb.out.keepP z_ hpb.out); replace ⟨qb0, qb1, qb2, qb3⟩ := P4 z_ hpb.out hgqb qb0 qb1 qb2 qb3; replace hqb := hid (hqb.out.keepP z_ hpb.out); replace ⟨hd, hk, hT⟩ := D3 z_ hpb hd hk hT))
 try simp only [Exit.inBlock, Exit.then]
 refine be rfl rfl ?_
 exact ⟨rfl, hp1.out.cast (by first | (simp only [mC, mN, List.append_assoc, List.cons_append, List.nil_append, List.append_nil]; done) | (simp; done) | (simp <;> first | rfl | exact ⟨rfl, rfl⟩)), pp.out⟩

theorem imp_3_0 (t : Bs) (tb : Bs) (qa qb : Tr) (r : List Tr) (B pb : Nat) (L : List Pc) (w : World) (v : Value) (hp : PrAt B w pb L) (h : NT B w v (.mk 60 t 0 (.mk 61 [100, 101, 102, 97, 117, 108, 116] 0 [qa] :: .mk 61 tb 0 [qb] :: r))) (hv : valid t = true) (hr : ∀ y ∈ r, ∃ ky kt z, y = .mk ky kt 0 [z]) (hs : tb ≠ [42]) : Pn 141 B pb w L v ([wd [105, 109, 112, 111, 114, 116, 32]] ++ [wd qa.t] ++ [wd [44, 32]] ++ [wd [123, 32]] ++ namesP true (.mk 61 tb 0 [qb] :: r) ++ [wd [32, 125]] ++ [wd [32, 102, 114, 111, 109, 32]] ++ [wd (quote t), wd [59]]) := by
 intro hl
 have hsv := sv_list
 obtain ⟨p, c, rfl, hks, hkr, hnr, htl, hcp, hkid, hpb, hne, xw, pp, HB, ⟨c0, c1, c2, c3⟩, hd, hk, hT0, hT, hp1⟩ := hS hp h
 have HL := hid hl
 have K := hid hkid
 have hll := hid hcp.2
 have Hv := hid hv
 clear hv
 have h1l : (1 : Int) ≤ ((r.length : Int) + 1 + 1) := by omega
 have h0l : (0 : Int) < ((r.length : Int) + 1) := by omega
 have h0m : (0 : Int) < ((r.length : Int) + 1 + 1) := by omega
 have hc1 : ¬ c = 1 := by have := hcp.1; simp only [lC] at this; omega
 have hc1b : ¬ c - 1 = 0 := by have := hcp.1; simp only [lC] at this; omega
 have Hr := hid hr
 have hns : (tb == [42]) = false := by simpa using hs
 clear hr hs
 clear h hks hkid hcp hkr hnr hp hl
 simp only [nv, Tr.k, Tr.t, Tr.n, Tr.l, lC, lN, zA, Nat.reduceAdd] at hd hk HB pp c0 c1 c2 c3 ⊢
 obtain ⟨g, o, s0, rfl, hgB, a0, a1, a2, a3, ha⟩ := K.out 0 (by simp)
 obtain ⟨g1, o1, s1, hgo, hgB1, b0, b1, b2, b3, hb⟩ := K.out 1 (by simp)
 simp only [Option.some.injEq, Addr.mk.injEq, and_true] at hgo
 obtain ⟨rfl, rfl⟩ := hgo
 simp only [gZ, gS, zM, oM, aZ, lC, lN, zA, Nat.reduceAdd, Nat.reduceMul] at *
 simp only [Tr.k, Tr.t, Tr.n] at a0 a1 a2 b0 b1 b2
 obtain ⟨sla, hsa, hksa, _, _, htla⟩ := id ha.open
 obtain rfl : s0 = sla := by simpa [nv, Tr.k, Tr.t, Tr.n] using hsa
 simp only [Tr.k, Tr.t, Tr.n, Tr.l] at hksa htla
 obtain ⟨pa, ca, rfl, _, hkida⟩ := hksa.kid
 have Ka := hid hkida
 clear hsa hksa hkida
 simp only [lC, lN, zA] at *
 obtain ⟨gqa, oqa, sqa, rfl, hgqa, qa0, qa1, qa2, qa3, hqa⟩ := Ka.out 0 (by simp)
 simp only [gZ] at qa0 qa1 qa2 hqa
 obtain ⟨slqa, hsqa, hksqa, _⟩ := id hqa.open
 obtain rfl : sqa = slqa := by simpa [nv] using hsqa
 clear hsqa Ka
 obtain ⟨pqa, cqa, rfl, _⟩ := hksqa.kid
 clear hksqa
 simp only [zM, aZ] at qa0 qa1 qa2 qa3
 replace ⟨a0, a1, a2, a3⟩ := F4 xw a0 a1 a2 a3
 replace ⟨qa0, qa1, qa2, qa3⟩ := F4 xw qa0 qa1 qa2 qa3
 replace ha := hid ((NT.mk ha hT0.out).keepF xw)
 replace hqa := hid ((NT.mk hqa hT0.out).keepF xw)
 simp only [nv, Tr.k, Tr.t, Tr.n, Tr.l, lC, lN, zA] at ha
 simp only [nv] at hqa
 obtain ⟨slb, hsb, hksb, _, _, htlb⟩ := id hb.open
 obtain rfl : s1 = slb := by simpa [nv, Tr.k, Tr.t, Tr.n] using hsb
 simp only [Tr.k, Tr.t, Tr.n, Tr.l] at hksb htlb
 obtain ⟨pb, cb, rfl, _, hkidb⟩ := hksb.kid
 have Kb := hid hkidb
 clear hsb hksb hkidb
 simp only [lC, lN, zA] at *
 obtain ⟨gqb, oqb, sqb, rfl, hgqb, qb0, qb1, qb2, qb3, hqb⟩ := Kb.out 0 (by simp)
 simp only [gZ] at qb0 qb1 qb2 hqb
 obtain ⟨slqb, hsqb, hksqb, _⟩ := id hqb.open
 obtain rfl : sqb = slqb := by simpa [nv] using hsqb
 clear hsqb Kb
 obtain ⟨pqb, cqb, rfl, _⟩ := hksqb.kid
 clear hksqb
 simp only [zM, aZ] at qb0 qb1 qb2 qb3
 replace ⟨b0, b1, b2, b3⟩ := F4 xw b0 b1 b2 b3
 replace ⟨qb0, qb1, qb2, qb3⟩ := F4 xw qb0 qb1 qb2 qb3
 replace hb := hid ((NT.mk hb hT0.out).keepF xw)
 replace hqb := hid ((NT.mk hqb hT0.out).keepF xw)
 simp only [nv, Tr.k, Tr.t, Tr.n, Tr.l, lC, lN, zA] at hb
 simp only [nv] at hqb
 clear K
 go_enter Tryz.func141, Tryz.ntmps141
 go_wp2_with ((first | (go_at_call 67; (first | refine (pl [[105, 109, 112, 111, 114, 116, 32]] hp1.out (lo HL.out)).mono ?_ | refine (pl [qa.t] hp1.out (lo HL.out)).mono ?_ | refine (pl [[44, 32]] hp1.out (lo HL.out)).mono ?_ | refine (pl [[32, 102, 114, 111, 109, 32]] hp1.out (lo HL.out)).mono ?_ | refine (pl [quote t, [59]] hp1.out (lo HL.out)).mono ?_); rintro e w67 ⟨rfl, hq, z_⟩) | (go_at_call 183; refine (names_p (.mk 61 tb 0 [qb] :: r) hp1.out (KidsAt.tail hk.out) hT.out (fun y hy => by rcases List.mem_cons.1 hy with rfl | hy; exact ⟨_, _, _, rfl⟩; exact Hr.out y hy) (lo HL.out)).mono ?_; rintro e w183 ⟨rfl, hq, z_⟩) | (go_at_call 133; refine (quote_p t Hv.out htl B _ hT.out).mono ?_; rintro e w133 ⟨rfl, z_⟩; have hq := hp1.out.keepF z_; replace z_ := Px.of (B := B) (pb := pb) z_)) <;> (replace ⟨pp, hp1, HB, c0, c1, c2, c3⟩ := Q5 z_ pp hq HB hne; replace ⟨a0, a1, a2, a3⟩ := P4 z_ hpb.out hgB a0 a1 a2 a3; replace ha := hid (ha.out.keepP z_ hpb.out); replace ⟨qa0, qa1, qa2, qa3⟩ := P4 z_ hpb.out hgqa qa0 qa1 qa2 qa3; replace hqa := hid (hqa.out.keepP z_ hpb.out); replace ⟨b0, b1, b2, b3⟩ := P4 z_ hpb.out hgB b0 b1 b2 b3; replace hb := hid (hb.out.keepP z_ hpb.out); replace ⟨qb0, qb1, qb2, qb3⟩ := P4 z_ hpb.out hgqb qb0 qb1 qb2 qb3; replace hqb := hid (hqb.out.keepP z_ hpb.out); replace ⟨hd, hk, hT⟩ := D3 z_ hpb hd hk hT))
 try simp only [Exit.inBlock, Exit.then]
 refine be rfl rfl ?_
 exact ⟨rfl, hp1.out.cast (by first | (simp only [mC, mN, List.append_assoc, List.cons_append, List.nil_append, List.append_nil]; done) | (simp; done) | (simp <;> first | rfl | exact ⟨rfl, rfl⟩)), pp.out⟩

theorem imp_3_1 (t : Bs) (tb : Bs) (qa qb : Tr) (r : List Tr) (B pb : Nat) (L : List Pc) (w : World) (v : Value) (hp : PrAt B w pb L) (h : NT B w v (.mk 60 t 1 (.mk 61 [100, 101, 102, 97, 117, 108, 116] 0 [qa] :: .mk 61 tb 0 [qb] :: r))) (hv : valid t = true) (hr : ∀ y ∈ r, ∃ ky kt z, y = .mk ky kt 0 [z]) (hs : tb ≠ [42]) : Pn 141 B pb w L v ([wd [105, 109, 112, 111, 114, 116, 32]] ++ [wd [116, 121, 112, 101, 32]] ++ [wd qa.t] ++ [wd [44, 32]] ++ [wd [123, 32]] ++ namesP true (.mk 61 tb 0 [qb] :: r) ++ [wd [32, 125]] ++ [wd [32, 102, 114, 111, 109, 32]] ++ [wd (quote t), wd [59]]) := by
 intro hl
 have hsv := sv_list
 obtain ⟨p, c, rfl, hks, hkr, hnr, htl, hcp, hkid, hpb, hne, xw, pp, HB, ⟨c0, c1, c2, c3⟩, hd, hk, hT0, hT, hp1⟩ := hS hp h
 have HL := hid hl
 have K := hid hkid
 have hll := hid hcp.2
 have Hv := hid hv
 clear hv
 have h1l : (1 : Int) ≤ ((r.length : Int) + 1 + 1) := by omega
 have h0l : (0 : Int) < ((r.length : Int) + 1) := by omega
 have h0m : (0 : Int) < ((r.length : Int) + 1 + 1) := by omega
 have hc1 : ¬ c = 1 := by have := hcp.1; simp only [lC] at this; omega
 have hc1b : ¬ c - 1 = 0 := by have := hcp.1; simp only [lC] at this; omega
 have Hr := hid hr
 have hns : (tb == [42]) = false := by simpa using hs
 clear hr hs
 clear h hks hkid hcp hkr hnr hp hl
 simp only [nv, Tr.k, Tr.t, Tr.n, Tr.l, lC, lN, zA, Nat.reduceAdd] at hd hk HB pp c0 c1 c2 c3 ⊢
 obtain ⟨g, o, s0, rfl, hgB, a0, a1, a2, a3, ha⟩ := K.out 0 (by simp)
 obtain ⟨g1, o1, s1, hgo, hgB1, b0, b1, b2, b3, hb⟩ := K.out 1 (by simp)
 simp only [Option.some.injEq, Addr.mk.injEq, and_true] at hgo
 obtain ⟨rfl, rfl⟩ := hgo
 simp only [gZ, gS, zM, oM, aZ, lC, lN, zA, Nat.reduceAdd, Nat.reduceMul] at *
 simp only [Tr.k, Tr.t, Tr.n] at a0 a1 a2 b0 b1 b2
 obtain ⟨sla, hsa, hksa, _, _, htla⟩ := id ha.open
 obtain rfl : s0 = sla := by simpa [nv, Tr.k, Tr.t, Tr.n] using hsa
 simp only [Tr.k, Tr.t, Tr.n, Tr.l] at hksa htla
 obtain ⟨pa, ca, rfl, _, hkida⟩ := hksa.kid
 have Ka := hid hkida
 clear hsa hksa hkida
 simp only [lC, lN, zA] at *
 obtain ⟨gqa, oqa, sqa, rfl, hgqa, qa0, qa1, qa2, qa3, hqa⟩ := Ka.out 0 (by simp)
 simp only [gZ] at qa0 qa1 qa2 hqa
 obtain ⟨slqa, hsqa, hksqa, _⟩ := id hqa.open
 obtain rfl : sqa = slqa := by simpa [nv] using hsqa
 clear hsqa Ka
 obtain ⟨pqa, cqa, rfl, _⟩ := hksqa.kid
 clear hksqa
 simp only [zM, aZ] at qa0 qa1 qa2 qa3
 replace ⟨a0, a1, a2, a3⟩ := F4 xw a0 a1 a2 a3
 replace ⟨qa0, qa1, qa2, qa3⟩ := F4 xw qa0 qa1 qa2 qa3
 replace ha := hid ((NT.mk ha hT0.out).keepF xw)
 replace hqa := hid ((NT.mk hqa hT0.out).keepF xw)
 simp only [nv, Tr.k, Tr.t, Tr.n, Tr.l, lC, lN, zA] at ha
 simp only [nv] at hqa
 obtain ⟨slb, hsb, hksb, _, _, htlb⟩ := id hb.open
 obtain rfl : s1 = slb := by simpa [nv, Tr.k, Tr.t, Tr.n] using hsb
 simp only [Tr.k, Tr.t, Tr.n, Tr.l] at hksb htlb
 obtain ⟨pb, cb, rfl, _, hkidb⟩ := hksb.kid
 have Kb := hid hkidb
 clear hsb hksb hkidb
 simp only [lC, lN, zA] at *
 obtain ⟨gqb, oqb, sqb, rfl, hgqb, qb0, qb1, qb2, qb3, hqb⟩ := Kb.out 0 (by simp)
 simp only [gZ] at qb0 qb1 qb2 hqb
 obtain ⟨slqb, hsqb, hksqb, _⟩ := id hqb.open
 obtain rfl : sqb = slqb := by simpa [nv] using hsqb
 clear hsqb Kb
 obtain ⟨pqb, cqb, rfl, _⟩ := hksqb.kid
 clear hksqb
 simp only [zM, aZ] at qb0 qb1 qb2 qb3
 replace ⟨b0, b1, b2, b3⟩ := F4 xw b0 b1 b2 b3
 replace ⟨qb0, qb1, qb2, qb3⟩ := F4 xw qb0 qb1 qb2 qb3
 replace hb := hid ((NT.mk hb hT0.out).keepF xw)
 replace hqb := hid ((NT.mk hqb hT0.out).keepF xw)
 simp only [nv, Tr.k, Tr.t, Tr.n, Tr.l, lC, lN, zA] at hb
 simp only [nv] at hqb
 clear K
 go_enter Tryz.func141, Tryz.ntmps141
 go_wp2_with ((first | (go_at_call 67; (first | refine (pl [[105, 109, 112, 111, 114, 116, 32]] hp1.out (lo HL.out)).mono ?_ | refine (pl [[116, 121, 112, 101, 32]] hp1.out (lo HL.out)).mono ?_ | refine (pl [qa.t] hp1.out (lo HL.out)).mono ?_ | refine (pl [[44, 32]] hp1.out (lo HL.out)).mono ?_ | refine (pl [[32, 102, 114, 111, 109, 32]] hp1.out (lo HL.out)).mono ?_ | refine (pl [quote t, [59]] hp1.out (lo HL.out)).mono ?_); rintro e w67 ⟨rfl, hq, z_⟩) | (go_at_call 183; refine (names_p (.mk 61 tb 0 [qb] :: r) hp1.out (KidsAt.tail hk.out) hT.out (fun y hy => by rcases List.mem_cons.1 hy with rfl | hy; exact ⟨_, _, _, rfl⟩; exact Hr.out y hy) (lo HL.out)).mono ?_; rintro e w183 ⟨rfl, hq, z_⟩) | (go_at_call 133; refine (quote_p t Hv.out htl B _ hT.out).mono ?_; rintro e w133 ⟨rfl, z_⟩; have hq := hp1.out.keepF z_; replace z_ := Px.of (B := B) (pb := pb) z_)) <;> (replace ⟨pp, hp1, HB, c0, c1, c2, c3⟩ := Q5 z_ pp hq HB hne; replace ⟨a0, a1, a2, a3⟩ := P4 z_ hpb.out hgB a0 a1 a2 a3; replace ha := hid (ha.out.keepP z_ hpb.out); replace ⟨qa0, qa1, qa2, qa3⟩ := P4 z_ hpb.out hgqa qa0 qa1 qa2 qa3; replace hqa := hid (hqa.out.keepP z_ hpb.out); replace ⟨b0, b1, b2, b3⟩ := P4 z_ hpb.out hgB b0 b1 b2 b3; replace hb := hid (hb.out.keepP z_ hpb.out); replace ⟨qb0, qb1, qb2, qb3⟩ := P4 z_ hpb.out hgqb qb0 qb1 qb2 qb3; replace hqb := hid (hqb.out.keepP z_ hpb.out); replace ⟨hd, hk, hT⟩ := D3 z_ hpb hd hk hT))
 try simp only [Exit.inBlock, Exit.then]
 refine be rfl rfl ?_
 exact ⟨rfl, hp1.out.cast (by first | (simp only [mC, mN, List.append_assoc, List.cons_append, List.nil_append, List.append_nil]; done) | (simp; done) | (simp <;> first | rfl | exact ⟨rfl, rfl⟩)), pp.out⟩

theorem imp_4_0 (t : Bs) (qa : Tr) (r : List Tr) (B pb : Nat) (L : List Pc) (w : World) (v : Value) (hp : PrAt B w pb L) (h : NT B w v (.mk 60 t 0 (.mk 61 [42] 0 [qa] :: r))) (hv : valid t = true)  : Pn 141 B pb w L v ([wd [105, 109, 112, 111, 114, 116, 32]] ++ [wd [42, 32, 97, 115, 32], wd qa.t] ++ [wd [32, 102, 114, 111, 109, 32]] ++ [wd (quote t), wd [59]]) := by
 intro hl
 have hsv := sv_list
 obtain ⟨p, c, rfl, hks, hkr, hnr, htl, hcp, hkid, hpb, hne, xw, pp, HB, ⟨c0, c1, c2, c3⟩, hd, hk, hT0, hT, hp1⟩ := hS hp h
 have HL := hid hl
 have K := hid hkid
 have hll := hid hcp.2
 have Hv := hid hv
 clear hv
 have h0m : (0 : Int) < ((r.length : Int) + 1) := by omega
 clear h hks hkid hcp hkr hnr hp hl
 simp only [nv, Tr.k, Tr.t, Tr.n, Tr.l, lC, lN, zA, Nat.reduceAdd] at hd hk HB pp c0 c1 c2 c3 ⊢
 obtain ⟨g, o, s0, rfl, hgB, a0, a1, a2, a3, ha⟩ := K.out 0 (by simp)
 simp only [gZ, gS, zM, oM, aZ, lC, lN, zA, Nat.reduceAdd, Nat.reduceMul] at *
 simp only [Tr.k, Tr.t, Tr.n] at a0 a1 a2
 obtain ⟨sla, hsa, hksa, _, _, htla⟩ := id ha.open
 obtain rfl : s0 = sla := by simpa [nv, Tr.k, Tr.t, Tr.n] using hsa
 simp only [Tr.k, Tr.t, Tr.n, Tr.l] at hksa htla
 obtain ⟨pa, ca, rfl, _, hkida⟩ := hksa.kid
 have Ka := hid hkida
 clear hsa hksa hkida
 simp only [lC, lN, zA] at *
 obtain ⟨gqa, oqa, sqa, rfl, hgqa, qa0, qa1, qa2, qa3, hqa⟩ := Ka.out 0 (by simp)
 simp only [gZ] at qa0 qa1 qa2 hqa
 obtain ⟨slqa, hsqa, hksqa, _⟩ := id hqa.open
 obtain rfl : sqa = slqa := by simpa [nv] using hsqa
 clear hsqa Ka
 obtain ⟨pqa, cqa, rfl, _⟩ := hksqa.kid
 clear hksqa
 simp only [zM, aZ] at qa0 qa1 qa2 qa3
 replace ⟨a0, a1, a2, a3⟩ := F4 xw a0 a1 a2 a3
 replace ⟨qa0, qa1, qa2, qa3⟩ := F4 xw qa0 qa1 qa2 qa3
 replace ha := hid ((NT.mk ha hT0.out).keepF xw)
 replace hqa := hid ((NT.mk hqa hT0.out).keepF xw)
 simp only [nv, Tr.k, Tr.t, Tr.n, Tr.l, lC, lN, zA] at ha
 simp only [nv] at hqa
 clear K
 go_enter Tryz.func141, Tryz.ntmps141
 go_wp2_with ((first | (go_at_call 67; (first | refine (pl [[105, 109, 112, 111, 114, 116, 32]] hp1.out (lo HL.out)).mono ?_ | refine (pl [[42, 32, 97, 115, 32], qa.t] hp1.out (lo HL.out)).mono ?_ | refine (pl [[32, 102, 114, 111, 109, 32]] hp1.out (lo HL.out)).mono ?_ | refine (pl [quote t, [59]] hp1.out (lo HL.out)).mono ?_); rintro e w67 ⟨rfl, hq, z_⟩) | (go_at_call 133; refine (quote_p t Hv.out htl B _ hT.out).mono ?_; rintro e w133 ⟨rfl, z_⟩; have hq := hp1.out.keepF z_; replace z_ := Px.of (B := B) (pb := pb) z_)) <;> (replace ⟨pp, hp1, HB, c0, c1, c2, c3⟩ := Q5 z_ pp hq HB hne; replace ⟨a0, a1, a2, a3⟩ := P4 z_ hpb.out hgB a0 a1 a2 a3; replace ha := hid (ha.out.keepP z_ hpb.out); replace ⟨qa0, qa1, qa2, qa3⟩ := P4 z_ hpb.out hgqa qa0 qa1 qa2 qa3; replace hqa := hid (hqa.out.keepP z_ hpb.out); replace ⟨hd, hk, hT⟩ := D3 z_ hpb hd hk hT))
 try simp only [Exit.inBlock, Exit.then]
 refine be rfl rfl ?_
 exact ⟨rfl, hp1.out.cast (by first | (simp only [mC, mN, List.append_assoc, List.cons_append, List.nil_append, List.append_nil]; done) | (simp; done) | (simp <;> first | rfl | exact ⟨rfl, rfl⟩)), pp.out⟩

theorem imp_4_1 (t : Bs) (qa : Tr) (r : List Tr) (B pb : Nat) (L : List Pc) (w : World) (v : Value) (hp : PrAt B w pb L) (h : NT B w v (.mk 60 t 1 (.mk 61 [42] 0 [qa] :: r))) (hv : valid t = true)  : Pn 141 B pb w L v ([wd [105, 109, 112, 111, 114, 116, 32]] ++ [wd [116, 121, 112, 101, 32]] ++ [wd [42, 32, 97, 115, 32], wd qa.t] ++ [wd [32, 102, 114, 111, 109, 32]] ++ [wd (quote t), wd [59]]) := by
 intro hl
 have hsv := sv_list
 obtain ⟨p, c, rfl, hks, hkr, hnr, htl, hcp, hkid, hpb, hne, xw, pp, HB, ⟨c0, c1, c2, c3⟩, hd, hk, hT0, hT, hp1⟩ := hS hp h
 have HL := hid hl
 have K := hid hkid
 have hll := hid hcp.2
 have Hv := hid hv
 clear hv
 have h0m : (0 : Int) < ((r.length : Int) + 1) := by omega
 clear h hks hkid hcp hkr hnr hp hl
 simp only [nv, Tr.k, Tr.t, Tr.n, Tr.l, lC, lN, zA, Nat.reduceAdd] at hd hk HB pp c0 c1 c2 c3 ⊢
 obtain ⟨g, o, s0, rfl, hgB, a0, a1, a2, a3, ha⟩ := K.out 0 (by simp)
 simp only [gZ, gS, zM, oM, aZ, lC, lN, zA, Nat.reduceAdd, Nat.reduceMul] at *
 simp only [Tr.k, Tr.t, Tr.n] at a0 a1 a2
 obtain ⟨sla, hsa, hksa, _, _, htla⟩ := id ha.open
 obtain rfl : s0 = sla := by simpa [nv, Tr.k, Tr.t, Tr.n] using hsa
 simp only [Tr.k, Tr.t, Tr.n, Tr.l] at hksa htla
 obtain ⟨pa, ca, rfl, _, hkida⟩ := hksa.kid
 have Ka := hid hkida
 clear hsa hksa hkida
 simp only [lC, lN, zA] at *
 obtain ⟨gqa, oqa, sqa, rfl, hgqa, qa0, qa1, qa2, qa3, hqa⟩ := Ka.out 0 (by simp)
 simp only [gZ] at qa0 qa1 qa2 hqa
 obtain ⟨slqa, hsqa, hksqa, _⟩ := id hqa.open
 obtain rfl : sqa = slqa := by simpa [nv] using hsqa
 clear hsqa Ka
 obtain ⟨pqa, cqa, rfl, _⟩ := hksqa.kid
 clear hksqa
 simp only [zM, aZ] at qa0 qa1 qa2 qa3
 replace ⟨a0, a1, a2, a3⟩ := F4 xw a0 a1 a2 a3
 replace ⟨qa0, qa1, qa2, qa3⟩ := F4 xw qa0 qa1 qa2 qa3
 replace ha := hid ((NT.mk ha hT0.out).keepF xw)
 replace hqa := hid ((NT.mk hqa hT0.out).keepF xw)
 simp only [nv, Tr.k, Tr.t, Tr.n, Tr.l, lC, lN, zA] at ha
 simp only [nv] at hqa
 clear K
 go_enter Tryz.func141, Tryz.ntmps141
 go_wp2_with ((first | (go_at_call 67; (first | refine (pl [[105, 109, 112, 111, 114, 116, 32]] hp1.out (lo HL.out)).mono ?_ | refine (pl [[116, 121, 112, 101, 32]] hp1.out (lo HL.out)).mono ?_ | refine (pl [[42, 32, 97, 115, 32], qa.t] hp1.out (lo HL.out)).mono ?_ | refine (pl [[32, 102, 114, 111, 109, 32]] hp1.out (lo HL.out)).mono ?_ | refine (pl [quote t, [59]] hp1.out (lo HL.out)).mono ?_); rintro e w67 ⟨rfl, hq, z_⟩) | (go_at_call 133; refine (quote_p t Hv.out htl B _ hT.out).mono ?_; rintro e w133 ⟨rfl, z_⟩; have hq := hp1.out.keepF z_; replace z_ := Px.of (B := B) (pb := pb) z_)) <;> (replace ⟨pp, hp1, HB, c0, c1, c2, c3⟩ := Q5 z_ pp hq HB hne; replace ⟨a0, a1, a2, a3⟩ := P4 z_ hpb.out hgB a0 a1 a2 a3; replace ha := hid (ha.out.keepP z_ hpb.out); replace ⟨qa0, qa1, qa2, qa3⟩ := P4 z_ hpb.out hgqa qa0 qa1 qa2 qa3; replace hqa := hid (hqa.out.keepP z_ hpb.out); replace ⟨hd, hk, hT⟩ := D3 z_ hpb hd hk hT))
 try simp only [Exit.inBlock, Exit.then]
 refine be rfl rfl ?_
 exact ⟨rfl, hp1.out.cast (by first | (simp only [mC, mN, List.append_assoc, List.cons_append, List.nil_append, List.append_nil]; done) | (simp; done) | (simp <;> first | rfl | exact ⟨rfl, rfl⟩)), pp.out⟩

theorem imp_5_0 (t : Bs) (ta : Bs) (qa : Tr) (r : List Tr) (B pb : Nat) (L : List Pc) (w : World) (v : Value) (hp : PrAt B w pb L) (h : NT B w v (.mk 60 t 0 (.mk 61 ta 0 [qa] :: r))) (hv : valid t = true) (hr : ∀ y ∈ r, ∃ ky kt z, y = .mk ky kt 0 [z]) (hs : ta ≠ [42]) (hdf : ta ≠ [100, 101, 102, 97, 117, 108, 116]) : Pn 141 B pb w L v ([wd [105, 109, 112, 111, 114, 116, 32]] ++ [wd [123, 32]] ++ namesP true (.mk 61 ta 0 [qa] :: r) ++ [wd [32, 125]] ++ [wd [32, 102, 114, 111, 109, 32]] ++ [wd (quote t), wd [59]]) := by
 intro hl
 have hsv := sv_list
 obtain ⟨p, c, rfl, hks, hkr, hnr, htl, hcp, hkid, hpb, hne, xw, pp, HB, ⟨c0, c1, c2, c3⟩, hd, hk, hT0, hT, hp1⟩ := hS hp h
 have HL := hid hl
 have K := hid hkid
 have hll := hid hcp.2
 have Hv := hid hv
 clear hv
 have h0m : (0 : Int) < ((r.length : Int) + 1) := by omega
 have Hr := hid hr
 have hns : (ta == [42]) = false := by simpa using hs
 have hnd : (ta == [100, 101, 102, 97, 117, 108, 116]) = false := by simpa using hdf
 clear hr hs hdf
 clear h hks hkid hcp hkr hnr hp hl
 simp only [nv, Tr.k, Tr.t, Tr.n, Tr.l, lC, lN, zA, Nat.reduceAdd] at hd hk HB pp c0 c1 c2 c3 ⊢
 obtain ⟨g, o, s0, rfl, hgB, a0, a1, a2, a3, ha⟩ := K.out 0 (by simp)
 simp only [gZ, gS, zM, oM, aZ, lC, lN, zA, Nat.reduceAdd, Nat.reduceMul] at *
 simp only [Tr.k, Tr.t, Tr.n] at a0 a1 a2
 obtain ⟨sla, hsa, hksa, _, _, htla⟩ := id ha.open
 obtain rfl : s0 = sla := by simpa [nv, Tr.k, Tr.t, Tr.n] using hsa
 simp only [Tr.k, Tr.t, Tr.n, Tr.l] at hksa htla
 obtain ⟨pa, ca, rfl, _, hkida⟩ := hksa.kid
 have Ka := hid hkida
 clear hsa hksa hkida
 simp only [lC, lN, zA] at *
 obtain ⟨gqa, oqa, sqa, rfl, hgqa, qa0, qa1, qa2, qa3, hqa⟩ := Ka.out 0 (by simp)
 simp only [gZ] at qa0 qa1 qa2 hqa
 obtain ⟨slqa, hsqa, hksqa, _⟩ := id hqa.open
 obtain rfl : sqa = slqa := by simpa [nv] using hsqa
 clear hsqa Ka
 obtain ⟨pqa, cqa, rfl, _⟩ := hksqa.kid
 clear hksqa
 simp only [zM, aZ] at qa0 qa1 qa2 qa3
 replace ⟨a0, a1, a2, a3⟩ := F4 xw a0 a1 a2 a3
 replace ⟨qa0, qa1, qa2, qa3⟩ := F4 xw qa0 qa1 qa2 qa3
 replace ha := hid ((NT.mk ha hT0.out).keepF xw)
 replace hqa := hid ((NT.mk hqa hT0.out).keepF xw)
 simp only [nv, Tr.k, Tr.t, Tr.n, Tr.l, lC, lN, zA] at ha
 simp only [nv] at hqa
 clear K
 go_enter Tryz.func141, Tryz.ntmps141
 go_wp2_with ((first | (go_at_call 67; (first | refine (pl [[105, 109, 112, 111, 114, 116, 32]] hp1.out (lo HL.out)).mono ?_ | refine (pl [[32, 102, 114, 111, 109, 32]] hp1.out (lo HL.out)).mono ?_ | refine (pl [quote t, [59]] hp1.out (lo HL.out)).mono ?_); rintro e w67 ⟨rfl, hq, z_⟩) | (go_at_call 183; refine (names_p (.mk 61 ta 0 [qa] :: r) hp1.out hk.out hT.out (fun y hy => by rcases List.mem_cons.1 hy with rfl | hy; exact ⟨_, _, _, rfl⟩; exact Hr.out y hy) (lo HL.out)).mono ?_; rintro e w183 ⟨rfl, hq, z_⟩) | (go_at_call 133; refine (quote_p t Hv.out htl B _ hT.out).mono ?_; rintro e w133 ⟨rfl, z_⟩; have hq := hp1.out.keepF z_; replace z_ := Px.of (B := B) (pb := pb) z_)) <;> (replace ⟨pp, hp1, HB, c0, c1, c2, c3⟩ := Q5 z_ pp hq HB hne; replace ⟨a0, a1, a2, a3⟩ := P4 z_ hpb.out hgB a0 a1 a2 a3; replace ha := hid (ha.out.keepP z_ hpb.out); replace ⟨qa0, qa1, qa2, qa3⟩ := P4 z_ hpb.out hgqa qa0 qa1 qa2 qa3; replace hqa := hid (hqa.out.keepP z_ hpb.out); replace ⟨hd, hk, hT⟩ := D3 z_ hpb hd hk hT))
 try simp only [Exit.inBlock, Exit.then]
 refine be rfl rfl ?_
 exact ⟨rfl, hp1.out.cast (by first | (simp only [mC, mN, List.append_assoc, List.cons_append, List.nil_append, List.append_nil]; done) | (simp; done) | (simp <;> first | rfl | exact ⟨rfl, rfl⟩)), pp.out⟩

theorem imp_5_1 (t : Bs) (ta : Bs) (qa : Tr) (r : List Tr) (B pb : Nat) (L : List Pc) (w : World) (v : Value) (hp : PrAt B w pb L) (h : NT B w v (.mk 60 t 1 (.mk 61 ta 0 [qa] :: r))) (hv : valid t = true) (hr : ∀ y ∈ r, ∃ ky kt z, y = .mk ky kt 0 [z]) (hs : ta ≠ [42]) (hdf : ta ≠ [100, 101, 102, 97, 117, 108, 116]) : Pn 141 B pb w L v ([wd [105, 109, 112, 111, 114, 116, 32]] ++ [wd [116, 121, 112, 101, 32]] ++ [wd [123, 32]] ++ namesP true (.mk 61 ta 0 [qa] :: r) ++ [wd [32, 125]] ++ [wd [32, 102, 114, 111, 109, 32]] ++ [wd (quote t), wd [59]]) := by
 intro hl
 have hsv := sv_list
 obtain ⟨p, c, rfl, hks, hkr, hnr, htl, hcp, hkid, hpb, hne, xw, pp, HB, ⟨c0, c1, c2, c3⟩, hd, hk, hT0, hT, hp1⟩ := hS hp h
 have HL := hid hl
 have K := hid hkid
 have hll := hid hcp.2
 have Hv := hid hv
 clear hv
 have h0m : (0 : Int) < ((r.length : Int) + 1) := by omega
 have Hr := hid hr
 have hns : (ta == [42]) = false := by simpa using hs
 have hnd : (ta == [100, 101, 102, 97, 117, 108, 116]) = false := by simpa using hdf
 clear hr hs hdf
 clear h hks hkid hcp hkr hnr hp hl
 simp only [nv, Tr.k, Tr.t, Tr.n, Tr.l, lC, lN, zA, Nat.reduceAdd] at hd hk HB pp c0 c1 c2 c3 ⊢
 obtain ⟨g, o, s0, rfl, hgB, a0, a1, a2, a3, ha⟩ := K.out 0 (by simp)
 simp only [gZ, gS, zM, oM, aZ, lC, lN, zA, Nat.reduceAdd, Nat.reduceMul] at *
 simp only [Tr.k, Tr.t, Tr.n] at a0 a1 a2
 obtain ⟨sla, hsa, hksa, _, _, htla⟩ := id ha.open
 obtain rfl : s0 = sla := by simpa [nv, Tr.k, Tr.t, Tr.n] using hsa
 simp only [Tr.k, Tr.t, Tr.n, Tr.l] at hksa htla
 obtain ⟨pa, ca, rfl, _, hkida⟩ := hksa.kid
 have Ka := hid hkida
 clear hsa hksa hkida
 simp only [lC, lN, zA] at *
 obtain ⟨gqa, oqa, sqa, rfl, hgqa, qa0, qa1, qa2, qa3, hqa⟩ := Ka.out 0 (by simp)
 simp only [gZ] at qa0 qa1 qa2 hqa
 obtain ⟨slqa, hsqa, hksqa, _⟩ := id hqa.open
 obtain rfl : sqa = slqa := by simpa [nv] using hsqa
 clear hsqa Ka
 obtain ⟨pqa, cqa, rfl, _⟩ := hksqa.kid
 clear hksqa
 simp only [zM, aZ] at qa0 qa1 qa2 qa3
 replace ⟨a0, a1, a2, a3⟩ := F4 xw a0 a1 a2 a3
 replace ⟨qa0, qa1, qa2, qa3⟩ := F4 xw qa0 qa1 qa2 qa3
 replace ha := hid ((NT.mk ha hT0.out).keepF xw)
 replace hqa := hid ((NT.mk hqa hT0.out).keepF xw)
 simp only [nv, Tr.k, Tr.t, Tr.n, Tr.l, lC, lN, zA] at ha
 simp only [nv] at hqa
 clear K
 go_enter Tryz.func141, Tryz.ntmps141
 go_wp2_with ((first | (go_at_call 67; (first | refine (pl [[105, 109, 112, 111, 114, 116, 32]] hp1.out (lo HL.out)).mono ?_ | refine (pl [[116, 121, 112, 101, 32]] hp1.out (lo HL.out)).mono ?_ | refine (pl [[32, 102, 114, 111, 109, 32]] hp1.out (lo HL.out)).mono ?_ | refine (pl [quote t, [59]] hp1.out (lo HL.out)).mono ?_); rintro e w67 ⟨rfl, hq, z_⟩) | (go_at_call 183; refine (names_p (.mk 61 ta 0 [qa] :: r) hp1.out hk.out hT.out (fun y hy => by rcases List.mem_cons.1 hy with rfl | hy; exact ⟨_, _, _, rfl⟩; exact Hr.out y hy) (lo HL.out)).mono ?_; rintro e w183 ⟨rfl, hq, z_⟩) | (go_at_call 133; refine (quote_p t Hv.out htl B _ hT.out).mono ?_; rintro e w133 ⟨rfl, z_⟩; have hq := hp1.out.keepF z_; replace z_ := Px.of (B := B) (pb := pb) z_)) <;> (replace ⟨pp, hp1, HB, c0, c1, c2, c3⟩ := Q5 z_ pp hq HB hne; replace ⟨a0, a1, a2, a3⟩ := P4 z_ hpb.out hgB a0 a1 a2 a3; replace ha := hid (ha.out.keepP z_ hpb.out); replace ⟨qa0, qa1, qa2, qa3⟩ := P4 z_ hpb.out hgqa qa0 qa1 qa2 qa3; replace hqa := hid (hqa.out.keepP z_ hpb.out); replace ⟨hd, hk, hT⟩ := D3 z_ hpb hd hk hT))
 try simp only [Exit.inBlock, Exit.then]
 refine be rfl rfl ?_
 exact ⟨rfl, hp1.out.cast (by first | (simp only [mC, mN, List.append_assoc, List.cons_append, List.nil_append, List.append_nil]; done) | (simp; done) | (simp <;> first | rfl | exact ⟨rfl, rfl⟩)), pp.out⟩

theorem exp_star_0 (t : Bs) (qa : Tr) (r : List Tr) (B pb : Nat) (L : List Pc) (w : World) (v : Value) (hp : PrAt B w pb L) (h : NT B w v (.mk 64 t 0 (.mk 65 [42] 0 [qa] :: r))) (hv : valid t = true) (hne0 : t ≠ []) (hke : qa.k = 14) : Pn 142 B pb w L v ([wd [101, 120, 112, 111, 114, 116, 32]] ++ [wd [42]] ++ [wd [32, 102, 114, 111, 109, 32], wd (quote t)] ++ [wd [59]]) := by
 intro hl
 have hsv := sv_list
 obtain ⟨p, c, rfl, hks, hkr, hnr, htl, hcp, hkid, hpb, hne, xw, pp, HB, ⟨c0, c1, c2, c3⟩, hd, hk, hT0, hT, hp1⟩ := hS hp h
 have HL := hid hl
 have K := hid hkid
 have hll := hid hcp.2
 have Hv := hid hv
 have hnt : (t == []) = false := by simpa using hne0
 clear hv hne0
 have ke2 := hid hke
 clear hke
 have h0m : (0 : Int) < ((r.length : Int) + 1) := by omega
 clear h hks hkid hcp hkr hnr hp hl
 simp only [nv, Tr.k, Tr.t, Tr.n, Tr.l, lC, lN, zA, Nat.reduceAdd] at hd hk HB pp c0 c1 c2 c3 ⊢
 obtain ⟨g, o, s0, rfl, hgB, a0, a1, a2, a3, ha⟩ := K.out 0 (by simp)
 simp only [gZ, gS, zM, oM, aZ, lC, lN, zA, Nat.reduceAdd, Nat.reduceMul] at *
 simp only [Tr.k, Tr.t, Tr.n] at a0 a1 a2
 obtain ⟨sla, hsa, hksa, _, _, htla⟩ := id ha.open
 obtain rfl : s0 = sla := by simpa [nv, Tr.k, Tr.t, Tr.n] using hsa
 simp only [Tr.k, Tr.t, Tr.n, Tr.l] at hksa htla
 obtain ⟨pa, ca, rfl, _, hkida⟩ := hksa.kid
 have Ka := hid hkida
 clear hsa hksa hkida
 simp only [lC, lN, zA] at *
 obtain ⟨gqa, oqa, sqa, rfl, hgqa, qa0, qa1, qa2, qa3, hqa⟩ := Ka.out 0 (by simp)
 simp only [gZ] at qa0 qa1 qa2 hqa
 obtain ⟨slqa, hsqa, hksqa, _⟩ := id hqa.open
 obtain rfl : sqa = slqa := by simpa [nv] using hsqa
 clear hsqa Ka
 obtain ⟨pqa, cqa, rfl, _⟩ := hksqa.kid
 clear hksqa
 simp only [zM, aZ] at qa0 qa1 qa2 qa3
 replace ⟨a0, a1, a2, a3⟩ := F4 xw a0 a1 a2 a3
 replace ⟨qa0, qa1, qa2, qa3⟩ := F4 xw qa0 qa1 qa2 qa3
 replace ha := hid ((NT.mk ha hT0.out).keepF xw)
 replace hqa := hid ((NT.mk hqa hT0.out).keepF xw)
 simp only [nv, Tr.k, Tr.t, Tr.n, Tr.l, lC, lN, zA] at ha
 simp only [nv] at hqa
 have ke : (qa.k != 14) = false := by have := ke2.out; simpa using this
 clear K
 go_enter Tryz.func142, Tryz.ntmps142
 go_wp2_with (first
  | ((first | (go_at_call 67; (first | refine (pl [[101, 120, 112, 111, 114, 116, 32]] hp1.out (lo HL.out)).mono ?_ | refine (pl [[32, 102, 114, 111, 109, 32], quote t] hp1.out (lo HL.out)).mono ?_ | refine (pl [[59]] hp1.out (lo HL.out)).mono ?_); rintro e w67 ⟨rfl, hq, z_⟩) | (go_at_call 133; refine (quote_p t Hv.out htl B _ hT.out).mono ?_; rintro e w133 ⟨rfl, z_⟩; have hq := hp1.out.keepF z_; replace z_ := Px.of (B := B) (pb := pb) z_)) <;> (replace ⟨pp, hp1, HB, c0, c1, c2, c3⟩ := Q5 z_ pp hq HB hne; replace ⟨a0, a1, a2, a3⟩ := P4 z_ hpb.out hgB a0 a1 a2 a3; replace ha := hid (ha.out.keepP z_ hpb.out); replace ⟨qa0, qa1, qa2, qa3⟩ := P4 z_ hpb.out hgqa qa0 qa1 qa2 qa3; replace hqa := hid (hqa.out.keepP z_ hpb.out); replace ⟨hd, hk, hT⟩ := D3 z_ hpb hd hk hT))
  | (go_at_call 67; refine (pl [[42]] hp1.out (lo HL.out)).mono ?_; rintro e w67 ⟨rfl, hq, z_⟩; replace ⟨pp, hp1, HB, c0, c1, c2, c3⟩ := Q5 z_ pp hq HB hne; replace ⟨a0, a1, a2, a3⟩ := P4 z_ hpb.out hgB a0 a1 a2 a3; replace ha := hid (ha.out.keepP z_ hpb.out); replace ⟨qa0, qa1, qa2, qa3⟩ := P4 z_ hpb.out hgqa qa0 qa1 qa2 qa3; replace hqa := hid (hqa.out.keepP z_ hpb.out); replace ⟨hd, hk, hT⟩ := D3 z_ hpb hd hk hT; have c00 := c0; have c11 := c1; have c22 := c2; have c33 := c3; have a00 := a0; have a11 := a1; have a22 := a2; have a33 := a3; have qa00 := qa0; have qa11 := qa1; have qa22 := qa2; have qa33 := qa3; have xe : Fx w67 (w67.alloc (.cells #[.int .i64 qa.k, .string (sv qa.t), .int .i64 qa.n, .slice pqa qa.l.length cqa] 24)) := Ext.alloc _ _ _; have hneE : w67.heap.size ≠ pb := (by have := hp1.out.lt; omega); have HE := hid (heap_new w67 (.cells #[.int .i64 qa.k, .string (sv qa.t), .int .i64 qa.n, .slice pqa qa.l.length cqa] 24)); obtain ⟨e0, e1, e2, e3⟩ := nd_cells w67 qa.k qa.n (sv qa.t) (.slice pqa qa.l.length cqa); replace pp := hid (pp.out.trans (Px.of (B := B) (pb := pb) xe)); replace hp1 := hid (hp1.out.keepF xe); replace HB := hid ((Px.of (B := B) (pb := pb) xe).loc HB.out hne (by decide)); replace ⟨c0, c1, c2, c3⟩ := blk4 HB.out; replace a0 := (Px.of (B := B) (pb := pb) xe).cellB hpb.out hgB a0; replace a1 := (Px.of (B := B) (pb := pb) xe).cellB hpb.out hgB a1; replace a2 := (Px.of (B := B) (pb := pb) xe).cellB hpb.out hgB a2; replace a3 := (Px.of (B := B) (pb := pb) xe).cellB hpb.out hgB a3; replace ha := hid (ha.out.keepP (Px.of (B := B) (pb := pb) xe) hpb.out); replace qa0 := (Px.of (B := B) (pb := pb) xe).cellB hpb.out hgqa qa0; replace qa1 := (Px.of (B := B) (pb := pb) xe).cellB hpb.out hgqa qa1; replace qa2 := (Px.of (B := B) (pb := pb) xe).cellB hpb.out hgqa qa2; replace qa3 := (Px.of (B := B) (pb := pb) xe).cellB hpb.out hgqa qa3; replace hqa := hid (hqa.out.keepP (Px.of (B := B) (pb := pb) xe) hpb.out); replace hd := hid (hd.out.keepP (Px.of (B := B) (pb := pb) xe) hpb.out); replace hk := hid (hk.out.keepP (Px.of (B := B) (pb := pb) xe) hpb.out); replace hT := hid (hT.out.keepP (Px.of (B := B) (pb := pb) xe) hpb.out)))
 try simp only [Exit.inBlock, Exit.then]
 refine be rfl rfl ?_
 exact ⟨rfl, hp1.out.cast (by first | (simp only [mC, mN, List.append_assoc, List.cons_append, List.nil_append, List.append_nil]; done) | (simp; done) | (simp <;> first | rfl | exact ⟨rfl, rfl⟩)), pp.out⟩

theorem exp_star_1 (t : Bs) (qa : Tr) (r : List Tr) (B pb : Nat) (L : List Pc) (w : World) (v : Value) (hp : PrAt B w pb L) (h : NT B w v (.mk 64 t 0 (.mk 65 [42] 0 [qa] :: r))) (hv : valid t = true) (hne0 : t ≠ []) (hke : ¬ qa.k = 14) : Pn 142 B pb w L v ([wd [101, 120, 112, 111, 114, 116, 32]] ++ [wd [42]] ++ [wd [32, 97, 115, 32], wd qa.t] ++ [wd [32, 102, 114, 111, 109, 32], wd (quote t)] ++ [wd [59]]) := by
 intro hl
 have hsv := sv_list
 obtain ⟨p, c, rfl, hks, hkr, hnr, htl, hcp, hkid, hpb, hne, xw, pp, HB, ⟨c0, c1, c2, c3⟩, hd, hk, hT0, hT, hp1⟩ := hS hp h
 have HL := hid hl
 have K := hid hkid
 have hll := hid hcp.2
 have Hv := hid hv
 have hnt : (t == []) = false := by simpa using hne0
 clear hv hne0
 have ke2 := hid hke
 clear hke
 have h0m : (0 : Int) < ((r.length : Int) + 1) := by omega
 clear h hks hkid hcp hkr hnr hp hl
 simp only [nv, Tr.k, Tr.t, Tr.n, Tr.l, lC, lN, zA, Nat.reduceAdd] at hd hk HB pp c0 c1 c2 c3 ⊢
 obtain ⟨g, o, s0, rfl, hgB, a0, a1, a2, a3, ha⟩ := K.out 0 (by simp)
 simp only [gZ, gS, zM, oM, aZ, lC, lN, zA, Nat.reduceAdd, Nat.reduceMul] at *
 simp only [Tr.k, Tr.t, Tr.n] at a0 a1 a2
 obtain ⟨sla, hsa, hksa, _, _, htla⟩ := id ha.open
 obtain rfl : s0 = sla := by simpa [nv, Tr.k, Tr.t, Tr.n] using hsa
 simp only [Tr.k, Tr.t, Tr.n, Tr.l] at hksa htla
 obtain ⟨pa, ca, rfl, _, hkida⟩ := hksa.kid
 have Ka := hid hkida
 clear hsa hksa hkida
 simp only [lC, lN, zA] at *
 obtain ⟨gqa, oqa, sqa, rfl, hgqa, qa0, qa1, qa2, qa3, hqa⟩ := Ka.out 0 (by simp)
 simp only [gZ] at qa0 qa1 qa2 hqa
 obtain ⟨slqa, hsqa, hksqa, _⟩ := id hqa.open
 obtain rfl : sqa = slqa := by simpa [nv] using hsqa
 clear hsqa Ka
 obtain ⟨pqa, cqa, rfl, _⟩ := hksqa.kid
 clear hksqa
 simp only [zM, aZ] at qa0 qa1 qa2 qa3
 replace ⟨a0, a1, a2, a3⟩ := F4 xw a0 a1 a2 a3
 replace ⟨qa0, qa1, qa2, qa3⟩ := F4 xw qa0 qa1 qa2 qa3
 replace ha := hid ((NT.mk ha hT0.out).keepF xw)
 replace hqa := hid ((NT.mk hqa hT0.out).keepF xw)
 simp only [nv, Tr.k, Tr.t, Tr.n, Tr.l, lC, lN, zA] at ha
 simp only [nv] at hqa
 have ke : (qa.k != 14) = true := by have := ke2.out; simpa using this
 clear K
 go_enter Tryz.func142, Tryz.ntmps142
 go_wp2_with (first
  | ((first | (go_at_call 67; (first | refine (pl [[101, 120, 112, 111, 114, 116, 32]] hp1.out (lo HL.out)).mono ?_ | refine (pl [[32, 102, 114, 111, 109, 32], quote t] hp1.out (lo HL.out)).mono ?_ | refine (pl [[59]] hp1.out (lo HL.out)).mono ?_); rintro e w67 ⟨rfl, hq, z_⟩) | (go_at_call 133; refine (quote_p t Hv.out htl B _ hT.out).mono ?_; rintro e w133 ⟨rfl, z_⟩; have hq := hp1.out.keepF z_; replace z_ := Px.of (B := B) (pb := pb) z_)) <;> (replace ⟨pp, hp1, HB, c0, c1, c2, c3⟩ := Q5 z_ pp hq HB hne; replace ⟨a0, a1, a2, a3⟩ := P4 z_ hpb.out hgB a0 a1 a2 a3; replace ha := hid (ha.out.keepP z_ hpb.out); replace ⟨qa0, qa1, qa2, qa3⟩ := P4 z_ hpb.out hgqa qa0 qa1 qa2 qa3; replace hqa := hid (hqa.out.keepP z_ hpb.out); replace ⟨hd, hk, hT⟩ := D3 z_ hpb hd hk hT))
  | (go_at_call 67; refine (pl [[42]] hp1.out (lo HL.out)).mono ?_; rintro e w67 ⟨rfl, hq, z_⟩; replace ⟨pp, hp1, HB, c0, c1, c2, c3⟩ := Q5 z_ pp hq HB hne; replace ⟨a0, a1, a2, a3⟩ := P4 z_ hpb.out hgB a0 a1 a2 a3; replace ha := hid (ha.out.keepP z_ hpb.out); replace ⟨qa0, qa1, qa2, qa3⟩ := P4 z_ hpb.out hgqa qa0 qa1 qa2 qa3; replace hqa := hid (hqa.out.keepP z_ hpb.out); replace ⟨hd, hk, hT⟩ := D3 z_ hpb hd hk hT; have c00 := c0; have c11 := c1; have c22 := c2; have c33 := c3; have a00 := a0; have a11 := a1; have a22 := a2; have a33 := a3; have qa00 := qa0; have qa11 := qa1; have qa22 := qa2; have qa33 := qa3; have xe : Fx w67 (w67.alloc (.cells #[.int .i64 qa.k, .string (sv qa.t), .int .i64 qa.n, .slice pqa qa.l.length cqa] 24)) := Ext.alloc _ _ _; have hneE : w67.heap.size ≠ pb := (by have := hp1.out.lt; omega); have HE := hid (heap_new w67 (.cells #[.int .i64 qa.k, .string (sv qa.t), .int .i64 qa.n, .slice pqa qa.l.length cqa] 24)); obtain ⟨e0, e1, e2, e3⟩ := nd_cells w67 qa.k qa.n (sv qa.t) (.slice pqa qa.l.length cqa); replace pp := hid (pp.out.trans (Px.of (B := B) (pb := pb) xe)); replace hp1 := hid (hp1.out.keepF xe); replace HB := hid ((Px.of (B := B) (pb := pb) xe).loc HB.out hne (by decide)); replace ⟨c0, c1, c2, c3⟩ := blk4 HB.out; replace a0 := (Px.of (B := B) (pb := pb) xe).cellB hpb.out hgB a0; replace a1 := (Px.of (B := B) (pb := pb) xe).cellB hpb.out hgB a1; replace a2 := (Px.of (B := B) (pb := pb) xe).cellB hpb.out hgB a2; replace a3 := (Px.of (B := B) (pb := pb) xe).cellB hpb.out hgB a3; replace ha := hid (ha.out.keepP (Px.of (B := B) (pb := pb) xe) hpb.out); replace qa0 := (Px.of (B := B) (pb := pb) xe).cellB hpb.out hgqa qa0; replace qa1 := (Px.of (B := B) (pb := pb) xe).cellB hpb.out hgqa qa1; replace qa2 := (Px.of (B := B) (pb := pb) xe).cellB hpb.out hgqa qa2; replace qa3 := (Px.of (B := B) (pb := pb) xe).cellB hpb.out hgqa qa3; replace hqa := hid (hqa.out.keepP (Px.of (B := B) (pb := pb) xe) hpb.out); replace hd := hid (hd.out.keepP (Px.of (B := B) (pb := pb) xe) hpb.out); replace hk := hid (hk.out.keepP (Px.of (B := B) (pb := pb) xe) hpb.out); replace hT := hid (hT.out.keepP (Px.of (B := B) (pb := pb) xe) hpb.out))
  | (go_at_call 67; refine (pl [[32, 97, 115, 32], qa.t] hp1.out (lo HL.out)).mono ?_; rintro e w67 ⟨rfl, hq, z_⟩; replace ⟨pp, hp1, HB, c0, c1, c2, c3⟩ := Q5 z_ pp hq HB hne; replace HE := hid (z_.loc HE.out hneE (by decide)); replace ⟨e0, e1, e2, e3⟩ := blk4 HE.out; replace ⟨a0, a1, a2, a3⟩ := P4 z_ hpb.out hgB a0 a1 a2 a3; replace ha := hid (ha.out.keepP z_ hpb.out); replace ⟨qa0, qa1, qa2, qa3⟩ := P4 z_ hpb.out hgqa qa0 qa1 qa2 qa3; replace hqa := hid (hqa.out.keepP z_ hpb.out); replace ⟨hd, hk, hT⟩ := D3 z_ hpb hd hk hT))
 try simp only [Exit.inBlock, Exit.then]
 refine be rfl rfl ?_
 exact ⟨rfl, hp1.out.cast (by first | (simp only [mC, mN, List.append_assoc, List.cons_append, List.nil_append, List.append_nil]; done) | (simp; done) | (simp <;> first | rfl | exact ⟨rfl, rfl⟩)), pp.out⟩

theorem exp_0_0 (ta : Bs) (qa : Tr) (r : List Tr) (B pb : Nat) (L : List Pc) (w : World) (v : Value) (hp : PrAt B w pb L) (h : NT B w v (.mk 64 [] 0 (.mk 65 ta 0 [qa] :: r))) (hr : ∀ y ∈ r, ∃ ky kt z, y = .mk ky kt 0 [z]) (hs : ta ≠ [42]) : Pn 142 B pb w L v ([wd [101, 120, 112, 111, 114, 116, 32]] ++ [wd [123, 32]] ++ namesP true (.mk 65 ta 0 [qa] :: r) ++ [wd [32, 125]] ++ [wd [59]]) := by
 intro hl
 have hsv := sv_list
 obtain ⟨p, c, rfl, hks, hkr, hnr, htl, hcp, hkid, hpb, hne, xw, pp, HB, ⟨c0, c1, c2, c3⟩, hd, hk, hT0, hT, hp1⟩ := hS hp h
 have HL := hid hl
 have K := hid hkid
 have hll := hid hcp.2
 have h0m : (0 : Int) < ((r.length : Int) + 1) := by omega
 have Hr := hid hr
 have hns : (ta == [42]) = false := by simpa using hs
 clear hr hs
 clear h hks hkid hcp hkr hnr hp hl
 simp only [nv, Tr.k, Tr.t, Tr.n, Tr.l, lC, lN, zA, Nat.reduceAdd] at hd hk HB pp c0 c1 c2 c3 ⊢
 obtain ⟨g, o, s0, rfl, hgB, a0, a1, a2, a3, ha⟩ := K.out 0 (by simp)
 simp only [gZ, gS, zM, oM, aZ, lC, lN, zA, Nat.reduceAdd, Nat.reduceMul] at *
 simp only [Tr.k, Tr.t, Tr.n] at a0 a1 a2
 obtain ⟨sla, hsa, hksa, _, _, htla⟩ := id ha.open
 obtain rfl : s0 = sla := by simpa [nv, Tr.k, Tr.t, Tr.n] using hsa
 simp only [Tr.k, Tr.t, Tr.n, Tr.l] at hksa htla
 obtain ⟨pa, ca, rfl, _, hkida⟩ := hksa.kid
 have Ka := hid hkida
 clear hsa hksa hkida
 simp only [lC, lN, zA] at *
 obtain ⟨gqa, oqa, sqa, rfl, hgqa, qa0, qa1, qa2, qa3, hqa⟩ := Ka.out 0 (by simp)
 simp only [gZ] at qa0 qa1 qa2 hqa
 obtain ⟨slqa, hsqa, hksqa, _⟩ := id hqa.open
 obtain rfl : sqa = slqa := by simpa [nv] using hsqa
 clear hsqa Ka
 obtain ⟨pqa, cqa, rfl, _⟩ := hksqa.kid
 clear hksqa
 simp only [zM, aZ] at qa0 qa1 qa2 qa3
 replace ⟨a0, a1, a2, a3⟩ := F4 xw a0 a1 a2 a3
 replace ⟨qa0, qa1, qa2, qa3⟩ := F4 xw qa0 qa1 qa2 qa3
 replace ha := hid ((NT.mk ha hT0.out).keepF xw)
 replace hqa := hid ((NT.mk hqa hT0.out).keepF xw)
 simp only [nv, Tr.k, Tr.t, Tr.n, Tr.l, lC, lN, zA] at ha
 simp only [nv] at hqa
 clear K
 go_enter Tryz.func142, Tryz.ntmps142
 go_wp2_with ((first | (go_at_call 67; (first | refine (pl [[101, 120, 112, 111, 114, 116, 32]] hp1.out (lo HL.out)).mono ?_ | refine (pl [[59]] hp1.out (lo HL.out)).mono ?_); rintro e w67 ⟨rfl, hq, z_⟩) | (go_at_call 183; refine (names_p (.mk 65 ta 0 [qa] :: r) hp1.out hk.out hT.out (fun y hy => by rcases List.mem_cons.1 hy with rfl | hy; exact ⟨_, _, _, rfl⟩; exact Hr.out y hy) (lo HL.out)).mono ?_; rintro e w183 ⟨rfl, hq, z_⟩)) <;> (replace ⟨pp, hp1, HB, c0, c1, c2, c3⟩ := Q5 z_ pp hq HB hne; replace ⟨a0, a1, a2, a3⟩ := P4 z_ hpb.out hgB a0 a1 a2 a3; replace ha := hid (ha.out.keepP z_ hpb.out); replace ⟨qa0, qa1, qa2, qa3⟩ := P4 z_ hpb.out hgqa qa0 qa1 qa2 qa3; replace hqa := hid (hqa.out.keepP z_ hpb.out); replace ⟨hd, hk, hT⟩ := D3 z_ hpb hd hk hT))
 try simp only [Exit.inBlock, Exit.then]
 refine be rfl rfl ?_
 exact ⟨rfl, hp1.out.cast (by first | (simp only [mC, mN, List.append_assoc, List.cons_append, List.nil_append, List.append_nil]; done) | (simp; done) | (simp <;> first | rfl | exact ⟨rfl, rfl⟩)), pp.out⟩

theorem exp_0_1 (t : Bs) (ta : Bs) (qa : Tr) (r : List Tr) (B pb : Nat) (L : List Pc) (w : World) (v : Value) (hp : PrAt B w pb L) (h : NT B w v (.mk 64 t 0 (.mk 65 ta 0 [qa] :: r))) (hv : valid t = true) (hne0 : t ≠ []) (hr : ∀ y ∈ r, ∃ ky kt z, y = .mk ky kt 0 [z]) (hs : ta ≠ [42]) : Pn 142 B pb w L v ([wd [101, 120, 112, 111, 114, 116, 32]] ++ [wd [123, 32]] ++ namesP true (.mk 65 ta 0 [qa] :: r) ++ [wd [32, 125]] ++ [wd [32, 102, 114, 111, 109, 32], wd (quote t)] ++ [wd [59]]) := by
 intro hl
 have hsv := sv_list
 obtain ⟨p, c, rfl, hks, hkr, hnr, htl, hcp, hkid, hpb, hne, xw, pp, HB, ⟨c0, c1, c2, c3⟩, hd, hk, hT0, hT, hp1⟩ := hS hp h
 have HL := hid hl
 have K := hid hkid
 have hll := hid hcp.2
 have Hv := hid hv
 have hnt : (t == []) = false := by simpa using hne0
 clear hv hne0
 have h0m : (0 : Int) < ((r.length : Int) + 1) := by omega
 have Hr := hid hr
 have hns : (ta == [42]) = false := by simpa using hs
 clear hr hs
 clear h hks hkid hcp hkr hnr hp hl
 simp only [nv, Tr.k, Tr.t, Tr.n, Tr.l, lC, lN, zA, Nat.reduceAdd] at hd hk HB pp c0 c1 c2 c3 ⊢
 obtain ⟨g, o, s0, rfl, hgB, a0, a1, a2, a3, ha⟩ := K.out 0 (by simp)
 simp only [gZ, gS, zM, oM, aZ, lC, lN, zA, Nat.reduceAdd, Nat.reduceMul] at *
 simp only [Tr.k, Tr.t, Tr.n] at a0 a1 a2
 obtain ⟨sla, hsa, hksa, _, _, htla⟩ := id ha.open
 obtain rfl : s0 = sla := by simpa [nv, Tr.k, Tr.t, Tr.n] using hsa
 simp only [Tr.k, Tr.t, Tr.n, Tr.l] at hksa htla
 obtain ⟨pa, ca, rfl, _, hkida⟩ := hksa.kid
 have Ka := hid hkida
 clear hsa hksa hkida
 simp only [lC, lN, zA] at *
 obtain ⟨gqa, oqa, sqa, rfl, hgqa, qa0, qa1, qa2, qa3, hqa⟩ := Ka.out 0 (by simp)
 simp only [gZ] at qa0 qa1 qa2 hqa
 obtain ⟨slqa, hsqa, hksqa, _⟩ := id hqa.open
 obtain rfl : sqa = slqa := by simpa [nv] using hsqa
 clear hsqa Ka
 obtain ⟨pqa, cqa, rfl, _⟩ := hksqa.kid
 clear hksqa
 simp only [zM, aZ] at qa0 qa1 qa2 qa3
 replace ⟨a0, a1, a2, a3⟩ := F4 xw a0 a1 a2 a3
 replace ⟨qa0, qa1, qa2, qa3⟩ := F4 xw qa0 qa1 qa2 qa3
 replace ha := hid ((NT.mk ha hT0.out).keepF xw)
 replace hqa := hid ((NT.mk hqa hT0.out).keepF xw)
 simp only [nv, Tr.k, Tr.t, Tr.n, Tr.l, lC, lN, zA] at ha
 simp only [nv] at hqa
 clear K
 go_enter Tryz.func142, Tryz.ntmps142
 go_wp2_with ((first | (go_at_call 67; (first | refine (pl [[101, 120, 112, 111, 114, 116, 32]] hp1.out (lo HL.out)).mono ?_ | refine (pl [[32, 102, 114, 111, 109, 32], quote t] hp1.out (lo HL.out)).mono ?_ | refine (pl [[59]] hp1.out (lo HL.out)).mono ?_); rintro e w67 ⟨rfl, hq, z_⟩) | (go_at_call 183; refine (names_p (.mk 65 ta 0 [qa] :: r) hp1.out hk.out hT.out (fun y hy => by rcases List.mem_cons.1 hy with rfl | hy; exact ⟨_, _, _, rfl⟩; exact Hr.out y hy) (lo HL.out)).mono ?_; rintro e w183 ⟨rfl, hq, z_⟩) | (go_at_call 133; refine (quote_p t Hv.out htl B _ hT.out).mono ?_; rintro e w133 ⟨rfl, z_⟩; have hq := hp1.out.keepF z_; replace z_ := Px.of (B := B) (pb := pb) z_)) <;> (replace ⟨pp, hp1, HB, c0, c1, c2, c3⟩ := Q5 z_ pp hq HB hne; replace ⟨a0, a1, a2, a3⟩ := P4 z_ hpb.out hgB a0 a1 a2 a3; replace ha := hid (ha.out.keepP z_ hpb.out); replace ⟨qa0, qa1, qa2, qa3⟩ := P4 z_ hpb.out hgqa qa0 qa1 qa2 qa3; replace hqa := hid (hqa.out.keepP z_ hpb.out); replace ⟨hd, hk, hT⟩ := D3 z_ hpb hd hk hT))
 try simp only [Exit.inBlock, Exit.then]
 refine be rfl rfl ?_
 exact ⟨rfl, hp1.out.cast (by first | (simp only [mC, mN, List.append_assoc, List.cons_append, List.nil_append, List.append_nil]; done) | (simp; done) | (simp <;> first | rfl | exact ⟨rfl, rfl⟩)), pp.out⟩

theorem exp_1_0 (ta : Bs) (qa : Tr) (r : List Tr) (B pb : Nat) (L : List Pc) (w : World) (v : Value) (hp : PrAt B w pb L) (h : NT B w v (.mk 64 [] 1 (.mk 65 ta 0 [qa] :: r))) (hr : ∀ y ∈ r, ∃ ky kt z, y = .mk ky kt 0 [z]) (hs : ta ≠ [42]) : Pn 142 B pb w L v ([wd [101, 120, 112, 111, 114, 116, 32]] ++ [wd [116, 121, 112, 101, 32]] ++ [wd [123, 32]] ++ namesP true (.mk 65 ta 0 [qa] :: r) ++ [wd [32, 125]] ++ [wd [59]]) := by
 intro hl
 have hsv := sv_list
 obtain ⟨p, c, rfl, hks, hkr, hnr, htl, hcp, hkid, hpb, hne, xw, pp, HB, ⟨c0, c1, c2, c3⟩, hd, hk, hT0, hT, hp1⟩ := hS hp h
 have HL := hid hl
 have K := hid hkid
 have hll := hid hcp.2
 have h0m : (0 : Int) < ((r.length : Int) + 1) := by omega
 have Hr := hid hr
 have hns : (ta == [42]) = false := by simpa using hs
 clear hr hs
 clear h hks hkid hcp hkr hnr hp hl
 simp only [nv, Tr.k, Tr.t, Tr.n, Tr.l, lC, lN, zA, Nat.reduceAdd] at hd hk HB pp c0 c1 c2 c3 ⊢
 obtain ⟨g, o, s0, rfl, hgB, a0, a1, a2, a3, ha⟩ := K.out 0 (by simp)
 simp only [gZ, gS, zM, oM, aZ, lC, lN, zA, Nat.reduceAdd, Nat.reduceMul] at *
 simp only [Tr.k, Tr.t, Tr.n] at a0 a1 a2
 obtain ⟨sla, hsa, hksa, _, _, htla⟩ := id ha.open
 obtain rfl : s0 = sla := by simpa [nv, Tr.k, Tr.t, Tr.n] using hsa
 simp only [Tr.k, Tr.t, Tr.n, Tr.l] at hksa htla
 obtain ⟨pa, ca, rfl, _, hkida⟩ := hksa.kid
 have Ka := hid hkida
 clear hsa hksa hkida
 simp only [lC, lN, zA] at *
 obtain ⟨gqa, oqa, sqa, rfl, hgqa, qa0, qa1, qa2, qa3, hqa⟩ := Ka.out 0 (by simp)
 simp only [gZ] at qa0 qa1 qa2 hqa
 obtain ⟨slqa, hsqa, hksqa, _⟩ := id hqa.open
 obtain rfl : sqa = slqa := by simpa [nv] using hsqa
 clear hsqa Ka
 obtain ⟨pqa, cqa, rfl, _⟩ := hksqa.kid
 clear hksqa
 simp only [zM, aZ] at qa0 qa1 qa2 qa3
 replace ⟨a0, a1, a2, a3⟩ := F4 xw a0 a1 a2 a3
 replace ⟨qa0, qa1, qa2, qa3⟩ := F4 xw qa0 qa1 qa2 qa3
 replace ha := hid ((NT.mk ha hT0.out).keepF xw)
 replace hqa := hid ((NT.mk hqa hT0.out).keepF xw)
 simp only [nv, Tr.k, Tr.t, Tr.n, Tr.l, lC, lN, zA] at ha
 simp only [nv] at hqa
 clear K
 go_enter Tryz.func142, Tryz.ntmps142
 go_wp2_with ((first | (go_at_call 67; (first | refine (pl [[101, 120, 112, 111, 114, 116, 32]] hp1.out (lo HL.out)).mono ?_ | refine (pl [[116, 121, 112, 101, 32]] hp1.out (lo HL.out)).mono ?_ | refine (pl [[59]] hp1.out (lo HL.out)).mono ?_); rintro e w67 ⟨rfl, hq, z_⟩) | (go_at_call 183; refine (names_p (.mk 65 ta 0 [qa] :: r) hp1.out hk.out hT.out (fun y hy => by rcases List.mem_cons.1 hy with rfl | hy; exact ⟨_, _, _, rfl⟩; exact Hr.out y hy) (lo HL.out)).mono ?_; rintro e w183 ⟨rfl, hq, z_⟩)) <;> (replace ⟨pp, hp1, HB, c0, c1, c2, c3⟩ := Q5 z_ pp hq HB hne; replace ⟨a0, a1, a2, a3⟩ := P4 z_ hpb.out hgB a0 a1 a2 a3; replace ha := hid (ha.out.keepP z_ hpb.out); replace ⟨qa0, qa1, qa2, qa3⟩ := P4 z_ hpb.out hgqa qa0 qa1 qa2 qa3; replace hqa := hid (hqa.out.keepP z_ hpb.out); replace ⟨hd, hk, hT⟩ := D3 z_ hpb hd hk hT))
 try simp only [Exit.inBlock, Exit.then]
 refine be rfl rfl ?_
 exact ⟨rfl, hp1.out.cast (by first | (simp only [mC, mN, List.append_assoc, List.cons_append, List.nil_append, List.append_nil]; done) | (simp; done) | (simp <;> first | rfl | exact ⟨rfl, rfl⟩)), pp.out⟩

theorem exp_1_1 (t : Bs) (ta : Bs) (qa : Tr) (r : List Tr) (B pb : Nat) (L : List Pc) (w : World) (v : Value) (hp : PrAt B w pb L) (h : NT B w v (.mk 64 t 1 (.mk 65 ta 0 [qa] :: r))) (hv : valid t = true) (hne0 : t ≠ []) (hr : ∀ y ∈ r, ∃ ky kt z, y = .mk ky kt 0 [z]) (hs : ta ≠ [42]) : Pn 142 B pb w L v ([wd [101, 120, 112, 111, 114, 116, 32]] ++ [wd [116, 121, 112, 101, 32]] ++ [wd [123, 32]] ++ namesP true (.mk 65 ta 0 [qa] :: r) ++ [wd [32, 125]] ++ [wd [32, 102, 114, 111, 109, 32], wd (quote t)] ++ [wd [59]]) := by
 intro hl
 have hsv := sv_list
 obtain ⟨p, c, rfl, hks, hkr, hnr, htl, hcp, hkid, hpb, hne, xw, pp, HB, ⟨c0, c1, c2, c3⟩, hd, hk, hT0, hT, hp1⟩ := hS hp h
 have HL := hid hl
 have K := hid hkid
 have hll := hid hcp.2
 have Hv := hid hv
 have hnt : (t == []) = false := by simpa using hne0
 clear hv hne0
 have h0m : (0 : Int) < ((r.length : Int) + 1) := by omega
 have Hr := hid hr
 have hns : (ta == [42]) = false := by simpa using hs
 clear hr hs
 clear h hks hkid hcp hkr hnr hp hl
 simp only [nv, Tr.k, Tr.t, Tr.n, Tr.l, lC, lN, zA, Nat.reduceAdd] at hd hk HB pp c0 c1 c2 c3 ⊢
 obtain ⟨g, o, s0, rfl, hgB, a0, a1, a2, a3, ha⟩ := K.out 0 (by simp)
 simp only [gZ, gS, zM, oM, aZ, lC, lN, zA, Nat.reduceAdd, Nat.reduceMul] at *
 simp only [Tr.k, Tr.t, Tr.n] at a0 a1 a2
 obtain ⟨sla, hsa, hksa, _, _, htla⟩ := id ha.open
 obtain rfl : s0 = sla := by simpa [nv, Tr.k, Tr.t, Tr.n] using hsa
 simp only [Tr.k, Tr.t, Tr.n, Tr.l] at hksa htla
 obtain ⟨pa, ca, rfl, _, hkida⟩ := hksa.kid
 have Ka := hid hkida
 clear hsa hksa hkida
 simp only [lC, lN, zA] at *
 obtain ⟨gqa, oqa, sqa, rfl, hgqa, qa0, qa1, qa2, qa3, hqa⟩ := Ka.out 0 (by simp)
 simp only [gZ] at qa0 qa1 qa2 hqa
 obtain ⟨slqa, hsqa, hksqa, _⟩ := id hqa.open
 obtain rfl : sqa = slqa := by simpa [nv] using hsqa
 clear hsqa Ka
 obtain ⟨pqa, cqa, rfl, _⟩ := hksqa.kid
 clear hksqa
 simp only [zM, aZ] at qa0 qa1 qa2 qa3
 replace ⟨a0, a1, a2, a3⟩ := F4 xw a0 a1 a2 a3
 replace ⟨qa0, qa1, qa2, qa3⟩ := F4 xw qa0 qa1 qa2 qa3
 replace ha := hid ((NT.mk ha hT0.out).keepF xw)
 replace hqa := hid ((NT.mk hqa hT0.out).keepF xw)
 simp only [nv, Tr.k, Tr.t, Tr.n, Tr.l, lC, lN, zA] at ha
 simp only [nv] at hqa
 clear K
 go_enter Tryz.func142, Tryz.ntmps142
 go_wp2_with ((first | (go_at_call 67; (first | refine (pl [[101, 120, 112, 111, 114, 116, 32]] hp1.out (lo HL.out)).mono ?_ | refine (pl [[116, 121, 112, 101, 32]] hp1.out (lo HL.out)).mono ?_ | refine (pl [[32, 102, 114, 111, 109, 32], quote t] hp1.out (lo HL.out)).mono ?_ | refine (pl [[59]] hp1.out (lo HL.out)).mono ?_); rintro e w67 ⟨rfl, hq, z_⟩) | (go_at_call 183; refine (names_p (.mk 65 ta 0 [qa] :: r) hp1.out hk.out hT.out (fun y hy => by rcases List.mem_cons.1 hy with rfl | hy; exact ⟨_, _, _, rfl⟩; exact Hr.out y hy) (lo HL.out)).mono ?_; rintro e w183 ⟨rfl, hq, z_⟩) | (go_at_call 133; refine (quote_p t Hv.out htl B _ hT.out).mono ?_; rintro e w133 ⟨rfl, z_⟩; have hq := hp1.out.keepF z_; replace z_ := Px.of (B := B) (pb := pb) z_)) <;> (replace ⟨pp, hp1, HB, c0, c1, c2, c3⟩ := Q5 z_ pp hq HB hne; replace ⟨a0, a1, a2, a3⟩ := P4 z_ hpb.out hgB a0 a1 a2 a3; replace ha := hid (ha.out.keepP z_ hpb.out); replace ⟨qa0, qa1, qa2, qa3⟩ := P4 z_ hpb.out hgqa qa0 qa1 qa2 qa3; replace hqa := hid (hqa.out.keepP z_ hpb.out); replace ⟨hd, hk, hT⟩ := D3 z_ hpb hd hk hT))
 try simp only [Exit.inBlock, Exit.then]
 refine be rfl rfl ?_
 exact ⟨rfl, hp1.out.cast (by first | (simp only [mC, mN, List.append_assoc, List.cons_append, List.nil_append, List.append_nil]; done) | (simp; done) | (simp <;> first | rfl | exact ⟨rfl, rfl⟩)), pp.out⟩

theorem imps_shape : ∀ (l : List Tr) (f : Bs) (i : Nat), impsOk f i l = true → ∀ y ∈ l, ∃ t o, y = .mk 61 t 0 [o] := by
 intro l
 induction l with
 | nil => intro _ _ _ y hy; cases hy
 | cons x r ih =>
  rintro f i h y hy
  obtain ⟨k, t, n, m⟩ := x
  simp only [impsOk, Bool.and_eq_true, beq_iff_eq] at h
  rcases List.mem_cons.1 hy with rfl | hy
  ·rcases m with _ | ⟨o, _ | ⟨z, m⟩⟩
   ·simp at h
   ·obtain ⟨⟨⟨⟨⟨rfl, rfl⟩, _⟩, _⟩, _⟩, _⟩ := h
    exact ⟨t, o, rfl⟩
   ·simp at h
  ·exact ih f (i + 1) h.2 y hy

theorem imports_p (x : Tr) (hk : x.k = 60) (hx : isImport x = true) {B pb : Nat} {L : List Pc} {w : World} {v : Value} (hp : PrAt B w pb L) (h : NT B w v x) : Pn 141 B pb w L v (importP x) := by
 intro hl
 obtain ⟨k, t, n, l⟩ := x
 simp only [Tr.k] at hk
 subst hk
 simp only [isImport, Bool.and_eq_true, Tr.t, Tr.n, Tr.l] at hx
 obtain ⟨⟨⟨hv, hn⟩, hi⟩, _⟩ := hx
 have hn : n = 0 ∨ n = 1 := by simpa using hn
 have hsh := imps_shape _ _ _ hi
 have hsh2 : ∀ y ∈ l, ∃ ky kt z, y = .mk ky kt 0 [z] := fun y hy => by obtain ⟨t, o, e⟩ := hsh y hy; exact ⟨_, _, _, e⟩
 rcases l with _ | ⟨y, r⟩
 ·rcases hn with rfl | rfl
  ·have e : importP (.mk 60 t 0 []) = [wd [105, 109, 112, 111, 114, 116, 32]] ++ [wd (quote t), wd [59]] := by simp [importP, restP, kid0, Tr.l, Tr.t, Tr.n, star]
   rw [e] at hl ⊢
   exact imp_0_0 t  B pb L w v hp h hv hl
  ·have e : importP (.mk 60 t 1 []) = [wd [105, 109, 112, 111, 114, 116, 32]] ++ [wd (quote t), wd [59]] := by simp [importP, restP, kid0, Tr.l, Tr.t, Tr.n, star]
   rw [e] at hl ⊢
   exact imp_0_1 t  B pb L w v hp h hv hl
 obtain ⟨ta, qa, rfl⟩ := hsh y (by simp)
 have hr : ∀ y ∈ r, ∃ ky kt z, y = .mk ky kt 0 [z] := fun y hy => hsh2 y (by simp [hy])
 by_cases hd : ta = [100, 101, 102, 97, 117, 108, 116]
 ·subst hd
  rcases r with _ | ⟨z, r⟩
  ·clear hsh hsh2 hr
   rcases hn with rfl | rfl
   ·have e : importP (.mk 60 t 0 [.mk 61 [100, 101, 102, 97, 117, 108, 116] 0 [qa]]) = [wd [105, 109, 112, 111, 114, 116, 32]] ++ [wd qa.t] ++ [wd [32, 102, 114, 111, 109, 32]] ++ [wd (quote t), wd [59]] := by simp [importP, restP, kid0, Tr.l, Tr.t, Tr.n, star]
    rw [e] at hl ⊢
    exact imp_1_0 t qa B pb L w v hp h hv hl
   ·have e : importP (.mk 60 t 1 [.mk 61 [100, 101, 102, 97, 117, 108, 116] 0 [qa]]) = [wd [105, 109, 112, 111, 114, 116, 32]] ++ [wd [116, 121, 112, 101, 32]] ++ [wd qa.t] ++ [wd [32, 102, 114, 111, 109, 32]] ++ [wd (quote t), wd [59]] := by simp [importP, restP, kid0, Tr.l, Tr.t, Tr.n, star]
    rw [e] at hl ⊢
    exact imp_1_1 t qa B pb L w v hp h hv hl
  obtain ⟨tb, qb, rfl⟩ := hsh z (by simp)
  have hr' : ∀ y ∈ r, ∃ ky kt z, y = .mk ky kt 0 [z] := fun y hy => hr y (by simp [hy])
  by_cases hs : tb = [42]
  ·subst hs
   rcases hn with rfl | rfl
   ·have e : importP (.mk 60 t 0 (.mk 61 [100, 101, 102, 97, 117, 108, 116] 0 [qa] :: .mk 61 [42] 0 [qb] :: r)) = [wd [105, 109, 112, 111, 114, 116, 32]] ++ [wd qa.t] ++ [wd [44, 32]] ++ [wd [42, 32, 97, 115, 32], wd qb.t] ++ [wd [32, 102, 114, 111, 109, 32]] ++ [wd (quote t), wd [59]] := by simp [importP, restP, kid0, Tr.l, Tr.t, Tr.n, star]
    rw [e] at hl ⊢
    exact imp_2_0 t qa qb r B pb L w v hp h hv hl
   ·have e : importP (.mk 60 t 1 (.mk 61 [100, 101, 102, 97, 117, 108, 116] 0 [qa] :: .mk 61 [42] 0 [qb] :: r)) = [wd [105, 109, 112, 111, 114, 116, 32]] ++ [wd [116, 121, 112, 101, 32]] ++ [wd qa.t] ++ [wd [44, 32]] ++ [wd [42, 32, 97, 115, 32], wd qb.t] ++ [wd [32, 102, 114, 111, 109, 32]] ++ [wd (quote t), wd [59]] := by simp [importP, restP, kid0, Tr.l, Tr.t, Tr.n, star]
    rw [e] at hl ⊢
    exact imp_2_1 t qa qb r B pb L w v hp h hv hl
  ·skip
   rcases hn with rfl | rfl
   ·have e : importP (.mk 60 t 0 (.mk 61 [100, 101, 102, 97, 117, 108, 116] 0 [qa] :: .mk 61 tb 0 [qb] :: r)) = [wd [105, 109, 112, 111, 114, 116, 32]] ++ [wd qa.t] ++ [wd [44, 32]] ++ [wd [123, 32]] ++ namesP true (.mk 61 tb 0 [qb] :: r) ++ [wd [32, 125]] ++ [wd [32, 102, 114, 111, 109, 32]] ++ [wd (quote t), wd [59]] := by simp [importP, restP, kid0, Tr.l, Tr.t, Tr.n, star, hs]
    rw [e] at hl ⊢
    exact imp_3_0 t tb qa qb r B pb L w v hp h hv hr' hs hl
   ·have e : importP (.mk 60 t 1 (.mk 61 [100, 101, 102, 97, 117, 108, 116] 0 [qa] :: .mk 61 tb 0 [qb] :: r)) = [wd [105, 109, 112, 111, 114, 116, 32]] ++ [wd [116, 121, 112, 101, 32]] ++ [wd qa.t] ++ [wd [44, 32]] ++ [wd [123, 32]] ++ namesP true (.mk 61 tb 0 [qb] :: r) ++ [wd [32, 125]] ++ [wd [32, 102, 114, 111, 109, 32]] ++ [wd (quote t), wd [59]] := by simp [importP, restP, kid0, Tr.l, Tr.t, Tr.n, star, hs]
    rw [e] at hl ⊢
    exact imp_3_1 t tb qa qb r B pb L w v hp h hv hr' hs hl
 by_cases hs : ta = [42]
 ·subst hs
  rcases hn with rfl | rfl
  ·have e : importP (.mk 60 t 0 (.mk 61 [42] 0 [qa] :: r)) = [wd [105, 109, 112, 111, 114, 116, 32]] ++ [wd [42, 32, 97, 115, 32], wd qa.t] ++ [wd [32, 102, 114, 111, 109, 32]] ++ [wd (quote t), wd [59]] := by simp [importP, restP, kid0, Tr.l, Tr.t, Tr.n, star]
   rw [e] at hl ⊢
   exact imp_4_0 t qa r B pb L w v hp h hv hl
  ·have e : importP (.mk 60 t 1 (.mk 61 [42] 0 [qa] :: r)) = [wd [105, 109, 112, 111, 114, 116, 32]] ++ [wd [116, 121, 112, 101, 32]] ++ [wd [42, 32, 97, 115, 32], wd qa.t] ++ [wd [32, 102, 114, 111, 109, 32]] ++ [wd (quote t), wd [59]] := by simp [importP, restP, kid0, Tr.l, Tr.t, Tr.n, star]
   rw [e] at hl ⊢
   exact imp_4_1 t qa r B pb L w v hp h hv hl
 ·skip
  rcases hn with rfl | rfl
  ·have e : importP (.mk 60 t 0 (.mk 61 ta 0 [qa] :: r)) = [wd [105, 109, 112, 111, 114, 116, 32]] ++ [wd [123, 32]] ++ namesP true (.mk 61 ta 0 [qa] :: r) ++ [wd [32, 125]] ++ [wd [32, 102, 114, 111, 109, 32]] ++ [wd (quote t), wd [59]] := by simp [importP, restP, kid0, Tr.l, Tr.t, Tr.n, star, hs, hd]
   rw [e] at hl ⊢
   exact imp_5_0 t ta qa r B pb L w v hp h hv hr hs hd hl
  ·have e : importP (.mk 60 t 1 (.mk 61 ta 0 [qa] :: r)) = [wd [105, 109, 112, 111, 114, 116, 32]] ++ [wd [116, 121, 112, 101, 32]] ++ [wd [123, 32]] ++ namesP true (.mk 61 ta 0 [qa] :: r) ++ [wd [32, 125]] ++ [wd [32, 102, 114, 111, 109, 32]] ++ [wd (quote t), wd [59]] := by simp [importP, restP, kid0, Tr.l, Tr.t, Tr.n, star, hs, hd]
   rw [e] at hl ⊢
   exact imp_5_1 t ta qa r B pb L w v hp h hv hr hs hd hl


theorem exports_p (x : Tr) (hk : x.k = 64) (hx : isFrom x = true) {B pb : Nat} {L : List Pc} {w : World} {v : Value} (hp : PrAt B w pb L) (h : NT B w v x) : Pn 142 B pb w L v (exportP x) := by
 intro hl
 obtain ⟨k, t, n, l⟩ := x
 simp only [Tr.k] at hk
 subst hk
 simp only [isFrom, Bool.and_eq_true, Tr.t, Tr.n, Tr.l] at hx
 obtain ⟨⟨⟨hv, hn⟩, hi⟩, ha⟩ := hx
 have hn : n = 0 ∨ n = 1 := by simpa using hn
 have hsh : ∀ y ∈ l, ∃ t o, y = .mk 65 t 0 [o] := by
  intro y hy
  have := (List.all_eq_true.1 ha) y hy
  obtain ⟨k', t', n', m⟩ := y
  simp only [oneOk, Bool.and_eq_true, beq_iff_eq, Tr.k, Tr.n, Tr.l] at this
  obtain ⟨⟨⟨rfl, rfl⟩, h3⟩, _⟩ := this
  rcases m with _ | ⟨o, _ | ⟨z, m⟩⟩
  ·simp at h3
  ·exact ⟨t', o, rfl⟩
  ·simp at h3
 rcases l with _ | ⟨y, r⟩
 ·simp at hi
 obtain ⟨ta, qa, rfl⟩ := hsh y (by simp)
 have hr : ∀ y ∈ r, ∃ ky kt z, y = .mk ky kt 0 [z] := fun y hy => by obtain ⟨t, o, e⟩ := hsh y (by simp [hy]); exact ⟨_, _, _, e⟩
 have h1 := (List.all_eq_true.1 ha) _ (List.mem_cons_self ..)
 by_cases hs : ta = [42]
 ·subst hs
  simp [oneOk, Tr.t, Tr.n, Tr.l, Tr.k, star] at h1
  obtain ⟨_, ⟨_, ht⟩, rfl⟩ := h1
  by_cases hq : qa.k = 14
  ·have e : exportP (.mk 64 t 0 (.mk 65 [42] 0 [qa] :: r)) = [wd [101, 120, 112, 111, 114, 116, 32]] ++ [wd [42]] ++ [wd [32, 102, 114, 111, 109, 32], wd (quote t)] ++ [wd [59]] := by
    cases qa
    simp only [Tr.k] at hq
    simp [exportP, kid0, Tr.l, Tr.t, Tr.n, Tr.k, star, hq, ht]
   rw [e] at hl ⊢
   exact exp_star_0 t qa r B pb L w v hp h hv ht hq hl
  ·have hq' : ¬ qa.k = 14 := hq
   have e : exportP (.mk 64 t 0 (.mk 65 [42] 0 [qa] :: r)) = [wd [101, 120, 112, 111, 114, 116, 32]] ++ [wd [42]] ++ [wd [32, 97, 115, 32], wd qa.t] ++ [wd [32, 102, 114, 111, 109, 32], wd (quote t)] ++ [wd [59]] := by
    cases qa
    simp only [Tr.k] at hq'
    simp [exportP, kid0, Tr.l, Tr.t, Tr.n, Tr.k, star, hq', ht]
   rw [e] at hl ⊢
   exact exp_star_1 t qa r B pb L w v hp h hv ht hq hl
 ·by_cases ht : t = []
  ·subst ht
   rcases hn with rfl | rfl
   ·have e : exportP (.mk 64 [] 0 (.mk 65 ta 0 [qa] :: r)) = [wd [101, 120, 112, 111, 114, 116, 32]] ++ [wd [123, 32]] ++ namesP true (.mk 65 ta 0 [qa] :: r) ++ [wd [32, 125]] ++ [wd [59]] := by simp [exportP, kid0, Tr.l, Tr.t, Tr.n, Tr.k, star, hs]
    rw [e] at hl ⊢
    exact exp_0_0 ta qa r B pb L w v hp h hr hs hl
   ·have e : exportP (.mk 64 [] 1 (.mk 65 ta 0 [qa] :: r)) = [wd [101, 120, 112, 111, 114, 116, 32]] ++ [wd [116, 121, 112, 101, 32]] ++ [wd [123, 32]] ++ namesP true (.mk 65 ta 0 [qa] :: r) ++ [wd [32, 125]] ++ [wd [59]] := by simp [exportP, kid0, Tr.l, Tr.t, Tr.n, Tr.k, star, hs]
    rw [e] at hl ⊢
    exact exp_1_0 ta qa r B pb L w v hp h hr hs hl
  ·rcases hn with rfl | rfl
   ·have e : exportP (.mk 64 t 0 (.mk 65 ta 0 [qa] :: r)) = [wd [101, 120, 112, 111, 114, 116, 32]] ++ [wd [123, 32]] ++ namesP true (.mk 65 ta 0 [qa] :: r) ++ [wd [32, 125]] ++ [wd [32, 102, 114, 111, 109, 32], wd (quote t)] ++ [wd [59]] := by simp [exportP, kid0, Tr.l, Tr.t, Tr.n, Tr.k, star, hs, ht]
    rw [e] at hl ⊢
    exact exp_0_1 t ta qa r B pb L w v hp h hv ht hr hs hl
   ·have e : exportP (.mk 64 t 1 (.mk 65 ta 0 [qa] :: r)) = [wd [101, 120, 112, 111, 114, 116, 32]] ++ [wd [116, 121, 112, 101, 32]] ++ [wd [123, 32]] ++ namesP true (.mk 65 ta 0 [qa] :: r) ++ [wd [32, 125]] ++ [wd [32, 102, 114, 111, 109, 32], wd (quote t)] ++ [wd [59]] := by simp [exportP, kid0, Tr.l, Tr.t, Tr.n, Tr.k, star, hs, ht]
    rw [e] at hl ⊢
    exact exp_1_1 t ta qa r B pb L w v hp h hv ht hr hs hl

end Go.Proofs.YtpmlmpibpmoclaaGreatDoor
