/-
  The printer on items.
-/
import Derived.Test.YtpmlmpibpmoclaaGreatDoorS8
import Derived.Test.YtpmlmpibpmoclaaGreatDoorPd
import Derived.StillTailTactics
namespace Go.Proofs.YtpmlmpibpmoclaaGreatDoor
set_option linter.all false
set_option maxRecDepth 20000
set_option maxHeartbeats 4000000
open Go.RowKit

theorem alloc2_size (w : World) (a b : Obj) : ((w.alloc a).alloc b).heap.size = w.heap.size + 2 := by rw [alloc_size, alloc_size]
theorem one_keepF {w w' : World} (hx : Fx w w') {b : Nat} {o : Obj} (h : w.heap[b]? = some o) : w'.heap[b]? = some o := (hx.block b (Array.getElem?_eq_some_iff.1 h).1 id).trans h

theorem top_42 (t : Bs) (l : List Tr) (B pb : Nat) (L : List Pc) (w : World) (v : Value) (hp : PrAt B w pb L) (h : NT B w v (.mk 42 t 0 l)) (hm : ∀ y ∈ l, CM y ∧ wt y ≤ BW) : Pn 75 B pb w L v ([wd [99, 108, 97, 115, 115, 32], wd t, wd [32]] ++ (Pc.opn :: (linesG qM l ++ [Pc.shut]))) := by
 intro hl
 have hsv := sv_list
 obtain ⟨sl, rfl, hks, hkr, hnr, htl⟩ := id h.node.open
 simp only [Tr.t, Tr.l] at hks htl
 obtain ⟨p, c, rfl, hcp, hkid⟩ := hks.kid
 have hpb := hid hp.le
 have hneX : w.heap.size ≠ pb := by have := hp.lt; omega
 have hne : w.heap.size + 1 ≠ pb := by have := hp.lt; omega
 have hz1 : (w.alloc (.cells #[.pointer (some ⟨pb, 0, none⟩)] 40)).heap.size = w.heap.size + 1 := alloc_size _ _
 have x0 : Fx w (w.alloc (.cells #[.pointer (some ⟨pb, 0, none⟩)] 40)) := Ext.alloc _ _ _
 have x1 : Fx (w.alloc (.cells #[.pointer (some ⟨pb, 0, none⟩)] 40)) ((w.alloc (.cells #[.pointer (some ⟨pb, 0, none⟩)] 40)).alloc (.cells #[.int .i64 42, .string (sv t), .int .i64 0, .slice p (List.length (l : List Tr)) c] 24)) := Ext.alloc _ _ _
 have xw : Fx w ((w.alloc (.cells #[.pointer (some ⟨pb, 0, none⟩)] 40)).alloc (.cells #[.int .i64 42, .string (sv t), .int .i64 0, .slice p (List.length (l : List Tr)) c] 24)) := x0.of_eq x1
 have pp := hid (Px.of (B := B) (pb := pb) xw)
 have hb1 := heap_new (w.alloc (.cells #[.pointer (some ⟨pb, 0, none⟩)] 40)) (.cells #[.int .i64 42, .string (sv t), .int .i64 0, .slice p (List.length (l : List Tr)) c] 24)
 obtain ⟨c0, c1, c2, c3⟩ := nd_cells (w.alloc (.cells #[.pointer (some ⟨pb, 0, none⟩)] 40)) 42 0 (sv t) (.slice p (List.length (l : List Tr)) c)
 rw [hz1] at hb1 c0 c1 c2 c3
 have HB := hid hb1
 have HX := hid (one_keepF x1 (heap_new w (.cells #[.pointer (some ⟨pb, 0, none⟩)] 40)))
 have b0 := cell_one HX.out
 have hd := hid (h.keepF xw)
 have hk := hid (hks.keepF xw)
 have hT0 := hid h.tab
 have hT := hid (h.tab.keepF xw)
 have hp1 := hid (hp.keepF xw)
 have HL := hid hl
 have K := hid hkid
 have hll := hid hcp.2
 have Hu := hid hm
 clear hm
 clear h hks hkid hcp hkr hnr hp hl hb1 hz1 x0 x1
 simp only [nv, Tr.k, Tr.t, Tr.n, Tr.l, lC, lN, zA, Nat.reduceAdd] at hd hk HB HX pp c0 c1 c2 c3 b0 ⊢
 clear K
 go_enter Tryz.func75, Tryz.ntmps75
 go_wp2_with ((first | (go_at_call 67; refine (put_l [[99, 108, 97, 115, 115, 32], t, [32]] hp1.out (lo HL.out) (by rfl) (by rfl) (by first | rfl | exact alloc_size _ _ | exact alloc2_size _ _ _) (by decide)).mono ?_; rintro e w67 ⟨rfl, hq, z_⟩) | (go_at_call 139; refine (inside_140 l hp1.out hk.out hT.out Hu.out (lo HL.out)).mono ?_; rintro e w139 ⟨rfl, hq, z_⟩)) <;> (replace ⟨pp, hp1, HB, c0, c1, c2, c3⟩ := Q5 z_ pp hq HB hne; replace ⟨hd, hk, hT⟩ := D3 z_ hpb hd hk hT; replace HX := hid (z_.loc HX.out hneX (by decide)); replace b0 := cell_one HX.out))
 try simp only [Exit.inBlock, Exit.then]
 refine be rfl rfl ?_
 exact ⟨rfl, hp1.out.cast (by first | (simp; done) | (simp <;> first | rfl | exact ⟨rfl, rfl⟩)), pp.out⟩

theorem top_66 (t : Bs) (l : List Tr) (B pb : Nat) (L : List Pc) (w : World) (v : Value) (hp : PrAt B w pb L) (h : NT B w v (.mk 66 t 0 l)) (hm : ∀ y ∈ l, ∃ t z, y = .mk 67 t 0 [z]) : Pn 75 B pb w L v ([wd [110, 97, 109, 101, 115, 112, 97, 99, 101, 32], wd t, wd [32]] ++ (Pc.opn :: (linesG qN l ++ [Pc.shut]))) := by
 intro hl
 have hsv := sv_list
 obtain ⟨sl, rfl, hks, hkr, hnr, htl⟩ := id h.node.open
 simp only [Tr.t, Tr.l] at hks htl
 obtain ⟨p, c, rfl, hcp, hkid⟩ := hks.kid
 have hpb := hid hp.le
 have hneX : w.heap.size ≠ pb := by have := hp.lt; omega
 have hne : w.heap.size + 1 ≠ pb := by have := hp.lt; omega
 have hz1 : (w.alloc (.cells #[.pointer (some ⟨pb, 0, none⟩)] 40)).heap.size = w.heap.size + 1 := alloc_size _ _
 have x0 : Fx w (w.alloc (.cells #[.pointer (some ⟨pb, 0, none⟩)] 40)) := Ext.alloc _ _ _
 have x1 : Fx (w.alloc (.cells #[.pointer (some ⟨pb, 0, none⟩)] 40)) ((w.alloc (.cells #[.pointer (some ⟨pb, 0, none⟩)] 40)).alloc (.cells #[.int .i64 66, .string (sv t), .int .i64 0, .slice p (List.length (l : List Tr)) c] 24)) := Ext.alloc _ _ _
 have xw : Fx w ((w.alloc (.cells #[.pointer (some ⟨pb, 0, none⟩)] 40)).alloc (.cells #[.int .i64 66, .string (sv t), .int .i64 0, .slice p (List.length (l : List Tr)) c] 24)) := x0.of_eq x1
 have pp := hid (Px.of (B := B) (pb := pb) xw)
 have hb1 := heap_new (w.alloc (.cells #[.pointer (some ⟨pb, 0, none⟩)] 40)) (.cells #[.int .i64 66, .string (sv t), .int .i64 0, .slice p (List.length (l : List Tr)) c] 24)
 obtain ⟨c0, c1, c2, c3⟩ := nd_cells (w.alloc (.cells #[.pointer (some ⟨pb, 0, none⟩)] 40)) 66 0 (sv t) (.slice p (List.length (l : List Tr)) c)
 rw [hz1] at hb1 c0 c1 c2 c3
 have HB := hid hb1
 have HX := hid (one_keepF x1 (heap_new w (.cells #[.pointer (some ⟨pb, 0, none⟩)] 40)))
 have b0 := cell_one HX.out
 have hd := hid (h.keepF xw)
 have hk := hid (hks.keepF xw)
 have hT0 := hid h.tab
 have hT := hid (h.tab.keepF xw)
 have hp1 := hid (hp.keepF xw)
 have HL := hid hl
 have K := hid hkid
 have hll := hid hcp.2
 have Hu := hid hm
 clear hm
 clear h hks hkid hcp hkr hnr hp hl hb1 hz1 x0 x1
 simp only [nv, Tr.k, Tr.t, Tr.n, Tr.l, lC, lN, zA, Nat.reduceAdd] at hd hk HB HX pp c0 c1 c2 c3 b0 ⊢
 clear K
 go_enter Tryz.func75, Tryz.ntmps75
 go_wp2_with ((first | (go_at_call 67; refine (put_l [[110, 97, 109, 101, 115, 112, 97, 99, 101, 32], t, [32]] hp1.out (lo HL.out) (by rfl) (by rfl) (by first | rfl | exact alloc_size _ _ | exact alloc2_size _ _ _) (by decide)).mono ?_; rintro e w67 ⟨rfl, hq, z_⟩) | (go_at_call 139; refine (inside_143 l hp1.out hk.out hT.out Hu.out w.heap.size HX.out hneX (lo HL.out)).mono ?_; rintro e w139 ⟨rfl, hq, z_⟩)) <;> (replace ⟨pp, hp1, HB, c0, c1, c2, c3⟩ := Q5 z_ pp hq HB hne; replace ⟨hd, hk, hT⟩ := D3 z_ hpb hd hk hT; replace HX := hid (z_.loc HX.out hneX (by decide)); replace b0 := cell_one HX.out))
 try simp only [Exit.inBlock, Exit.then]
 refine be rfl rfl ?_
 exact ⟨rfl, hp1.out.cast (by first | (simp; done) | (simp <;> first | rfl | exact ⟨rfl, rfl⟩)), pp.out⟩

theorem top_60 (t : Bs) (n : Int) (l : List Tr) (B pb : Nat) (L : List Pc) (w : World) (v : Value) (hp : PrAt B w pb L) (h : NT B w v (.mk 60 t n l)) (hi : isImport (.mk 60 t n l) = true) : Pn 75 B pb w L v (importP (.mk 60 t n l)) := by
 intro hl
 have hsv := sv_list
 obtain ⟨sl, rfl, hks, hkr, hnr, htl⟩ := id h.node.open
 simp only [Tr.t, Tr.l] at hks htl
 obtain ⟨p, c, rfl, hcp, hkid⟩ := hks.kid
 have hpb := hid hp.le
 have hneX : w.heap.size ≠ pb := by have := hp.lt; omega
 have hne : w.heap.size + 1 ≠ pb := by have := hp.lt; omega
 have hz1 : (w.alloc (.cells #[.pointer (some ⟨pb, 0, none⟩)] 40)).heap.size = w.heap.size + 1 := alloc_size _ _
 have x0 : Fx w (w.alloc (.cells #[.pointer (some ⟨pb, 0, none⟩)] 40)) := Ext.alloc _ _ _
 have x1 : Fx (w.alloc (.cells #[.pointer (some ⟨pb, 0, none⟩)] 40)) ((w.alloc (.cells #[.pointer (some ⟨pb, 0, none⟩)] 40)).alloc (.cells #[.int .i64 60, .string (sv t), .int .i64 n, .slice p (List.length (l : List Tr)) c] 24)) := Ext.alloc _ _ _
 have xw : Fx w ((w.alloc (.cells #[.pointer (some ⟨pb, 0, none⟩)] 40)).alloc (.cells #[.int .i64 60, .string (sv t), .int .i64 n, .slice p (List.length (l : List Tr)) c] 24)) := x0.of_eq x1
 have pp := hid (Px.of (B := B) (pb := pb) xw)
 have hb1 := heap_new (w.alloc (.cells #[.pointer (some ⟨pb, 0, none⟩)] 40)) (.cells #[.int .i64 60, .string (sv t), .int .i64 n, .slice p (List.length (l : List Tr)) c] 24)
 obtain ⟨c0, c1, c2, c3⟩ := nd_cells (w.alloc (.cells #[.pointer (some ⟨pb, 0, none⟩)] 40)) 60 n (sv t) (.slice p (List.length (l : List Tr)) c)
 rw [hz1] at hb1 c0 c1 c2 c3
 have HB := hid hb1
 have HX := hid (one_keepF x1 (heap_new w (.cells #[.pointer (some ⟨pb, 0, none⟩)] 40)))
 have b0 := cell_one HX.out
 have hd := hid (h.keepF xw)
 have hk := hid (hks.keepF xw)
 have hT0 := hid h.tab
 have hT := hid (h.tab.keepF xw)
 have hp1 := hid (hp.keepF xw)
 have HL := hid hl
 have K := hid hkid
 have hll := hid hcp.2
 have Hi := hid hi
 clear hi
 clear h hks hkid hcp hkr hnr hp hl hb1 hz1 x0 x1
 simp only [nv, Tr.k, Tr.t, Tr.n, Tr.l, lC, lN, zA, Nat.reduceAdd] at hd hk HB HX pp c0 c1 c2 c3 b0 ⊢
 clear K
 go_enter Tryz.func75, Tryz.ntmps75
 go_wp2_with (go_at_call 141; refine (imports_p (.mk 60 t n l) rfl Hi.out hp1.out hd.out (lo HL.out)).mono ?_; rintro e w141 ⟨rfl, hq, z_⟩; replace ⟨pp, hp1, HB, c0, c1, c2, c3⟩ := Q5 z_ pp hq HB hne; replace ⟨hd, hk, hT⟩ := D3 z_ hpb hd hk hT; replace HX := hid (z_.loc HX.out hneX (by decide)); replace b0 := cell_one HX.out)
 try simp only [Exit.inBlock, Exit.then]
 refine be rfl rfl ?_
 exact ⟨rfl, hp1.out.cast (by first | (simp; done) | (simp <;> first | rfl | exact ⟨rfl, rfl⟩)), pp.out⟩

theorem top_64 (t : Bs) (n : Int) (l : List Tr) (B pb : Nat) (L : List Pc) (w : World) (v : Value) (hp : PrAt B w pb L) (h : NT B w v (.mk 64 t n l)) (hi : isFrom (.mk 64 t n l) = true) : Pn 75 B pb w L v (exportP (.mk 64 t n l)) := by
 intro hl
 have hsv := sv_list
 obtain ⟨sl, rfl, hks, hkr, hnr, htl⟩ := id h.node.open
 simp only [Tr.t, Tr.l] at hks htl
 obtain ⟨p, c, rfl, hcp, hkid⟩ := hks.kid
 have hpb := hid hp.le
 have hneX : w.heap.size ≠ pb := by have := hp.lt; omega
 have hne : w.heap.size + 1 ≠ pb := by have := hp.lt; omega
 have hz1 : (w.alloc (.cells #[.pointer (some ⟨pb, 0, none⟩)] 40)).heap.size = w.heap.size + 1 := alloc_size _ _
 have x0 : Fx w (w.alloc (.cells #[.pointer (some ⟨pb, 0, none⟩)] 40)) := Ext.alloc _ _ _
 have x1 : Fx (w.alloc (.cells #[.pointer (some ⟨pb, 0, none⟩)] 40)) ((w.alloc (.cells #[.pointer (some ⟨pb, 0, none⟩)] 40)).alloc (.cells #[.int .i64 64, .string (sv t), .int .i64 n, .slice p (List.length (l : List Tr)) c] 24)) := Ext.alloc _ _ _
 have xw : Fx w ((w.alloc (.cells #[.pointer (some ⟨pb, 0, none⟩)] 40)).alloc (.cells #[.int .i64 64, .string (sv t), .int .i64 n, .slice p (List.length (l : List Tr)) c] 24)) := x0.of_eq x1
 have pp := hid (Px.of (B := B) (pb := pb) xw)
 have hb1 := heap_new (w.alloc (.cells #[.pointer (some ⟨pb, 0, none⟩)] 40)) (.cells #[.int .i64 64, .string (sv t), .int .i64 n, .slice p (List.length (l : List Tr)) c] 24)
 obtain ⟨c0, c1, c2, c3⟩ := nd_cells (w.alloc (.cells #[.pointer (some ⟨pb, 0, none⟩)] 40)) 64 n (sv t) (.slice p (List.length (l : List Tr)) c)
 rw [hz1] at hb1 c0 c1 c2 c3
 have HB := hid hb1
 have HX := hid (one_keepF x1 (heap_new w (.cells #[.pointer (some ⟨pb, 0, none⟩)] 40)))
 have b0 := cell_one HX.out
 have hd := hid (h.keepF xw)
 have hk := hid (hks.keepF xw)
 have hT0 := hid h.tab
 have hT := hid (h.tab.keepF xw)
 have hp1 := hid (hp.keepF xw)
 have HL := hid hl
 have K := hid hkid
 have hll := hid hcp.2
 have Hi := hid hi
 clear hi
 clear h hks hkid hcp hkr hnr hp hl hb1 hz1 x0 x1
 simp only [nv, Tr.k, Tr.t, Tr.n, Tr.l, lC, lN, zA, Nat.reduceAdd] at hd hk HB HX pp c0 c1 c2 c3 b0 ⊢
 clear K
 go_enter Tryz.func75, Tryz.ntmps75
 go_wp2_with (go_at_call 142; refine (exports_p (.mk 64 t n l) rfl Hi.out hp1.out hd.out (lo HL.out)).mono ?_; rintro e w142 ⟨rfl, hq, z_⟩; replace ⟨pp, hp1, HB, c0, c1, c2, c3⟩ := Q5 z_ pp hq HB hne; replace ⟨hd, hk, hT⟩ := D3 z_ hpb hd hk hT; replace HX := hid (z_.loc HX.out hneX (by decide)); replace b0 := cell_one HX.out)
 try simp only [Exit.inBlock, Exit.then]
 refine be rfl rfl ?_
 exact ⟨rfl, hp1.out.cast (by first | (simp; done) | (simp <;> first | rfl | exact ⟨rfl, rfl⟩)), pp.out⟩

theorem top_46 (t : Bs) (ya : Tr) (B pb : Nat) (L : List Pc) (w : World) (v : Value) (hp : PrAt B w pb L) (h : NT B w v (.mk 46 t 0 [ya])) (ha1 : isT ya = true) : Pn 75 B pb w L v ([wd [116, 121, 112, 101, 32], wd t, wd [32, 61, 32]] ++ qT ya ++ [wd [59]]) := by
 intro hl
 have hsv := sv_list
 obtain ⟨sl, rfl, hks, hkr, hnr, htl⟩ := id h.node.open
 simp only [Tr.t, Tr.l] at hks htl
 obtain ⟨p, c, rfl, hcp, hkid⟩ := hks.kid
 have hpb := hid hp.le
 have hneX : w.heap.size ≠ pb := by have := hp.lt; omega
 have hne : w.heap.size + 1 ≠ pb := by have := hp.lt; omega
 have hz1 : (w.alloc (.cells #[.pointer (some ⟨pb, 0, none⟩)] 40)).heap.size = w.heap.size + 1 := alloc_size _ _
 have x0 : Fx w (w.alloc (.cells #[.pointer (some ⟨pb, 0, none⟩)] 40)) := Ext.alloc _ _ _
 have x1 : Fx (w.alloc (.cells #[.pointer (some ⟨pb, 0, none⟩)] 40)) ((w.alloc (.cells #[.pointer (some ⟨pb, 0, none⟩)] 40)).alloc (.cells #[.int .i64 46, .string (sv t), .int .i64 0, .slice p (List.length ([ya] : List Tr)) c] 24)) := Ext.alloc _ _ _
 have xw : Fx w ((w.alloc (.cells #[.pointer (some ⟨pb, 0, none⟩)] 40)).alloc (.cells #[.int .i64 46, .string (sv t), .int .i64 0, .slice p (List.length ([ya] : List Tr)) c] 24)) := x0.of_eq x1
 have pp := hid (Px.of (B := B) (pb := pb) xw)
 have hb1 := heap_new (w.alloc (.cells #[.pointer (some ⟨pb, 0, none⟩)] 40)) (.cells #[.int .i64 46, .string (sv t), .int .i64 0, .slice p (List.length ([ya] : List Tr)) c] 24)
 obtain ⟨c0, c1, c2, c3⟩ := nd_cells (w.alloc (.cells #[.pointer (some ⟨pb, 0, none⟩)] 40)) 46 0 (sv t) (.slice p (List.length ([ya] : List Tr)) c)
 rw [hz1] at hb1 c0 c1 c2 c3
 have HB := hid hb1
 have HX := hid (one_keepF x1 (heap_new w (.cells #[.pointer (some ⟨pb, 0, none⟩)] 40)))
 have b0 := cell_one HX.out
 have hd := hid (h.keepF xw)
 have hk := hid (hks.keepF xw)
 have hT0 := hid h.tab
 have hT := hid (h.tab.keepF xw)
 have hp1 := hid (hp.keepF xw)
 have HL := hid hl
 have K := hid hkid
 have hll := hid hcp.2
 have H1 := hid ha1
 clear ha1
 clear h hks hkid hcp hkr hnr hp hl hb1 hz1 x0 x1
 simp only [nv, Tr.k, Tr.t, Tr.n, Tr.l, lC, lN, zA, Nat.reduceAdd] at hd hk HB HX pp c0 c1 c2 c3 b0 ⊢
 obtain ⟨g, o, s0, rfl, hgB, a0, a1, a2, a3, ha⟩ := K.out 0 (by simp)
 simp only [gZ, gS, zM, oM, aZ, lC, lN, zA, Nat.reduceAdd, Nat.reduceMul] at *
 replace ⟨a0, a1, a2, a3⟩ := F4 xw a0 a1 a2 a3
 replace ha := hid ((NT.mk ha hT0.out).keepF xw)
 simp only [nv] at ha
 obtain ⟨sla, hsa, hksa, _⟩ := id ha.out.node.open
 obtain ⟨pka, cca, hva, _⟩ := hksa.kid
 obtain rfl : s0 = .slice pka ya.l.length cca := by rw [← hva]; simpa [nv] using hsa
 clear hsa hksa hva
 clear K
 go_enter Tryz.func75, Tryz.ntmps75
 go_wp2_with (go_at_call 67; refine (put_l [[116, 121, 112, 101, 32], t, [32, 61, 32]] hp1.out (lo HL.out) (by rfl) (by rfl) (by first | rfl | exact alloc_size _ _ | exact alloc2_size _ _ _) (by decide)).mono ?_; rintro e w67 ⟨rfl, hq, z_⟩; replace ⟨pp, hp1, HB, c0, c1, c2, c3⟩ := Q5 z_ pp hq HB hne; replace ⟨a0, a1, a2, a3⟩ := P4 z_ hpb.out hgB a0 a1 a2 a3; replace ha := hid (ha.out.keepP z_ hpb.out); replace ⟨hd, hk, hT⟩ := D3 z_ hpb hd hk hT; replace HX := hid (z_.loc HX.out hneX (by decide)); replace b0 := cell_one HX.out)
 have xD : Fx w67 w67.drew := Ext.drew (fun _ => False) w67
 have hcall := typ_p ya H1.out (hp1.out.keepF xD) (ha.out.keepF xD) (lo HL.out)
 go_region_with (go_at_call 30; refine hcall.mono ?_; rintro e w30 ⟨rfl, hq, x30⟩)
 all_goals
  have xd' := Px.fxo x30 xD
  replace pp := hid (pp.out.trans xd'); replace hp1 := hid hq; replace HB := hid (xd'.loc HB.out hne (by decide)); replace ⟨c0, c1, c2, c3⟩ := blk4 HB.out; replace ⟨a0, a1, a2, a3⟩ := P4 xd' hpb.out hgB a0 a1 a2 a3; replace ha := hid (ha.out.keepP xd' hpb.out); replace hd := hid (hd.out.keepP xd' hpb.out); replace hk := hid (hk.out.keepP xd' hpb.out); replace hT := hid (hT.out.keepP xd' hpb.out); replace HX := hid (xd'.loc HX.out hneX (by decide)); replace b0 := cell_one HX.out
  go_wp2_with (go_at_call 67; refine (put_l [[59]] hp1.out (lo HL.out) (by rfl) (by rfl) (by first | rfl | exact alloc_size _ _ | exact alloc2_size _ _ _) (by decide)).mono ?_; rintro e w67 ⟨rfl, hq, z_⟩; replace ⟨pp, hp1, HB, c0, c1, c2, c3⟩ := Q5 z_ pp hq HB hne; replace ⟨a0, a1, a2, a3⟩ := P4 z_ hpb.out hgB a0 a1 a2 a3; replace ha := hid (ha.out.keepP z_ hpb.out); replace ⟨hd, hk, hT⟩ := D3 z_ hpb hd hk hT; replace HX := hid (z_.loc HX.out hneX (by decide)); replace b0 := cell_one HX.out)
  try simp only [Exit.inBlock, Exit.then]
  refine be rfl rfl ?_
  exact ⟨rfl, hp1.out.cast (by first | (simp; done) | (simp <;> first | rfl | exact ⟨rfl, rfl⟩)), pp.out⟩

theorem top_62 (ya : Tr) (B pb : Nat) (L : List Pc) (w : World) (v : Value) (hp : PrAt B w pb L) (h : NT B w v (.mk 62 [] 0 [ya])) (h31 : ∀ (L : List Pc) (w : World), PrAt B w pb L → ∀ v, NT B w v ya → (L ++ qIt ya).length ≤ 4398046511104 → Calls Tryz.prog 31 #[.pointer (some ⟨pb, 0, none⟩), v] w (Pts B pb w (L ++ qIt ya))) : Pn 75 B pb w L v ([wd [101, 120, 112, 111, 114, 116, 32]] ++ qIt ya) := by
 intro hl
 have hsv := sv_list
 obtain ⟨sl, rfl, hks, hkr, hnr, htl⟩ := id h.node.open
 simp only [Tr.t, Tr.l] at hks htl
 obtain ⟨p, c, rfl, hcp, hkid⟩ := hks.kid
 have hpb := hid hp.le
 have hneX : w.heap.size ≠ pb := by have := hp.lt; omega
 have hne : w.heap.size + 1 ≠ pb := by have := hp.lt; omega
 have hz1 : (w.alloc (.cells #[.pointer (some ⟨pb, 0, none⟩)] 40)).heap.size = w.heap.size + 1 := alloc_size _ _
 have x0 : Fx w (w.alloc (.cells #[.pointer (some ⟨pb, 0, none⟩)] 40)) := Ext.alloc _ _ _
 have x1 : Fx (w.alloc (.cells #[.pointer (some ⟨pb, 0, none⟩)] 40)) ((w.alloc (.cells #[.pointer (some ⟨pb, 0, none⟩)] 40)).alloc (.cells #[.int .i64 62, .string (sv []), .int .i64 0, .slice p (List.length ([ya] : List Tr)) c] 24)) := Ext.alloc _ _ _
 have xw : Fx w ((w.alloc (.cells #[.pointer (some ⟨pb, 0, none⟩)] 40)).alloc (.cells #[.int .i64 62, .string (sv []), .int .i64 0, .slice p (List.length ([ya] : List Tr)) c] 24)) := x0.of_eq x1
 have pp := hid (Px.of (B := B) (pb := pb) xw)
 have hb1 := heap_new (w.alloc (.cells #[.pointer (some ⟨pb, 0, none⟩)] 40)) (.cells #[.int .i64 62, .string (sv []), .int .i64 0, .slice p (List.length ([ya] : List Tr)) c] 24)
 obtain ⟨c0, c1, c2, c3⟩ := nd_cells (w.alloc (.cells #[.pointer (some ⟨pb, 0, none⟩)] 40)) 62 0 (sv []) (.slice p (List.length ([ya] : List Tr)) c)
 rw [hz1] at hb1 c0 c1 c2 c3
 have HB := hid hb1
 have HX := hid (one_keepF x1 (heap_new w (.cells #[.pointer (some ⟨pb, 0, none⟩)] 40)))
 have b0 := cell_one HX.out
 have hd := hid (h.keepF xw)
 have hk := hid (hks.keepF xw)
 have hT0 := hid h.tab
 have hT := hid (h.tab.keepF xw)
 have hp1 := hid (hp.keepF xw)
 have HL := hid hl
 have K := hid hkid
 have hll := hid hcp.2
 have H1 := hid h31
 clear h31
 clear h hks hkid hcp hkr hnr hp hl hb1 hz1 x0 x1
 simp only [nv, Tr.k, Tr.t, Tr.n, Tr.l, lC, lN, zA, Nat.reduceAdd] at hd hk HB HX pp c0 c1 c2 c3 b0 ⊢
 obtain ⟨g, o, s0, rfl, hgB, a0, a1, a2, a3, ha⟩ := K.out 0 (by simp)
 simp only [gZ, gS, zM, oM, aZ, lC, lN, zA, Nat.reduceAdd, Nat.reduceMul] at *
 replace ⟨a0, a1, a2, a3⟩ := F4 xw a0 a1 a2 a3
 replace ha := hid ((NT.mk ha hT0.out).keepF xw)
 simp only [nv] at ha
 obtain ⟨sla, hsa, hksa, _⟩ := id ha.out.node.open
 obtain ⟨pka, cca, hva, _⟩ := hksa.kid
 obtain rfl : s0 = .slice pka ya.l.length cca := by rw [← hva]; simpa [nv] using hsa
 clear hsa hksa hva
 clear K
 go_enter Tryz.func75, Tryz.ntmps75
 go_wp2_with (go_at_call 67; refine (put_l [[101, 120, 112, 111, 114, 116, 32]] hp1.out (lo HL.out) (by rfl) (by rfl) (by first | rfl | exact alloc_size _ _ | exact alloc2_size _ _ _) (by decide)).mono ?_; rintro e w67 ⟨rfl, hq, z_⟩; replace ⟨pp, hp1, HB, c0, c1, c2, c3⟩ := Q5 z_ pp hq HB hne; replace ⟨a0, a1, a2, a3⟩ := P4 z_ hpb.out hgB a0 a1 a2 a3; replace ha := hid (ha.out.keepP z_ hpb.out); replace ⟨hd, hk, hT⟩ := D3 z_ hpb hd hk hT; replace HX := hid (z_.loc HX.out hneX (by decide)); replace b0 := cell_one HX.out)
 have xD : Fx w67 w67.drew := Ext.drew (fun _ => False) w67
 have hcall := H1.out _ _ (hp1.out.keepF xD) _ (ha.out.keepF xD) (lo HL.out)
 go_region_with (go_at_call 31; refine hcall.mono ?_; rintro e w31 ⟨rfl, hq, x31⟩)
 all_goals
  have xd' := Px.fxo x31 xD
  replace pp := hid (pp.out.trans xd'); replace hp1 := hid hq; replace HB := hid (xd'.loc HB.out hne (by decide)); replace ⟨c0, c1, c2, c3⟩ := blk4 HB.out; replace ⟨a0, a1, a2, a3⟩ := P4 xd' hpb.out hgB a0 a1 a2 a3; replace ha := hid (ha.out.keepP xd' hpb.out); replace hd := hid (hd.out.keepP xd' hpb.out); replace hk := hid (hk.out.keepP xd' hpb.out); replace hT := hid (hT.out.keepP xd' hpb.out); replace HX := hid (xd'.loc HX.out hneX (by decide)); replace b0 := cell_one HX.out
  go_wp2_with fail
  try simp only [Exit.inBlock, Exit.then]
  refine be rfl rfl ?_
  exact ⟨rfl, hp1.out.cast (by first | (simp; done) | (simp <;> first | rfl | exact ⟨rfl, rfl⟩)), pp.out⟩

theorem top_63_41 (ya : Tr) (B pb : Nat) (L : List Pc) (w : World) (v : Value) (hp : PrAt B w pb L) (h : NT B w v (.mk 63 [] 0 [ya])) (h31 : ∀ (L : List Pc) (w : World), PrAt B w pb L → ∀ v, NT B w v ya → (L ++ qIt ya).length ≤ 4398046511104 → Calls Tryz.prog 31 #[.pointer (some ⟨pb, 0, none⟩), v] w (Pts B pb w (L ++ qIt ya))) (hk41 : ya.k = 41) : Pn 75 B pb w L v ([wd [101, 120, 112, 111, 114, 116, 32, 100, 101, 102, 97, 117, 108, 116, 32]] ++ qIt ya) := by
 intro hl
 have hsv := sv_list
 obtain ⟨sl, rfl, hks, hkr, hnr, htl⟩ := id h.node.open
 simp only [Tr.t, Tr.l] at hks htl
 obtain ⟨p, c, rfl, hcp, hkid⟩ := hks.kid
 have hpb := hid hp.le
 have hneX : w.heap.size ≠ pb := by have := hp.lt; omega
 have hne : w.heap.size + 1 ≠ pb := by have := hp.lt; omega
 have hz1 : (w.alloc (.cells #[.pointer (some ⟨pb, 0, none⟩)] 40)).heap.size = w.heap.size + 1 := alloc_size _ _
 have x0 : Fx w (w.alloc (.cells #[.pointer (some ⟨pb, 0, none⟩)] 40)) := Ext.alloc _ _ _
 have x1 : Fx (w.alloc (.cells #[.pointer (some ⟨pb, 0, none⟩)] 40)) ((w.alloc (.cells #[.pointer (some ⟨pb, 0, none⟩)] 40)).alloc (.cells #[.int .i64 63, .string (sv []), .int .i64 0, .slice p (List.length ([ya] : List Tr)) c] 24)) := Ext.alloc _ _ _
 have xw : Fx w ((w.alloc (.cells #[.pointer (some ⟨pb, 0, none⟩)] 40)).alloc (.cells #[.int .i64 63, .string (sv []), .int .i64 0, .slice p (List.length ([ya] : List Tr)) c] 24)) := x0.of_eq x1
 have pp := hid (Px.of (B := B) (pb := pb) xw)
 have hb1 := heap_new (w.alloc (.cells #[.pointer (some ⟨pb, 0, none⟩)] 40)) (.cells #[.int .i64 63, .string (sv []), .int .i64 0, .slice p (List.length ([ya] : List Tr)) c] 24)
 obtain ⟨c0, c1, c2, c3⟩ := nd_cells (w.alloc (.cells #[.pointer (some ⟨pb, 0, none⟩)] 40)) 63 0 (sv []) (.slice p (List.length ([ya] : List Tr)) c)
 rw [hz1] at hb1 c0 c1 c2 c3
 have HB := hid hb1
 have HX := hid (one_keepF x1 (heap_new w (.cells #[.pointer (some ⟨pb, 0, none⟩)] 40)))
 have b0 := cell_one HX.out
 have hd := hid (h.keepF xw)
 have hk := hid (hks.keepF xw)
 have hT0 := hid h.tab
 have hT := hid (h.tab.keepF xw)
 have hp1 := hid (hp.keepF xw)
 have HL := hid hl
 have K := hid hkid
 have hll := hid hcp.2
 have H1 := hid h31
 clear h31
 clear h hks hkid hcp hkr hnr hp hl hb1 hz1 x0 x1
 simp only [nv, Tr.k, Tr.t, Tr.n, Tr.l, lC, lN, zA, Nat.reduceAdd] at hd hk HB HX pp c0 c1 c2 c3 b0 ⊢
 obtain ⟨g, o, s0, rfl, hgB, a0, a1, a2, a3, ha⟩ := K.out 0 (by simp)
 simp only [gZ, gS, zM, oM, aZ, lC, lN, zA, Nat.reduceAdd, Nat.reduceMul] at *
 replace ⟨a0, a1, a2, a3⟩ := F4 xw a0 a1 a2 a3
 replace ha := hid ((NT.mk ha hT0.out).keepF xw)
 simp only [nv] at ha
 obtain ⟨sla, hsa, hksa, _⟩ := id ha.out.node.open
 obtain ⟨pka, cca, hva, _⟩ := hksa.kid
 obtain rfl : s0 = .slice pka ya.l.length cca := by rw [← hva]; simpa [nv] using hsa
 clear hsa hksa hva
 have g41 : (ya.k == 41) = true := by simpa using hk41
 replace hk41 := hid hk41
 clear K
 go_enter Tryz.func75, Tryz.ntmps75
 go_wp2_with (go_at_call 67; refine (put_l [[101, 120, 112, 111, 114, 116, 32, 100, 101, 102, 97, 117, 108, 116, 32]] hp1.out (lo HL.out) (by rfl) (by rfl) (by first | rfl | exact alloc_size _ _ | exact alloc2_size _ _ _) (by decide)).mono ?_; rintro e w67 ⟨rfl, hq, z_⟩; replace ⟨pp, hp1, HB, c0, c1, c2, c3⟩ := Q5 z_ pp hq HB hne; replace ⟨a0, a1, a2, a3⟩ := P4 z_ hpb.out hgB a0 a1 a2 a3; replace ha := hid (ha.out.keepP z_ hpb.out); replace ⟨hd, hk, hT⟩ := D3 z_ hpb hd hk hT; replace HX := hid (z_.loc HX.out hneX (by decide)); replace b0 := cell_one HX.out)
 have xD : Fx w67 w67.drew := Ext.drew (fun _ => False) w67
 have hcall := H1.out _ _ (hp1.out.keepF xD) _ (ha.out.keepF xD) (lo HL.out)
 go_region_with (go_at_call 31; refine hcall.mono ?_; rintro e w31 ⟨rfl, hq, x31⟩)
 all_goals
  have xd' := Px.fxo x31 xD
  replace pp := hid (pp.out.trans xd'); replace hp1 := hid hq; replace HB := hid (xd'.loc HB.out hne (by decide)); replace ⟨c0, c1, c2, c3⟩ := blk4 HB.out; replace ⟨a0, a1, a2, a3⟩ := P4 xd' hpb.out hgB a0 a1 a2 a3; replace ha := hid (ha.out.keepP xd' hpb.out); replace hd := hid (hd.out.keepP xd' hpb.out); replace hk := hid (hk.out.keepP xd' hpb.out); replace hT := hid (hT.out.keepP xd' hpb.out); replace HX := hid (xd'.loc HX.out hneX (by decide)); replace b0 := cell_one HX.out
  go_wp2_with fail
  try simp only [Exit.inBlock, Exit.then]
  refine be rfl rfl ?_
  exact ⟨rfl, hp1.out.cast (by first | (simp; done) | (simp <;> first | rfl | exact ⟨rfl, rfl⟩)), pp.out⟩

theorem top_63_42 (ya : Tr) (B pb : Nat) (L : List Pc) (w : World) (v : Value) (hp : PrAt B w pb L) (h : NT B w v (.mk 63 [] 0 [ya])) (h31 : ∀ (L : List Pc) (w : World), PrAt B w pb L → ∀ v, NT B w v ya → (L ++ qIt ya).length ≤ 4398046511104 → Calls Tryz.prog 31 #[.pointer (some ⟨pb, 0, none⟩), v] w (Pts B pb w (L ++ qIt ya))) (hk41 : ¬ ya.k = 41) (hk42 : ya.k = 42) : Pn 75 B pb w L v ([wd [101, 120, 112, 111, 114, 116, 32, 100, 101, 102, 97, 117, 108, 116, 32]] ++ qIt ya) := by
 intro hl
 have hsv := sv_list
 obtain ⟨sl, rfl, hks, hkr, hnr, htl⟩ := id h.node.open
 simp only [Tr.t, Tr.l] at hks htl
 obtain ⟨p, c, rfl, hcp, hkid⟩ := hks.kid
 have hpb := hid hp.le
 have hneX : w.heap.size ≠ pb := by have := hp.lt; omega
 have hne : w.heap.size + 1 ≠ pb := by have := hp.lt; omega
 have hz1 : (w.alloc (.cells #[.pointer (some ⟨pb, 0, none⟩)] 40)).heap.size = w.heap.size + 1 := alloc_size _ _
 have x0 : Fx w (w.alloc (.cells #[.pointer (some ⟨pb, 0, none⟩)] 40)) := Ext.alloc _ _ _
 have x1 : Fx (w.alloc (.cells #[.pointer (some ⟨pb, 0, none⟩)] 40)) ((w.alloc (.cells #[.pointer (some ⟨pb, 0, none⟩)] 40)).alloc (.cells #[.int .i64 63, .string (sv []), .int .i64 0, .slice p (List.length ([ya] : List Tr)) c] 24)) := Ext.alloc _ _ _
 have xw : Fx w ((w.alloc (.cells #[.pointer (some ⟨pb, 0, none⟩)] 40)).alloc (.cells #[.int .i64 63, .string (sv []), .int .i64 0, .slice p (List.length ([ya] : List Tr)) c] 24)) := x0.of_eq x1
 have pp := hid (Px.of (B := B) (pb := pb) xw)
 have hb1 := heap_new (w.alloc (.cells #[.pointer (some ⟨pb, 0, none⟩)] 40)) (.cells #[.int .i64 63, .string (sv []), .int .i64 0, .slice p (List.length ([ya] : List Tr)) c] 24)
 obtain ⟨c0, c1, c2, c3⟩ := nd_cells (w.alloc (.cells #[.pointer (some ⟨pb, 0, none⟩)] 40)) 63 0 (sv []) (.slice p (List.length ([ya] : List Tr)) c)
 rw [hz1] at hb1 c0 c1 c2 c3
 have HB := hid hb1
 have HX := hid (one_keepF x1 (heap_new w (.cells #[.pointer (some ⟨pb, 0, none⟩)] 40)))
 have b0 := cell_one HX.out
 have hd := hid (h.keepF xw)
 have hk := hid (hks.keepF xw)
 have hT0 := hid h.tab
 have hT := hid (h.tab.keepF xw)
 have hp1 := hid (hp.keepF xw)
 have HL := hid hl
 have K := hid hkid
 have hll := hid hcp.2
 have H1 := hid h31
 clear h31
 clear h hks hkid hcp hkr hnr hp hl hb1 hz1 x0 x1
 simp only [nv, Tr.k, Tr.t, Tr.n, Tr.l, lC, lN, zA, Nat.reduceAdd] at hd hk HB HX pp c0 c1 c2 c3 b0 ⊢
 obtain ⟨g, o, s0, rfl, hgB, a0, a1, a2, a3, ha⟩ := K.out 0 (by simp)
 simp only [gZ, gS, zM, oM, aZ, lC, lN, zA, Nat.reduceAdd, Nat.reduceMul] at *
 replace ⟨a0, a1, a2, a3⟩ := F4 xw a0 a1 a2 a3
 replace ha := hid ((NT.mk ha hT0.out).keepF xw)
 simp only [nv] at ha
 obtain ⟨sla, hsa, hksa, _⟩ := id ha.out.node.open
 obtain ⟨pka, cca, hva, _⟩ := hksa.kid
 obtain rfl : s0 = .slice pka ya.l.length cca := by rw [← hva]; simpa [nv] using hsa
 clear hsa hksa hva
 have g41 : (ya.k == 41) = false := by simpa using hk41
 replace hk41 := hid hk41
 have g42 : (ya.k == 42) = true := by simpa using hk42
 replace hk42 := hid hk42
 clear K
 go_enter Tryz.func75, Tryz.ntmps75
 go_wp2_with (go_at_call 67; refine (put_l [[101, 120, 112, 111, 114, 116, 32, 100, 101, 102, 97, 117, 108, 116, 32]] hp1.out (lo HL.out) (by rfl) (by rfl) (by first | rfl | exact alloc_size _ _ | exact alloc2_size _ _ _) (by decide)).mono ?_; rintro e w67 ⟨rfl, hq, z_⟩; replace ⟨pp, hp1, HB, c0, c1, c2, c3⟩ := Q5 z_ pp hq HB hne; replace ⟨a0, a1, a2, a3⟩ := P4 z_ hpb.out hgB a0 a1 a2 a3; replace ha := hid (ha.out.keepP z_ hpb.out); replace ⟨hd, hk, hT⟩ := D3 z_ hpb hd hk hT; replace HX := hid (z_.loc HX.out hneX (by decide)); replace b0 := cell_one HX.out)
 have xD : Fx w67 w67.drew := Ext.drew (fun _ => False) w67
 have hcall := H1.out _ _ (hp1.out.keepF xD) _ (ha.out.keepF xD) (lo HL.out)
 go_region_with (go_at_call 31; refine hcall.mono ?_; rintro e w31 ⟨rfl, hq, x31⟩)
 all_goals
  have xd' := Px.fxo x31 xD
  replace pp := hid (pp.out.trans xd'); replace hp1 := hid hq; replace HB := hid (xd'.loc HB.out hne (by decide)); replace ⟨c0, c1, c2, c3⟩ := blk4 HB.out; replace ⟨a0, a1, a2, a3⟩ := P4 xd' hpb.out hgB a0 a1 a2 a3; replace ha := hid (ha.out.keepP xd' hpb.out); replace hd := hid (hd.out.keepP xd' hpb.out); replace hk := hid (hk.out.keepP xd' hpb.out); replace hT := hid (hT.out.keepP xd' hpb.out); replace HX := hid (xd'.loc HX.out hneX (by decide)); replace b0 := cell_one HX.out
  go_wp2_with fail
  try simp only [Exit.inBlock, Exit.then]
  refine be rfl rfl ?_
  exact ⟨rfl, hp1.out.cast (by first | (simp; done) | (simp <;> first | rfl | exact ⟨rfl, rfl⟩)), pp.out⟩

theorem top_63 (ya : Tr) (B pb : Nat) (L : List Pc) (w : World) (v : Value) (hp : PrAt B w pb L) (h : NT B w v (.mk 63 [] 0 [ya])) (hea : isE ya = true) (hwa : wt ya ≤ BW) (hk41 : ¬ ya.k = 41) (hk42 : ¬ ya.k = 42) : Pn 75 B pb w L v ([wd [101, 120, 112, 111, 114, 116, 32, 100, 101, 102, 97, 117, 108, 116, 32]] ++ aloneP ya) := by
 intro hl
 have hsv := sv_list
 obtain ⟨sl, rfl, hks, hkr, hnr, htl⟩ := id h.node.open
 simp only [Tr.t, Tr.l] at hks htl
 obtain ⟨p, c, rfl, hcp, hkid⟩ := hks.kid
 have hpb := hid hp.le
 have hneX : w.heap.size ≠ pb := by have := hp.lt; omega
 have hne : w.heap.size + 1 ≠ pb := by have := hp.lt; omega
 have hz1 : (w.alloc (.cells #[.pointer (some ⟨pb, 0, none⟩)] 40)).heap.size = w.heap.size + 1 := alloc_size _ _
 have x0 : Fx w (w.alloc (.cells #[.pointer (some ⟨pb, 0, none⟩)] 40)) := Ext.alloc _ _ _
 have x1 : Fx (w.alloc (.cells #[.pointer (some ⟨pb, 0, none⟩)] 40)) ((w.alloc (.cells #[.pointer (some ⟨pb, 0, none⟩)] 40)).alloc (.cells #[.int .i64 63, .string (sv []), .int .i64 0, .slice p (List.length ([ya] : List Tr)) c] 24)) := Ext.alloc _ _ _
 have xw : Fx w ((w.alloc (.cells #[.pointer (some ⟨pb, 0, none⟩)] 40)).alloc (.cells #[.int .i64 63, .string (sv []), .int .i64 0, .slice p (List.length ([ya] : List Tr)) c] 24)) := x0.of_eq x1
 have pp := hid (Px.of (B := B) (pb := pb) xw)
 have hb1 := heap_new (w.alloc (.cells #[.pointer (some ⟨pb, 0, none⟩)] 40)) (.cells #[.int .i64 63, .string (sv []), .int .i64 0, .slice p (List.length ([ya] : List Tr)) c] 24)
 obtain ⟨c0, c1, c2, c3⟩ := nd_cells (w.alloc (.cells #[.pointer (some ⟨pb, 0, none⟩)] 40)) 63 0 (sv []) (.slice p (List.length ([ya] : List Tr)) c)
 rw [hz1] at hb1 c0 c1 c2 c3
 have HB := hid hb1
 have HX := hid (one_keepF x1 (heap_new w (.cells #[.pointer (some ⟨pb, 0, none⟩)] 40)))
 have b0 := cell_one HX.out
 have hd := hid (h.keepF xw)
 have hk := hid (hks.keepF xw)
 have hT0 := hid h.tab
 have hT := hid (h.tab.keepF xw)
 have hp1 := hid (hp.keepF xw)
 have HL := hid hl
 have K := hid hkid
 have hll := hid hcp.2
 have HEA := hid hea
 have HWA := hid hwa
 clear hea hwa
 clear h hks hkid hcp hkr hnr hp hl hb1 hz1 x0 x1
 simp only [nv, Tr.k, Tr.t, Tr.n, Tr.l, lC, lN, zA, Nat.reduceAdd] at hd hk HB HX pp c0 c1 c2 c3 b0 ⊢
 obtain ⟨g, o, s0, rfl, hgB, a0, a1, a2, a3, ha⟩ := K.out 0 (by simp)
 simp only [gZ, gS, zM, oM, aZ, lC, lN, zA, Nat.reduceAdd, Nat.reduceMul] at *
 replace ⟨a0, a1, a2, a3⟩ := F4 xw a0 a1 a2 a3
 replace ha := hid ((NT.mk ha hT0.out).keepF xw)
 simp only [nv] at ha
 obtain ⟨sla, hsa, hksa, _⟩ := id ha.out.node.open
 obtain ⟨pka, cca, hva, _⟩ := hksa.kid
 obtain rfl : s0 = .slice pka ya.l.length cca := by rw [← hva]; simpa [nv] using hsa
 clear hsa hksa hva
 have g41 : (ya.k == 41) = false := by simpa using hk41
 replace hk41 := hid hk41
 have g42 : (ya.k == 42) = false := by simpa using hk42
 replace hk42 := hid hk42
 clear K
 go_enter Tryz.func75, Tryz.ntmps75
 go_wp2_with (go_at_call 67; refine (put_l [[101, 120, 112, 111, 114, 116, 32, 100, 101, 102, 97, 117, 108, 116, 32]] hp1.out (lo HL.out) (by rfl) (by rfl) (by first | rfl | exact alloc_size _ _ | exact alloc2_size _ _ _) (by decide)).mono ?_; rintro e w67 ⟨rfl, hq, z_⟩; replace ⟨pp, hp1, HB, c0, c1, c2, c3⟩ := Q5 z_ pp hq HB hne; replace ⟨a0, a1, a2, a3⟩ := P4 z_ hpb.out hgB a0 a1 a2 a3; replace ha := hid (ha.out.keepP z_ hpb.out); replace ⟨hd, hk, hT⟩ := D3 z_ hpb hd hk hT; replace HX := hid (z_.loc HX.out hneX (by decide)); replace b0 := cell_one HX.out)
 have xD : Fx w67 w67.drew := Ext.drew (fun _ => False) w67
 have hcall := alone_p (es_all (cnt ya + 1)).1 ya (Nat.lt_succ_self _) HEA.out HWA.out (layB_of ya HEA.out HWA.out) (hp1.out.keepF xD) (ha.out.keepF xD) (lo HL.out)
 go_region_with (go_at_call 73; refine hcall.mono ?_; rintro e w73 ⟨rfl, hq, x73⟩)
 all_goals
  have xd' := Px.fxo x73 xD
  replace pp := hid (pp.out.trans xd'); replace hp1 := hid hq; replace HB := hid (xd'.loc HB.out hne (by decide)); replace ⟨c0, c1, c2, c3⟩ := blk4 HB.out; replace ⟨a0, a1, a2, a3⟩ := P4 xd' hpb.out hgB a0 a1 a2 a3; replace ha := hid (ha.out.keepP xd' hpb.out); replace hd := hid (hd.out.keepP xd' hpb.out); replace hk := hid (hk.out.keepP xd' hpb.out); replace hT := hid (hT.out.keepP xd' hpb.out); replace HX := hid (xd'.loc HX.out hneX (by decide)); replace b0 := cell_one HX.out
  go_wp2_with fail
  try simp only [Exit.inBlock, Exit.then]
  refine be rfl rfl ?_
  exact ⟨rfl, hp1.out.cast (by first | (simp; done) | (simp <;> first | rfl | exact ⟨rfl, rfl⟩)), pp.out⟩

theorem item_top (P : List Pc) {B pb : Nat} {L : List Pc} {w : World} {v : Value} (x : Tr) (hk : ∀ i ∈ ([40, 41, 47, 48, 49, 50, 51, 52] : List Int), ¬ x.k = i) (h75 : ∀ (L : List Pc) (w : World), PrAt B w pb L → ∀ v, NT B w v x → (L ++ P).length ≤ 4398046511104 → Calls Tryz.prog 75 #[.pointer (some ⟨pb, 0, none⟩), v] w (Pts B pb w (L ++ P))) (hp : PrAt B w pb L) (h : NT B w v x) : Pn 31 B pb w L v (P) := by
 intro hl
 obtain ⟨sl, rfl, hks, hkr, hnr, htl⟩ := id h.node.open
 obtain ⟨p, c, rfl, _⟩ := hks.kid
 have hpb := hid hp.le
 have hne : w.heap.size ≠ pb := by have := hp.lt; omega
 have xw : Fx w (w.alloc (.cells #[.int .i64 x.k, .string (sv x.t), .int .i64 x.n, .slice p x.l.length c] 24)) := Ext.alloc _ _ _
 have pp := hid (Px.of (B := B) (pb := pb) xw)
 have HB := hid (heap_new w (.cells #[.int .i64 x.k, .string (sv x.t), .int .i64 x.n, .slice p x.l.length c] 24))
 obtain ⟨c0, c1, c2, c3⟩ := nd_cells w x.k x.n (sv x.t) (.slice p x.l.length c)
 have hd := hid (h.keepF xw)
 have hT := hid (h.tab.keepF xw)
 have hp1 := hid (hp.keepF xw)
 have HL := hid hl
 have H75 := hid h75
 have g40 : (x.k == 40) = false := by simpa using hk 40 (by decide)
 have g41 : (x.k == 41) = false := by simpa using hk 41 (by decide)
 have g47 : (x.k == 47) = false := by simpa using hk 47 (by decide)
 have g48 : (x.k == 48) = false := by simpa using hk 48 (by decide)
 have g49 : (x.k == 49) = false := by simpa using hk 49 (by decide)
 have g50 : (x.k == 50) = false := by simpa using hk 50 (by decide)
 have g51 : (x.k == 51) = false := by simpa using hk 51 (by decide)
 have g52 : (x.k == 52) = false := by simpa using hk 52 (by decide)
 clear hk h75 hl
 clear h hks hkr hnr hp
 simp only [nv] at hd ⊢
 go_enter Tryz.func31, Tryz.ntmps31
 go_wp2_with (go_at_call 75; refine (H75.out _ _ hp1.out _ hd.out (lo HL.out)).mono ?_; rintro e w75 ⟨rfl, hq, z_⟩; replace ⟨pp, hp1, HB, c0, c1, c2, c3⟩ := Q5 z_ pp hq HB hne; replace hd := hid (hd.out.keepP z_ hpb.out); replace hT := hid (hT.out.keepP z_ hpb.out))
 try simp only [Exit.inBlock, Exit.then]
 refine be rfl rfl ?_
 exact ⟨rfl, hp1.out, pp.out⟩

theorem it_p (x : Tr) (hx : ItW x) (hw : wt x ≤ BW) {B pb : Nat} {L : List Pc} {w : World} {v : Value} (hp : PrAt B w pb L) (h : NT B w v x) : Pn 31 B pb w L v (qIt x) := by
 intro hl
 rcases hx with hx | hx | ⟨hk, hx⟩ | ⟨hk, hx⟩ | ⟨hk, hx⟩ | hx
 ·rw [qIt_stmt hx] at hl ⊢
  exact stmt_p x hx hw hp h hl
 ·obtain ⟨k, t, n, l⟩ := x
  simp only [isClass, Bool.and_eq_true, beq_iff_eq, Tr.k, Tr.t, Tr.n, Tr.l] at hx
  obtain ⟨⟨⟨rfl, _⟩, rfl⟩, hm⟩ := hx
  have e : qIt (.mk 42 t 0 l) = [wd [99, 108, 97, 115, 115, 32], wd t, wd [32]] ++ (Pc.opn :: (linesG qM l ++ [Pc.shut])) := by simp [qIt, Tr.k, Tr.t, Tr.l, linesMP_G]
  rw [e] at hl ⊢
  have hwl : wts l ≤ BW := by simp only [wt] at hw; omega
  exact item_top _ _ (by simp [Tr.k]) (fun L w hp v h hl => top_42 t l B pb L w v hp h (fun y hy => ⟨mems_all l 0 [] hm y hy, Nat.le_trans (wt_mem hy) hwl⟩) hl) hp h hl
 ·obtain ⟨k, t, n, l⟩ := x
  simp only [Tr.k] at hk
  subst hk
  rcases l with _ | ⟨y, _ | ⟨z, m⟩⟩
  ·simp [isIt, Tr.k, Tr.t, Tr.n, Tr.l] at hx
  ·simp [isIt, Tr.k, Tr.t, Tr.n, Tr.l] at hx
   obtain ⟨⟨_, rfl⟩, hT⟩ := hx
   have e : qIt (.mk 46 t 0 [y]) = [wd [116, 121, 112, 101, 32], wd t, wd [32, 61, 32]] ++ qT y ++ [wd [59]] := by simp [qIt, Tr.k, Tr.t, Tr.l]
   rw [e] at hl ⊢
   exact item_top _ _ (by simp [Tr.k]) (fun L w hp v h hl => top_46 t y B pb L w v hp h hT hl) hp h hl
  ·simp [isIt, Tr.k, Tr.t, Tr.n, Tr.l] at hx
 ·obtain ⟨k, t, n, l⟩ := x
  simp only [Tr.k] at hk
  subst hk
  have e : qIt (.mk 60 t n l) = importP (.mk 60 t n l) := by simp [qIt, Tr.k]
  rw [e] at hl ⊢
  exact item_top _ _ (by simp [Tr.k]) (fun L w hp v h hl => top_60 t n l B pb L w v hp h hx hl) hp h hl
 ·obtain ⟨k, t, n, l⟩ := x
  simp only [Tr.k] at hk
  subst hk
  have e : qIt (.mk 64 t n l) = exportP (.mk 64 t n l) := by simp [qIt, Tr.k]
  rw [e] at hl ⊢
  exact item_top _ _ (by simp [Tr.k]) (fun L w hp v h hl => top_64 t n l B pb L w v hp h hx hl) hp h hl
 ·obtain ⟨k, t, n, l⟩ := x
  simp only [isSpace, Bool.and_eq_true, beq_iff_eq, Tr.k, Tr.t, Tr.n, Tr.l] at hx
  obtain ⟨⟨⟨rfl, _⟩, rfl⟩, hm⟩ := hx
  have e : qIt (.mk 66 t 0 l) = [wd [110, 97, 109, 101, 115, 112, 97, 99, 101, 32], wd t, wd [32]] ++ (Pc.opn :: (linesG qN l ++ [Pc.shut])) := by simp [qIt, Tr.k, Tr.t, Tr.l, linesNP_G]
  rw [e] at hl ⊢
  refine item_top _ _ (by simp [Tr.k]) (fun L w hp v h hl => top_66 t l B pb L w v hp h (fun y hy => ?_) hl) hp h hl
  have := (List.all_eq_true.1 hm) y hy
  obtain ⟨k', t', n', m⟩ := y
  simp only [Bool.and_eq_true, beq_iff_eq, Tr.k, Tr.n, Tr.l] at this
  obtain ⟨⟨⟨rfl, rfl⟩, _⟩, h3⟩ := this
  rcases m with _ | ⟨o, _ | ⟨z, m⟩⟩
  ·simp at h3
  ·exact ⟨t', o, rfl⟩
  ·simp at h3

theorem item_p (x : Tr) (hx : isItem x = true ∨ ItW x) (hw : wt x ≤ BW) {B pb : Nat} {L : List Pc} {w : World} {v : Value} (hp : PrAt B w pb L) (h : NT B w v x) : Pn 31 B pb w L v (qI x) := by
 intro hl
 by_cases hi : ItW x
 ·rw [qI_it hi] at hl ⊢
  exact it_p x hi hw hp h hl
 replace hx := hx.resolve_right hi
 obtain ⟨k, t, n, l⟩ := x
 by_cases hk : k = 62
 ·subst hk
  obtain ⟨y, rfl, rfl, rfl, hy⟩ := item62_inv hx
  ·skip
   have hwy : wt y ≤ BW := by simp only [wt, wts] at hw; omega
   have e : qI (.mk 62 [] 0 [y]) = [wd [101, 120, 112, 111, 114, 116, 32]] ++ qIt y := by simp [qI, Tr.k, Tr.l]
   rw [e] at hl ⊢
   exact item_top _ _ (by simp [Tr.k]) (fun L w hp v h hl => top_62 y B pb L w v hp h (fun L w hp v h hl => it_p y (itW_of hy) hwy hp h hl) hl) hp h hl
 by_cases hk3 : k = 63
 ·subst hk3
  obtain ⟨y, rfl, rfl, rfl, hy⟩ := item63_inv hx
  ·skip
   have hwy : wt y ≤ BW := by simp only [wt, wts] at hw; omega
   by_cases h41 : y.k = 41
   ·have hE : ¬ isE y = true := by
     intro he
     obtain ⟨k, t, n, l⟩ := y
     simp only [Tr.k] at h41
     subst h41
     unfold isE at he
     simp at he
    have hI := (hy.resolve_left hE).2
    have e : qI (.mk 63 [] 0 [y]) = [wd [101, 120, 112, 111, 114, 116, 32, 100, 101, 102, 97, 117, 108, 116, 32]] ++ qIt y := by rw [qI_63, if_pos (.inl h41)]
    rw [e] at hl ⊢
    exact item_top _ _ (by simp [Tr.k]) (fun L w hp v h hl => top_63_41 y B pb L w v hp h (fun L w hp v h hl => it_p y (itW_of hI) hwy hp h hl) h41 hl) hp h hl
   by_cases h42 : y.k = 42
   ·have hE : ¬ isE y = true := by
     intro he
     obtain ⟨k, t, n, l⟩ := y
     simp only [Tr.k] at h42
     subst h42
     unfold isE at he
     simp at he
    have hI := (hy.resolve_left hE).2
    have e : qI (.mk 63 [] 0 [y]) = [wd [101, 120, 112, 111, 114, 116, 32, 100, 101, 102, 97, 117, 108, 116, 32]] ++ qIt y := by rw [qI_63, if_pos (.inr h42)]
    rw [e] at hl ⊢
    exact item_top _ _ (by simp [Tr.k]) (fun L w hp v h hl => top_63_42 y B pb L w v hp h (fun L w hp v h hl => it_p y (itW_of hI) hwy hp h hl) h41 h42 hl) hp h hl
   ·have hE : isE y = true := hy.resolve_right (fun h => by rcases h.1 with h | h; exact h41 h; exact h42 h)
    have e : qI (.mk 63 [] 0 [y]) = [wd [101, 120, 112, 111, 114, 116, 32, 100, 101, 102, 97, 117, 108, 116, 32]] ++ aloneP y := by rw [qI_63, if_neg (by rintro (h | h); exact h41 h; exact h42 h)]
    rw [e] at hl ⊢
    exact item_top _ _ (by simp [Tr.k]) (fun L w hp v h hl => top_63 y B pb L w v hp h hE hwy h41 h42 hl) hp h hl
 ·have e : isItem (.mk k t n l) = isIt (.mk k t n l) := by
   unfold isItem
   rw [if_neg (show ¬ (Tr.mk k t n l).k = 62 from hk), if_neg (show ¬ (Tr.mk k t n l).k = 63 from hk3)]
  rw [e] at hx
  exact absurd (itW_of hx) hi

end Go.Proofs.YtpmlmpibpmoclaaGreatDoor
