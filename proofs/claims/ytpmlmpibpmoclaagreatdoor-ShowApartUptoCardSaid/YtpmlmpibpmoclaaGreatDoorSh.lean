/-
  Show.
-/
import Derived.Test.YtpmlmpibpmoclaaGreatDoorS9
import Derived.Test.YtpmlmpibpmoclaaGreatDoorT14
namespace Go.Proofs.YtpmlmpibpmoclaaGreatDoor
set_option linter.all false
set_option maxRecDepth 20000
set_option maxHeartbeats 4000000
open Go.RowKit

theorem show_1 (x : Tr) (hE : isE x = true) (hk : ¬ x.k = 68 ∧ ¬ x.k = 69) (hw : wt x ≤ BW) (B : Nat) (w : World) (v : Value) (h : NT B w v x) (hpw : Pow B w) : Calls Tryz.prog 9 #[v] w (StrP (lay 0 false (qE 1 x)) w) := by
 obtain ⟨sl, rfl, hks, hkr, hnr, htl⟩ := id h.node.open
 obtain ⟨p, c, rfl, _⟩ := hks.kid
 have Hw := hid hw
 have HB := hid (lay_bound x hE hw)
 have HO := hid (show okd 0 (qE 1 x) from (lays_E 1 x).ok)
 have hBs := hid h.tab.le
 have xw : Fx w (w.alloc (.cells #[.int .i64 x.k, .string (sv x.t), .int .i64 x.n, .slice p x.l.length c] 24)) := Ext.alloc _ _ _
 obtain ⟨c0, c1, c2, c3⟩ := nd_cells w x.k x.n (sv x.t) (.slice p x.l.length c)
 have xq : Fx (w.alloc (.cells #[.int .i64 x.k, .string (sv x.t), .int .i64 x.n, .slice p x.l.length c] 24)) ((w.alloc (.cells #[.int .i64 x.k, .string (sv x.t), .int .i64 x.n, .slice p x.l.length c] 24)).alloc (.cells #[.slice none 0 0] 43)) := Ext.alloc _ _ _
 have hz1 : (w.alloc (.cells #[.int .i64 x.k, .string (sv x.t), .int .i64 x.n, .slice p x.l.length c] 24)).heap.size = w.heap.size + 1 := alloc_size _ _
 have hz2 : ((w.alloc (.cells #[.int .i64 x.k, .string (sv x.t), .int .i64 x.n, .slice p x.l.length c] 24)).alloc (.cells #[.slice none 0 0] 43)).heap.size = w.heap.size + 2 := by rw [alloc_size, hz1]
 have hq := heap_new (w.alloc (.cells #[.int .i64 x.k, .string (sv x.t), .int .i64 x.n, .slice p x.l.length c] 24)) (.cells #[.slice none 0 0] 43)
 rw [hz1] at hq
 have hN := hid ((h.keepF (xw.of_eq xq)).up (B' := w.heap.size + 1) (by have := hBs.out; omega) (by rw [hz2]; omega))
 have hP := hid ((hpw.keepF (xw.of_eq xq)).up (B' := w.heap.size + 1) (by have := hBs.out; omega) (by rw [hz2]; omega))
 have hQ := hid (show PrAt (w.heap.size + 1) ((w.alloc (.cells #[.int .i64 x.k, .string (sv x.t), .int .i64 x.n, .slice p x.l.length c] 24)).alloc (.cells #[.slice none 0 0] 43)) (w.heap.size + 1) [] from ⟨⟨_, hq, rfl, .inl ⟨rfl, rfl⟩⟩, Nat.le_refl _, hP.out⟩)
 have g0 := xq.cellF c0
 have g1 := xq.cellF c1
 have g2 := xq.cellF c2
 have g3 := xq.cellF c3
 have XW := hid (xw.of_eq xq)
 have H1 := hid hE
 have H2 := hid hk
 clear hE hk
 clear h hks hkr hnr hpw hw hq hz2 hP xw xq
 simp only [nv] at hN ⊢
 go_enter Tryz.func9, Tryz.ntmps9
 go_wp2_with (first
  | (go_at_call 28; refine (t28_1 x H1.out H2.out _ _ _ hN.out).mono ?_; rintro e w28 ⟨rfl, z_⟩; replace hN := hid (hN.out.keepF z_); replace hQ := hid (hQ.out.keepF z_); replace ⟨g0, g1, g2, g3⟩ := F4 z_ g0 g1 g2 g3; replace XW := hid (XW.out.of_eq z_))
  | (go_at_call 29; refine (expr_p x H1.out Hw.out 1 (by first | rfl | (simp; done)) hQ.out hN.out (by simpa using HB.out.2)).mono ?_; rintro e w29 ⟨rfl, hq, z_⟩; replace hq := hid hq; have xn := hid (px_new XW.out z_ (Nat.le_succ _) (Nat.le_succ _)); clear z_)
  | (go_at_call 33; refine (text_p (hq.out.cast (List.nil_append _)) HO.out HB.out.1 HB.out.2).mono ?_; rintro e w33 ⟨rfl, x33⟩))
 go_ret
 exact ⟨rfl, xn.out.of_eq x33⟩

theorem show_2 (x : Tr) (hT : isT x = true) (hk : ¬ x.k = 68 ∧ ¬ x.k = 69) (he : ∀ i ∈ ([1, 2, 3, 4, 5, 6, 7, 8, 9, 11, 15, 16, 17, 18, 19, 20, 21, 22] : List Int), ¬ x.k = i) (hw : wt x ≤ BW) (B : Nat) (w : World) (v : Value) (h : NT B w v x) (hpw : Pow B w) : Calls Tryz.prog 9 #[v] w (StrP (lay 0 false (qT x)) w) := by
 obtain ⟨sl, rfl, hks, hkr, hnr, htl⟩ := id h.node.open
 obtain ⟨p, c, rfl, _⟩ := hks.kid
 have Hw := hid hw
 have HB := hid (typ_bound hw)
 have HO := hid (show okd 0 (qT x) from (lays_T x).ok)
 have hBs := hid h.tab.le
 have xw : Fx w (w.alloc (.cells #[.int .i64 x.k, .string (sv x.t), .int .i64 x.n, .slice p x.l.length c] 24)) := Ext.alloc _ _ _
 obtain ⟨c0, c1, c2, c3⟩ := nd_cells w x.k x.n (sv x.t) (.slice p x.l.length c)
 have xq : Fx (w.alloc (.cells #[.int .i64 x.k, .string (sv x.t), .int .i64 x.n, .slice p x.l.length c] 24)) ((w.alloc (.cells #[.int .i64 x.k, .string (sv x.t), .int .i64 x.n, .slice p x.l.length c] 24)).alloc (.cells #[.slice none 0 0] 43)) := Ext.alloc _ _ _
 have hz1 : (w.alloc (.cells #[.int .i64 x.k, .string (sv x.t), .int .i64 x.n, .slice p x.l.length c] 24)).heap.size = w.heap.size + 1 := alloc_size _ _
 have hz2 : ((w.alloc (.cells #[.int .i64 x.k, .string (sv x.t), .int .i64 x.n, .slice p x.l.length c] 24)).alloc (.cells #[.slice none 0 0] 43)).heap.size = w.heap.size + 2 := by rw [alloc_size, hz1]
 have hq := heap_new (w.alloc (.cells #[.int .i64 x.k, .string (sv x.t), .int .i64 x.n, .slice p x.l.length c] 24)) (.cells #[.slice none 0 0] 43)
 rw [hz1] at hq
 have hN := hid ((h.keepF (xw.of_eq xq)).up (B' := w.heap.size + 1) (by have := hBs.out; omega) (by rw [hz2]; omega))
 have hP := hid ((hpw.keepF (xw.of_eq xq)).up (B' := w.heap.size + 1) (by have := hBs.out; omega) (by rw [hz2]; omega))
 have hQ := hid (show PrAt (w.heap.size + 1) ((w.alloc (.cells #[.int .i64 x.k, .string (sv x.t), .int .i64 x.n, .slice p x.l.length c] 24)).alloc (.cells #[.slice none 0 0] 43)) (w.heap.size + 1) [] from ⟨⟨_, hq, rfl, .inl ⟨rfl, rfl⟩⟩, Nat.le_refl _, hP.out⟩)
 have g0 := xq.cellF c0
 have g1 := xq.cellF c1
 have g2 := xq.cellF c2
 have g3 := xq.cellF c3
 have XW := hid (xw.of_eq xq)
 have H1 := hid hT
 have H2 := hid hk
 have H3 := hid he
 clear hT hk he
 clear h hks hkr hnr hpw hw hq hz2 hP xw xq
 simp only [nv] at hN ⊢
 go_enter Tryz.func9, Tryz.ntmps9
 go_wp2_with (first
  | (go_at_call 28; refine (t28_2 x H1.out H2.out H3.out _ _ _ hN.out).mono ?_; rintro e w28 ⟨rfl, z_⟩; replace hN := hid (hN.out.keepF z_); replace hQ := hid (hQ.out.keepF z_); replace ⟨g0, g1, g2, g3⟩ := F4 z_ g0 g1 g2 g3; replace XW := hid (XW.out.of_eq z_))
  | (go_at_call 30; refine (typ_p x H1.out hQ.out hN.out (by simpa using HB.out.2)).mono ?_; rintro e w29 ⟨rfl, hq, z_⟩; replace hq := hid hq; have xn := hid (px_new XW.out z_ (Nat.le_succ _) (Nat.le_succ _)); clear z_)
  | (go_at_call 33; refine (text_p (hq.out.cast (List.nil_append _)) HO.out HB.out.1 HB.out.2).mono ?_; rintro e w33 ⟨rfl, x33⟩))
 go_ret
 exact ⟨rfl, xn.out.of_eq x33⟩

theorem show_3 (x : Tr) (hS : isS x = true) (hk : ¬ x.k = 68 ∧ ¬ x.k = 69) (he : ∀ i ∈ ([1, 2, 3, 4, 5, 6, 7, 8, 9, 11, 15, 16, 17, 18, 19, 20, 21, 22] : List Int), ¬ x.k = i) (ht : ∀ i ∈ ([30, 31, 32, 33, 35] : List Int), ¬ x.k = i) (hw : wt x ≤ BW) (B : Nat) (w : World) (v : Value) (h : NT B w v x) (hpw : Pow B w) : Calls Tryz.prog 9 #[v] w (StrP (lay 0 false (qI x)) w) := by
 obtain ⟨sl, rfl, hks, hkr, hnr, htl⟩ := id h.node.open
 obtain ⟨p, c, rfl, _⟩ := hks.kid
 have Hw := hid hw
 have HB := hid (item_bound (.inr (.inl hS)) hw)
 have HO := hid (show okd 0 (qI x) from (lays_I x).ok)
 have hBs := hid h.tab.le
 have xw : Fx w (w.alloc (.cells #[.int .i64 x.k, .string (sv x.t), .int .i64 x.n, .slice p x.l.length c] 24)) := Ext.alloc _ _ _
 obtain ⟨c0, c1, c2, c3⟩ := nd_cells w x.k x.n (sv x.t) (.slice p x.l.length c)
 have xq : Fx (w.alloc (.cells #[.int .i64 x.k, .string (sv x.t), .int .i64 x.n, .slice p x.l.length c] 24)) ((w.alloc (.cells #[.int .i64 x.k, .string (sv x.t), .int .i64 x.n, .slice p x.l.length c] 24)).alloc (.cells #[.slice none 0 0] 43)) := Ext.alloc _ _ _
 have hz1 : (w.alloc (.cells #[.int .i64 x.k, .string (sv x.t), .int .i64 x.n, .slice p x.l.length c] 24)).heap.size = w.heap.size + 1 := alloc_size _ _
 have hz2 : ((w.alloc (.cells #[.int .i64 x.k, .string (sv x.t), .int .i64 x.n, .slice p x.l.length c] 24)).alloc (.cells #[.slice none 0 0] 43)).heap.size = w.heap.size + 2 := by rw [alloc_size, hz1]
 have hq := heap_new (w.alloc (.cells #[.int .i64 x.k, .string (sv x.t), .int .i64 x.n, .slice p x.l.length c] 24)) (.cells #[.slice none 0 0] 43)
 rw [hz1] at hq
 have hN := hid ((h.keepF (xw.of_eq xq)).up (B' := w.heap.size + 1) (by have := hBs.out; omega) (by rw [hz2]; omega))
 have hP := hid ((hpw.keepF (xw.of_eq xq)).up (B' := w.heap.size + 1) (by have := hBs.out; omega) (by rw [hz2]; omega))
 have hQ := hid (show PrAt (w.heap.size + 1) ((w.alloc (.cells #[.int .i64 x.k, .string (sv x.t), .int .i64 x.n, .slice p x.l.length c] 24)).alloc (.cells #[.slice none 0 0] 43)) (w.heap.size + 1) [] from ⟨⟨_, hq, rfl, .inl ⟨rfl, rfl⟩⟩, Nat.le_refl _, hP.out⟩)
 have g0 := xq.cellF c0
 have g1 := xq.cellF c1
 have g2 := xq.cellF c2
 have g3 := xq.cellF c3
 have XW := hid (xw.of_eq xq)
 have H1 := hid hS
 have H2 := hid hk
 have H3 := hid he
 have H4 := hid ht
 clear hS hk he ht
 clear h hks hkr hnr hpw hw hq hz2 hP xw xq
 simp only [nv] at hN ⊢
 go_enter Tryz.func9, Tryz.ntmps9
 go_wp2_with (first
  | (go_at_call 28; refine (t28_3 x H1.out H2.out H3.out H4.out _ _ _ hN.out).mono ?_; rintro e w28 ⟨rfl, z_⟩; replace hN := hid (hN.out.keepF z_); replace hQ := hid (hQ.out.keepF z_); replace ⟨g0, g1, g2, g3⟩ := F4 z_ g0 g1 g2 g3; replace XW := hid (XW.out.of_eq z_))
  | (go_at_call 31; refine (item_p x (.inr (.inl H1.out)) Hw.out hQ.out hN.out (by simpa using HB.out.2)).mono ?_; rintro e w29 ⟨rfl, hq, z_⟩; replace hq := hid hq; have xn := hid (px_new XW.out z_ (Nat.le_succ _) (Nat.le_succ _)); clear z_)
  | (go_at_call 33; refine (text_p (hq.out.cast (List.nil_append _)) HO.out HB.out.1 HB.out.2).mono ?_; rintro e w33 ⟨rfl, x33⟩))
 go_ret
 exact ⟨rfl, xn.out.of_eq x33⟩

theorem show_4 (x : Tr) (hI : isItem x = true) (hk : ¬ x.k = 68 ∧ ¬ x.k = 69) (he : ∀ i ∈ ([1, 2, 3, 4, 5, 6, 7, 8, 9, 11, 15, 16, 17, 18, 19, 20, 21, 22] : List Int), ¬ x.k = i) (ht : ∀ i ∈ ([30, 31, 32, 33, 35] : List Int), ¬ x.k = i) (hs : ∀ i ∈ ([40, 41, 47, 48, 49, 50, 51, 52] : List Int), ¬ x.k = i) (hw : wt x ≤ BW) (B : Nat) (w : World) (v : Value) (h : NT B w v x) (hpw : Pow B w) : Calls Tryz.prog 9 #[v] w (StrP (lay 0 false (qI x)) w) := by
 obtain ⟨sl, rfl, hks, hkr, hnr, htl⟩ := id h.node.open
 obtain ⟨p, c, rfl, _⟩ := hks.kid
 have Hw := hid hw
 have HB := hid (item_bound (.inl hI) hw)
 have HO := hid (show okd 0 (qI x) from (lays_I x).ok)
 have hBs := hid h.tab.le
 have xw : Fx w (w.alloc (.cells #[.int .i64 x.k, .string (sv x.t), .int .i64 x.n, .slice p x.l.length c] 24)) := Ext.alloc _ _ _
 obtain ⟨c0, c1, c2, c3⟩ := nd_cells w x.k x.n (sv x.t) (.slice p x.l.length c)
 have xq : Fx (w.alloc (.cells #[.int .i64 x.k, .string (sv x.t), .int .i64 x.n, .slice p x.l.length c] 24)) ((w.alloc (.cells #[.int .i64 x.k, .string (sv x.t), .int .i64 x.n, .slice p x.l.length c] 24)).alloc (.cells #[.slice none 0 0] 43)) := Ext.alloc _ _ _
 have hz1 : (w.alloc (.cells #[.int .i64 x.k, .string (sv x.t), .int .i64 x.n, .slice p x.l.length c] 24)).heap.size = w.heap.size + 1 := alloc_size _ _
 have hz2 : ((w.alloc (.cells #[.int .i64 x.k, .string (sv x.t), .int .i64 x.n, .slice p x.l.length c] 24)).alloc (.cells #[.slice none 0 0] 43)).heap.size = w.heap.size + 2 := by rw [alloc_size, hz1]
 have hq := heap_new (w.alloc (.cells #[.int .i64 x.k, .string (sv x.t), .int .i64 x.n, .slice p x.l.length c] 24)) (.cells #[.slice none 0 0] 43)
 rw [hz1] at hq
 have hN := hid ((h.keepF (xw.of_eq xq)).up (B' := w.heap.size + 1) (by have := hBs.out; omega) (by rw [hz2]; omega))
 have hP := hid ((hpw.keepF (xw.of_eq xq)).up (B' := w.heap.size + 1) (by have := hBs.out; omega) (by rw [hz2]; omega))
 have hQ := hid (show PrAt (w.heap.size + 1) ((w.alloc (.cells #[.int .i64 x.k, .string (sv x.t), .int .i64 x.n, .slice p x.l.length c] 24)).alloc (.cells #[.slice none 0 0] 43)) (w.heap.size + 1) [] from ⟨⟨_, hq, rfl, .inl ⟨rfl, rfl⟩⟩, Nat.le_refl _, hP.out⟩)
 have g0 := xq.cellF c0
 have g1 := xq.cellF c1
 have g2 := xq.cellF c2
 have g3 := xq.cellF c3
 have XW := hid (xw.of_eq xq)
 have H1 := hid hI
 have H2 := hid hk
 have H3 := hid he
 have H4 := hid ht
 have H5 := hid hs
 have H6 := hid (show cnt x ≤ SM from by have := cnt_wt _ x (Nat.lt_succ_self _); unfold BW at hw; unfold SM; omega)
 clear hI hk he ht hs
 clear h hks hkr hnr hpw hw hq hz2 hP xw xq
 simp only [nv] at hN ⊢
 go_enter Tryz.func9, Tryz.ntmps9
 go_wp2_with (first
  | (go_at_call 28; refine (t28_4 x H1.out H2.out H3.out H4.out H5.out H6.out _ _ _ hN.out).mono ?_; rintro e w28 ⟨rfl, z_⟩; replace hN := hid (hN.out.keepF z_); replace hQ := hid (hQ.out.keepF z_); replace ⟨g0, g1, g2, g3⟩ := F4 z_ g0 g1 g2 g3; replace XW := hid (XW.out.of_eq z_))
  | (go_at_call 31; refine (item_p x (.inl H1.out) Hw.out hQ.out hN.out (by simpa using HB.out.2)).mono ?_; rintro e w29 ⟨rfl, hq, z_⟩; replace hq := hid hq; have xn := hid (px_new XW.out z_ (Nat.le_succ _) (Nat.le_succ _)); clear z_)
  | (go_at_call 33; refine (text_p (hq.out.cast (List.nil_append _)) HO.out HB.out.1 HB.out.2).mono ?_; rintro e w33 ⟨rfl, x33⟩))
 go_ret
 exact ⟨rfl, xn.out.of_eq x33⟩

def rowT (y : Tr) : Bs := lay 0 false (qI y) ++ [10]
theorem rows_le {l : List Tr} {j : Nat} (h : j < l.length) : ((l.take j).flatMap rowT).length + (rowT l[j]).length ≤ (l.flatMap rowT).length := by
 have e : l.flatMap rowT = (l.take j).flatMap rowT ++ (rowT l[j] ++ (l.drop (j + 1)).flatMap rowT) := by
  conv => lhs; rw [← List.take_append_drop j l]
  rw [List.drop_eq_getElem_cons h, List.flatMap_append, List.flatMap_cons]
 rw [e]
 simp only [lA]
 omega
theorem rows_succ {l : List Tr} {j : Nat} (h : j < l.length) : (l.take (j + 1)).flatMap rowT = (l.take j).flatMap rowT ++ rowT l[j] := by
 rw [List.take_succ_eq_append_getElem h, List.flatMap_append]
 simp
theorem Fx.bel {b : Nat} {w wr w' : World} (h : Fx w wr) (k : Below b wr w') (hb : w.heap.size ≤ b) : Fx w w' := fx_below ((h.below (Nat.le_refl _) fun _ _ h => h.elim).trans (k.mono hb))

theorem show_5 (K f : Int) (hf : f = 5 ∨ f = 6) (l : List Tr) (hi : ∀ y ∈ l, isItem y = true ∨ ItW y) (hform : ∀ (B : Nat) (v : Value) (w : World), NT B w v (.mk K [] 0 l) → Calls Tryz.prog 28 #[v] w (AnsI f w)) (hw : wts l ≤ BW) (B : Nat) (w : World) (v : Value) (h : NT B w v (.mk K [] 0 l)) (hpw : Pow B w) : Calls Tryz.prog 9 #[v] w (StrP (l.flatMap rowT) w) := by
 obtain ⟨p, c, rfl, hks, hkr, hnr, htl, hcp, hkid, xw, ⟨c0, c1, c2, c3⟩, _, _, _⟩ := hT_ h
 have Hw := hid hw
 have hll := hid hcp.2
 have Kk := hid hkid
 have Hi := hid hi
 have HF := hid hform
 have hT0 := hid h.tab
 have hP0 := hid hpw
 have hBs := hid h.tab.le
 have HT := hid (show (l.flatMap rowT).length ≤ 140737488355328 from by
  have h1 := quads l hi
  have h2 : wts l * wts l ≤ 1048576 * 1048576 := Nat.mul_le_mul (by unfold BW at hw; exact hw) (by unfold BW at hw; exact hw)
  unfold rowT
  omega)
 have xq : Fx (w.alloc (.cells #[.int .i64 K, .string (sv []), .int .i64 0, .slice p l.length c] 24)) ((w.alloc (.cells #[.int .i64 K, .string (sv []), .int .i64 0, .slice p l.length c] 24)).alloc (.cells #[.slice none 0 0] 43)) := Ext.alloc _ _ _
 have hN := hid (h.keepF (xw.of_eq xq))
 have g0 := xq.cellF c0
 have g1 := xq.cellF c1
 have g2 := xq.cellF c2
 have g3 := xq.cellF c3
 have XW := hid (xw.of_eq xq)
 clear h hks hkid hkr hnr hpw hw hcp hi hform xw xq
 simp only [nv, Tr.k, Tr.t, Tr.n, Tr.l] at hN ⊢
 rcases hf with rfl | rfl
 all_goals
  go_enter Tryz.func9, Tryz.ntmps9
  go_wp2_with (go_at_call 28; refine (HF.out _ _ _ hN.out).mono ?_; rintro e w28 ⟨rfl, z_⟩; replace XW := hid (XW.out.of_eq z_); have xb : Fx w28 (w28.alloc (.cells #[.pointer none, .slice none 0 0] 49)) := Ext.alloc _ _ _; replace g0 := xb.cellF (z_.cellF g0); replace g1 := xb.cellF (z_.cellF g1); replace g2 := xb.cellF (z_.cellF g2); replace g3 := xb.cellF (z_.cellF g3); have hB0 : Bl w28.heap.size [] (w28.alloc (.cells #[.pointer none, .slice none 0 0] 49)) := Lib.IsBuilderF.of (Lib.fresh_isBuilder 49 5 w28); replace hB0 := hid hB0; have hbb := hid XW.out.size; replace XW := hid (XW.out.of_eq xb))
  clear hN
  go_loopw [34] (fun i wr => ∃ j : Nat, j ≤ l.length ∧ i = .int .i64 j ∧ Hid (Bl w28.heap.size ((l.take j).flatMap rowT) wr) ∧ Hid (Fx w wr) ∧ Hid (w28.heap.size ≤ wr.heap.size)) (fun i _ => l.length - (intOf i).toNat)
  case atStart => exact ⟨0, Nat.zero_le _, rfl, hB0, XW, hid (Nat.le_of_lt (by rw [alloc_size]; omega))⟩
  case round =>
   obtain ⟨j, hj, rfl, hB, hx, hbs⟩ := hrel
   have hj4 : (j : Int) ≤ 4398046511104 := by have := hll.out; omega
   clear hB0 XW
   by_cases hlt : j < l.length
   ·obtain ⟨g, o, s, rfl, hgB, e0, e1, e2, e3, hy⟩ := Kk.out j hlt
    have hyi := hid (Hi.out l[j] (List.getElem_mem hlt))
    have hyw := hid (Nat.le_trans (wt_mem (List.getElem_mem hlt)) Hw.out)
    have hle := hid (Nat.le_trans (rows_le hlt) HT.out)
    have hsu := hid (rows_succ hlt)
    generalize l[j] = y at *
    have hbd := hid (item_bound hyi.out (by have := hyw.out; unfold BW at this; exact this))
    obtain ⟨sl', hs', hks', _⟩ := id hy.open
    obtain rfl : s = sl' := by simpa [nv] using hs'
    clear hs'
    obtain ⟨p', c', rfl, _⟩ := hks'.kid
    clear hks'
    have hne1 : B ≤ wr.heap.size := Nat.le_trans hBs.out hx.out.size
    have hwsz := hid hx.out.size
    replace ⟨e0, e1, e2, e3⟩ := F4 hx.out e0 e1 e2 e3
    have xa : Fx wr (wr.alloc (.cells #[.int .i64 y.k, .string (sv y.t), .int .i64 y.n, .slice p' y.l.length c'] 24)) := Ext.alloc _ _ _
    have xq : Fx (wr.alloc (.cells #[.int .i64 y.k, .string (sv y.t), .int .i64 y.n, .slice p' y.l.length c'] 24)) ((wr.alloc (.cells #[.int .i64 y.k, .string (sv y.t), .int .i64 y.n, .slice p' y.l.length c'] 24)).alloc (.cells #[.slice none 0 0] 43)) := Ext.alloc _ _ _
    have hz1 : (wr.alloc (.cells #[.int .i64 y.k, .string (sv y.t), .int .i64 y.n, .slice p' y.l.length c'] 24)).heap.size = wr.heap.size + 1 := alloc_size _ _
    have hz2 : ((wr.alloc (.cells #[.int .i64 y.k, .string (sv y.t), .int .i64 y.n, .slice p' y.l.length c'] 24)).alloc (.cells #[.slice none 0 0] 43)).heap.size = wr.heap.size + 2 := by rw [alloc_size, hz1]
    have hq := heap_new (wr.alloc (.cells #[.int .i64 y.k, .string (sv y.t), .int .i64 y.n, .slice p' y.l.length c'] 24)) (.cells #[.slice none 0 0] 43)
    rw [hz1] at hq
    obtain ⟨d0, d1, d2, d3⟩ := nd_cells wr y.k y.n (sv y.t) (.slice p' y.l.length c')
    replace ⟨d0, d1, d2, d3⟩ := F4 xq d0 d1 d2 d3
    have hN := hid (((NT.mk hy hT0.out).keepF (hx.out.of_eq (xa.of_eq xq))).up (B' := wr.heap.size + 1) (by omega) (by rw [hz2]; omega))
    have hP := hid ((hP0.out.keepF (hx.out.of_eq (xa.of_eq xq))).up (B' := wr.heap.size + 1) (by omega) (by rw [hz2]; omega))
    have hQ := hid (show PrAt (wr.heap.size + 1) ((wr.alloc (.cells #[.int .i64 y.k, .string (sv y.t), .int .i64 y.n, .slice p' y.l.length c'] 24)).alloc (.cells #[.slice none 0 0] 43)) (wr.heap.size + 1) [] from ⟨⟨_, hq, rfl, .inl ⟨rfl, rfl⟩⟩, Nat.le_refl _, hP.out⟩)
    have XA := hid (xa.of_eq xq)
    have hsz : (sv (lay 0 false (qI y))).size ≤ 70368744177664 := by rw [sv_size]; exact hbd.out.1
    have hrow : ((sv (lay 0 false (qI y))) ++ (⟨#[10]⟩ : ByteArray)).data.toList = rowT y := by simp [rowT, sv]
    have hrs : ((l.take j).flatMap rowT).length + ((sv (lay 0 false (qI y))) ++ (⟨#[10]⟩ : ByteArray)).size ≤ 140737488355328 := by
     have h1 := congrArg List.length hrow
     rw [Array.length_toList] at h1
     have h2 : ((sv (lay 0 false (qI y))) ++ (⟨#[10]⟩ : ByteArray)).size = (rowT y).length := h1
     rw [h2]
     exact hle.out
    replace hrow := hid hrow
    replace hrs := hid hrs
    simp only [nv] at hN
    clear hy hq hz1 hz2 hP xa xq hle hne1
    go_wp2_with (first
     | (go_at_call 31; refine (item_p y hyi.out hyw.out hQ.out hN.out (by simpa using hbd.out.2)).mono ?_; rintro e w31 ⟨rfl, hq, z_⟩; replace hq := hid hq; have xn := hid (px_new XA.out z_ (Nat.le_succ _) (Nat.le_succ _)); clear z_)
     | (go_at_call 33; refine (text_p (hq.out.cast (List.nil_append _)) (lays_I y).ok hbd.out.1 hbd.out.2).mono ?_; rintro e w33 ⟨rfl, z_⟩; replace xn := hid (xn.out.of_eq z_); clear z_)
     | (go_at_call 32; refine (ws_b (b := w28.heap.size) (hB.out.below xn.out) hrs.out (Nat.le_trans hbs.out xn.out.size)).mono ?_; rintro e w32 ⟨⟨v32, rfl⟩, hB2, b32⟩; replace hB := hid hB2; have xf := hid (Fx.bel (hx.out.of_eq xn.out) b32 hbb.out); have hbs2 := hid (Nat.le_trans (Nat.le_trans hbs.out xn.out.size) b32.size); clear hB2 b32))
    go_roundw
    case rel => exact ⟨j + 1, by omega, by go_num, hid (by have := hB.out; rw [hrow.out, ← hsu.out] at this; exact this), xf, hbs2⟩
    case measure => simp [intOf]; omega
   ·have hfin := hid (show (l.take j).flatMap rowT = l.flatMap rowT by rw [List.take_of_length_le (by omega)])
    go_wp2_with (go_at_call 34; refine (str_p (b := w28.heap.size) hB.out hbs.out).mono ?_; rintro e w34 ⟨rfl, b34⟩)
    go_ret
    exact ⟨by rw [hfin.out]; rfl, Fx.bel hx.out b34 hbb.out⟩

end Go.Proofs.YtpmlmpibpmoclaaGreatDoor
