/-
  The program's own tests on trees: types, all.
-/
import Derived.Test.YtpmlmpibpmoclaaGreatDoorT7
namespace Go.Proofs.YtpmlmpibpmoclaaGreatDoor
set_option linter.all false
set_option maxRecDepth 20000
set_option maxHeartbeats 4000000
open Go.RowKit

theorem pof_t (K : Nat) (w : World) : Calls Tryz.prog 130 #[.func (.func K) #[] #[]] w (fun e w' => e = .returned (.func (.func 176) #[] #[.pointer (some ⟨w.heap.size, 0, none⟩)]) ∧ w' = w.alloc (.cells #[.func (.func K) #[] #[]] 35)) := by
 go_enter Tryz.func130, Tryz.ntmps130
 go_wp2
 go_ret
 exact ⟨rfl, rfl⟩

theorem t177_65 {N : Nat} (ih : TTypeC N) (t : Bs) (ya : Tr) (B : Nat) (v : Value) (w : World) (gc : Nat) (qc : w.cell? ⟨gc, 0, none⟩ = some (.func (.func 65) #[] #[])) (h : NT B w v (.mk 13 t 0 [ya])) (hc : cnt ya < N) (ha : isT ya = true) (hs : isId t = true) : Calls Tryz.prog 177 #[v, .pointer (some ⟨gc, 0, none⟩)] w (Ans true w) := by
 have hsv := sv_list
 obtain ⟨p, c, rfl, hks, hkr, hnr, htl, hcp, hkid, xw, C, hd, hk, hT⟩ := hT_ h
 have xx := xw
 replace qc := xw.cellF qc
 obtain ⟨c0, c1, c2, c3⟩ := C.out
 have hll := hid hcp.2
 have Hc := hid hc
 have Ha := hid ha
 have H := hid hs
 clear hc ha hs
 clear h hks hkid hcp hkr hnr
 simp only [nv, Tr.k, Tr.t, Tr.n, Tr.l, lC, lN, zA, Nat.reduceAdd] at *
 go_enter Tryz.func177, Tryz.ntmps177
 go_wp2_with ((first | (go_at_call 108; refine (id_t t htl H.out B _ hT.out).mono ?_; rintro e w108 ⟨rfl, z_⟩) | (go_at_call 109; refine (row_65 _ _ _ ya B _ _ hd.out (ih ya Hc.out Ha.out B) _ _ _ rfl).mono ?_; rintro e w109 ⟨rfl, z_⟩)) <;> (replace xx := xx.of_eq z_; replace ⟨c0, c1, c2, c3⟩ := F4 z_ c0 c1 c2 c3; replace qc := z_.cellF qc; replace hd := hid (hd.out.keepF z_); replace ⟨hk, hT⟩ := D2 z_ hk hT))
 go_ret
 exact .mk rfl xx

theorem all_177_65 (l : List Tr) (B : Nat) (v : Value) (w : World) (h : KidsAt B w v l) (hT : Tabs B w) (gc : Nat) (qc : w.cell? ⟨gc, 0, none⟩ = some (.func (.func 65) #[] #[]))
  (hf : ∀ y ∈ l, ∀ u w', NT B w' u y → w'.cell? ⟨gc, 0, none⟩ = some (.func (.func 65) #[] #[]) → Calls Tryz.prog 177 #[u, .pointer (some ⟨gc, 0, none⟩)] w' (Ans true w')) : Calls Tryz.prog 57 #[v, .func (.func 177) #[] #[.pointer (some ⟨gc, 0, none⟩)]] w (Ans true w) := by
 obtain ⟨p, c, rfl, hcp, hkid⟩ := h.kid
 have K := hid hkid
 have hll := hid hcp.2
 have HF := hid hf
 have HT := hid hT
 have HQ := hid qc
 clear qc
 clear h hkid hcp hf hT
 go_enter Tryz.func57, Tryz.ntmps57
 go_wp2
 go_loopw [9] (fun i wr => ∃ j : Nat, j ≤ l.length ∧ i = .int .i64 j ∧ Fx w wr) (fun i _ => l.length - (intOf i).toNat)
 case atStart => exact ⟨0, Nat.zero_le _, rfl, Ext.refl _ _⟩
 case round =>
  obtain ⟨j, hj, rfl, xx⟩ := hrel
  have hj4 : (j : Int) ≤ 4398046511104 := by have := hll.out; omega
  by_cases hlt : j < l.length
  ·obtain ⟨g, o, s, rfl, hgB, e0, e1, e2, e3, hy⟩ := K.out j hlt
   have hfy := hid (HF.out l[j] (List.getElem_mem hlt))
   generalize l[j] = y at *
   obtain ⟨sl', hs', hks', _⟩ := id hy.open
   obtain rfl : s = sl' := by simpa [nv] using hs'
   clear hs'
   obtain ⟨p', c', rfl, _⟩ := hks'.kid
   clear hks'
   replace ⟨e0, e1, e2, e3⟩ := F4 xx e0 e1 e2 e3
   replace hy := hid ((hy.keepF xx).keepF (Ext.alloc (fun _ => False) wr (.cells #[.int .i64 y.k, .string (sv y.t), .int .i64 y.n, .slice p' y.l.length c'] 24)))
   replace xx := xx.of_eq (Ext.alloc (fun _ => False) wr (.cells #[.int .i64 y.k, .string (sv y.t), .int .i64 y.n, .slice p' y.l.length c'] 24))
   obtain ⟨d0, d1, d2, d3⟩ := nd_cells wr y.k y.n (sv y.t) (.slice p' y.l.length c')
   simp only [nv] at hy
   go_wp2_with (go_at_call 177; refine (hfy.out _ _ ⟨hy.out, HT.out.keepF xx⟩ (xx.cellF HQ.out)).mono ?_; rintro e w1 ⟨rfl, x1⟩)

   go_roundw
   case rel => exact ⟨j + 1, by omega, by go_num, xx.of_eq x1⟩
   case measure => simp [intOf]; omega
  ·go_wp2
   go_ret
   exact .mk rfl xx

theorem t176_65 {N : Nat} (ih : TTypeC N) (l : List Tr) (B : Nat) (v : Value) (w : World) (gc : Nat) (qc : w.cell? ⟨gc, 0, none⟩ = some (.func (.func 65) #[] #[])) (h : NT B w v (.mk 12 [] 0 l)) (hc : cnts l < N) (hu : pms true [] l = true) : Calls Tryz.prog 176 #[v, .pointer (some ⟨gc, 0, none⟩)] w (Ans true w) := by
 have hsv := sv_list
 obtain ⟨p, c, rfl, hks, hkr, hnr, htl, hcp, hkid, xw, C, hd, hk, hT⟩ := hT_ h
 have xx := xw
 replace qc := xw.cellF qc
 obtain ⟨c0, c1, c2, c3⟩ := C.out
 have hll := hid hcp.2
 have Hc := hid hc
 have Hu := hid (pms_all hu)
 clear hc hu
 have hp := hid (show plainT (.mk 12 [] 0 l) = true from rfl)
 clear h hks hkid hcp hkr hnr
 simp only [nv, Tr.k, Tr.t, Tr.n, Tr.l, lC, lN, zA, Nat.reduceAdd] at *
 go_enter Tryz.func176, Tryz.ntmps176
 go_wp2_with (first
  | (go_at_call 56; refine (like_any B _ _ _ hd.out.node).mono ?_; rintro e w56 ⟨he56, z_⟩; rw [hp.out] at he56; subst he56; replace xx := xx.of_eq z_; replace ⟨c0, c1, c2, c3⟩ := F4 z_ c0 c1 c2 c3; replace qc := z_.cellF qc; replace hd := hid (hd.out.keepF z_); replace ⟨hk, hT⟩ := D2 z_ hk hT)
  | ((first | (go_at_call 121; refine (unlike_t l Hu.out.2 B _ _ hk.out).mono ?_; rintro e w121 ⟨rfl, z_⟩) | (go_at_call 57; refine (all_177_65 l B _ _ hk.out hT.out gc qc (fun y hy u w' hn hq => by obtain ⟨t', z, rfl, h3, h4, h5, _⟩ := Hu.out.1 y hy; exact t177_65 ih t' z B u w' gc hq hn (by have h6 := cnt_mem hy; have h7 := Hc.out; simp only [cnt, cnts] at h6; omega) (h5 (by trivial)) h3)).mono ?_; rintro e w57 ⟨rfl, z_⟩)) <;> (replace xx := xx.of_eq z_; replace ⟨c0, c1, c2, c3⟩ := F4 z_ c0 c1 c2 c3; replace qc := z_.cellF qc; replace hd := hid (hd.out.keepF z_); replace ⟨hk, hT⟩ := D2 z_ hk hT)))
 go_ret
 exact .mk rfl xx

theorem t177_115 {N : Nat} (ih : TTypeC N) (t : Bs) (ya : Tr) (B : Nat) (v : Value) (w : World) (gc : Nat) (qc : w.cell? ⟨gc, 0, none⟩ = some (.func (.func 115) #[] #[])) (h : NT B w v (.mk 13 t 0 [ya])) (hc : cnt ya < N) (ha : isTyOr ya = true) (hs : isId t = true) : Calls Tryz.prog 177 #[v, .pointer (some ⟨gc, 0, none⟩)] w (Ans true w) := by
 have hsv := sv_list
 obtain ⟨p, c, rfl, hks, hkr, hnr, htl, hcp, hkid, xw, C, hd, hk, hT⟩ := hT_ h
 have xx := xw
 replace qc := xw.cellF qc
 obtain ⟨c0, c1, c2, c3⟩ := C.out
 have hll := hid hcp.2
 have Hc := hid hc
 have Ha := hid ha
 have H := hid hs
 clear hc ha hs
 clear h hks hkid hcp hkr hnr
 simp only [nv, Tr.k, Tr.t, Tr.n, Tr.l, lC, lN, zA, Nat.reduceAdd] at *
 go_enter Tryz.func177, Tryz.ntmps177
 go_wp2_with ((first | (go_at_call 108; refine (id_t t htl H.out B _ hT.out).mono ?_; rintro e w108 ⟨rfl, z_⟩) | (go_at_call 109; refine (row_115 _ _ _ ya B _ _ hd.out (ttypeOr_any ih ya Hc.out Ha.out B) _ _ _ rfl).mono ?_; rintro e w109 ⟨rfl, z_⟩)) <;> (replace xx := xx.of_eq z_; replace ⟨c0, c1, c2, c3⟩ := F4 z_ c0 c1 c2 c3; replace qc := z_.cellF qc; replace hd := hid (hd.out.keepF z_); replace ⟨hk, hT⟩ := D2 z_ hk hT))
 go_ret
 exact .mk rfl xx

theorem all_177_115 (l : List Tr) (B : Nat) (v : Value) (w : World) (h : KidsAt B w v l) (hT : Tabs B w) (gc : Nat) (qc : w.cell? ⟨gc, 0, none⟩ = some (.func (.func 115) #[] #[]))
  (hf : ∀ y ∈ l, ∀ u w', NT B w' u y → w'.cell? ⟨gc, 0, none⟩ = some (.func (.func 115) #[] #[]) → Calls Tryz.prog 177 #[u, .pointer (some ⟨gc, 0, none⟩)] w' (Ans true w')) : Calls Tryz.prog 57 #[v, .func (.func 177) #[] #[.pointer (some ⟨gc, 0, none⟩)]] w (Ans true w) := by
 obtain ⟨p, c, rfl, hcp, hkid⟩ := h.kid
 have K := hid hkid
 have hll := hid hcp.2
 have HF := hid hf
 have HT := hid hT
 have HQ := hid qc
 clear qc
 clear h hkid hcp hf hT
 go_enter Tryz.func57, Tryz.ntmps57
 go_wp2
 go_loopw [9] (fun i wr => ∃ j : Nat, j ≤ l.length ∧ i = .int .i64 j ∧ Fx w wr) (fun i _ => l.length - (intOf i).toNat)
 case atStart => exact ⟨0, Nat.zero_le _, rfl, Ext.refl _ _⟩
 case round =>
  obtain ⟨j, hj, rfl, xx⟩ := hrel
  have hj4 : (j : Int) ≤ 4398046511104 := by have := hll.out; omega
  by_cases hlt : j < l.length
  ·obtain ⟨g, o, s, rfl, hgB, e0, e1, e2, e3, hy⟩ := K.out j hlt
   have hfy := hid (HF.out l[j] (List.getElem_mem hlt))
   generalize l[j] = y at *
   obtain ⟨sl', hs', hks', _⟩ := id hy.open
   obtain rfl : s = sl' := by simpa [nv] using hs'
   clear hs'
   obtain ⟨p', c', rfl, _⟩ := hks'.kid
   clear hks'
   replace ⟨e0, e1, e2, e3⟩ := F4 xx e0 e1 e2 e3
   replace hy := hid ((hy.keepF xx).keepF (Ext.alloc (fun _ => False) wr (.cells #[.int .i64 y.k, .string (sv y.t), .int .i64 y.n, .slice p' y.l.length c'] 24)))
   replace xx := xx.of_eq (Ext.alloc (fun _ => False) wr (.cells #[.int .i64 y.k, .string (sv y.t), .int .i64 y.n, .slice p' y.l.length c'] 24))
   obtain ⟨d0, d1, d2, d3⟩ := nd_cells wr y.k y.n (sv y.t) (.slice p' y.l.length c')
   simp only [nv] at hy
   go_wp2_with (go_at_call 177; refine (hfy.out _ _ ⟨hy.out, HT.out.keepF xx⟩ (xx.cellF HQ.out)).mono ?_; rintro e w1 ⟨rfl, x1⟩)

   go_roundw
   case rel => exact ⟨j + 1, by omega, by go_num, xx.of_eq x1⟩
   case measure => simp [intOf]; omega
  ·go_wp2
   go_ret
   exact .mk rfl xx

theorem t176_115 {N : Nat} (ih : TTypeC N) (l : List Tr) (B : Nat) (v : Value) (w : World) (gc : Nat) (qc : w.cell? ⟨gc, 0, none⟩ = some (.func (.func 115) #[] #[])) (h : NT B w v (.mk 12 [] 0 l)) (hc : cnts l < N) (hu : pms false [] l = true) : Calls Tryz.prog 176 #[v, .pointer (some ⟨gc, 0, none⟩)] w (Ans true w) := by
 have hsv := sv_list
 obtain ⟨p, c, rfl, hks, hkr, hnr, htl, hcp, hkid, xw, C, hd, hk, hT⟩ := hT_ h
 have xx := xw
 replace qc := xw.cellF qc
 obtain ⟨c0, c1, c2, c3⟩ := C.out
 have hll := hid hcp.2
 have Hc := hid hc
 have Hu := hid (pms_all hu)
 clear hc hu
 have hp := hid (show plainT (.mk 12 [] 0 l) = true from rfl)
 clear h hks hkid hcp hkr hnr
 simp only [nv, Tr.k, Tr.t, Tr.n, Tr.l, lC, lN, zA, Nat.reduceAdd] at *
 go_enter Tryz.func176, Tryz.ntmps176
 go_wp2_with (first
  | (go_at_call 56; refine (like_any B _ _ _ hd.out.node).mono ?_; rintro e w56 ⟨he56, z_⟩; rw [hp.out] at he56; subst he56; replace xx := xx.of_eq z_; replace ⟨c0, c1, c2, c3⟩ := F4 z_ c0 c1 c2 c3; replace qc := z_.cellF qc; replace hd := hid (hd.out.keepF z_); replace ⟨hk, hT⟩ := D2 z_ hk hT)
  | ((first | (go_at_call 121; refine (unlike_t l Hu.out.2 B _ _ hk.out).mono ?_; rintro e w121 ⟨rfl, z_⟩) | (go_at_call 57; refine (all_177_115 l B _ _ hk.out hT.out gc qc (fun y hy u w' hn hq => by obtain ⟨t', z, rfl, h3, h4, h5, _⟩ := Hu.out.1 y hy; exact t177_115 ih t' z B u w' gc hq hn (by have h6 := cnt_mem hy; have h7 := Hc.out; simp only [cnt, cnts] at h6; omega) h4 h3)).mono ?_; rintro e w57 ⟨rfl, z_⟩)) <;> (replace xx := xx.of_eq z_; replace ⟨c0, c1, c2, c3⟩ := F4 z_ c0 c1 c2 c3; replace qc := z_.cellF qc; replace hd := hid (hd.out.keepF z_); replace ⟨hk, hT⟩ := D2 z_ hk hT)))
 go_ret
 exact .mk rfl xx

theorem rowc_c176_65 (k n : Int) (t : Bs) (ya yb : Tr) (B : Nat) (v : Value) (w : World) (h : NT B w v (.mk k t n [ya, yb])) (gc : Nat) (qc : w.cell? ⟨gc, 0, none⟩ = some (.func (.func 65) #[] #[])) (fa : ∀ u w', NT B w' u ya → w'.cell? ⟨gc, 0, none⟩ = some (.func (.func 65) #[] #[]) → Calls Tryz.prog 176 #[u, .pointer (some ⟨gc, 0, none⟩)] w' (Ans true w')) (fb : ∀ u w', NT B w' u yb → Calls Tryz.prog 65 #[u] w' (Ans true w')) (gg cc : Nat) (q0 : w.cell? ⟨gg, 0, none⟩ = some (.func (.func 176) #[] #[.pointer (some ⟨gc, 0, none⟩)])) (q1 : w.cell? ⟨gg, 1, none⟩ = some (.func (.func 65) #[] #[])) : Calls Tryz.prog 109 #[v, .slice (some ⟨gg, 0, none⟩) 2 cc] w (Ans true w) := by
 obtain ⟨p, c, rfl, hks, hkr, hnr, htl, hcp, hkid, xw, C, _, _, _⟩ := hT_ h
 have hT := hid h.tab
 have K := hid hkid
 clear h hks hkid hcp hkr hnr
 simp only [nv, Tr.k, Tr.t, Tr.n, Tr.l]
 obtain ⟨g, o, s0, rfl, hgB, a0, a1, a2, a3, ha⟩ := K.out 0 (by simp)
 obtain ⟨g1, o1, s1, hgo, hgB1, b0, b1, b2, b3, hb⟩ := K.out 1 (by simp)
 simp only [Option.some.injEq, Addr.mk.injEq, and_true] at hgo
 obtain ⟨rfl, rfl⟩ := hgo
 simp only [gZ, gS, zM, oM, aZ, lC, lN, zA, Nat.reduceAdd, Nat.reduceMul] at *
 replace ⟨a0, a1, a2, a3⟩ := F4 xw a0 a1 a2 a3
 replace ha := hid (ha.keepF xw)
 simp only [nv] at ha
 replace ⟨b0, b1, b2, b3⟩ := F4 xw b0 b1 b2 b3
 replace hb := hid (hb.keepF xw)
 simp only [nv] at hb
 replace q0 := xw.cellF q0
 replace qc := xw.cellF qc
 replace q1 := xw.cellF q1
 replace hT := hid (hT.out.keepF xw)
 obtain ⟨c0, c1, c2, c3⟩ := C.out
 clear K
 replace fa := hid fa
 replace fb := hid fb
 go_enter Tryz.func109, Tryz.ntmps109
 go_wp2
 go_loopw [15] (fun i wr => Hid True ∧ (i = .int .i64 0 ∨ i = .int .i64 1 ∨ i = .int .i64 2) ∧ Fx (w.alloc (.cells #[.int .i64 k, .string (sv t), .int .i64 n, .slice (some ⟨g, o, none⟩) 2 c] 24)) wr) (fun i _ => 2 - (intOf i).toNat)
 case atStart => exact ⟨trivial, .inl rfl, Ext.refl _ _⟩
 case round =>
  obtain ⟨_, hi, xx⟩ := hrel
  replace c3 := xx.cellF c3
  replace q0 := xx.cellF q0
  replace qc := xx.cellF qc
  replace q1 := xx.cellF q1
  replace ⟨a0, a1, a2, a3⟩ := F4 xx a0 a1 a2 a3
  replace ⟨b0, b1, b2, b3⟩ := F4 xx b0 b1 b2 b3
  replace hT := hid (hT.out.keepF xx)
  replace ha := hid (ha.out.keepF xx)
  replace hb := hid (hb.out.keepF xx)
  rcases hi with rfl | rfl | rfl
  ·go_wp2_with (go_at_call 176; refine (fa.out _ _ ⟨ha.out, hT.out⟩ qc).mono ?_; rintro e w1 ⟨rfl, x1⟩)
   go_roundw
   case rel => exact ⟨trivial, by simp, xx.of_eq x1⟩
   case measure => simp [intOf]
  ·go_wp2_with (go_at_call 65; refine (fb.out _ _ ⟨hb.out, hT.out⟩).mono ?_; rintro e w1 ⟨rfl, x1⟩)
   go_roundw
   case rel => exact ⟨trivial, by simp, xx.of_eq x1⟩
   case measure => simp [intOf]
  ·go_wp2
   go_ret
   exact .mk rfl (xw.of_eq xx)

theorem row_c176_65 (k n : Int) (t : Bs) (ya yb : Tr) (B : Nat) (v : Value) (w : World) (h : NT B w v (.mk k t n [ya, yb])) (gc : Nat) (qc : w.cell? ⟨gc, 0, none⟩ = some (.func (.func 65) #[] #[])) (fa : ∀ u w', NT B w' u ya → w'.cell? ⟨gc, 0, none⟩ = some (.func (.func 65) #[] #[]) → Calls Tryz.prog 176 #[u, .pointer (some ⟨gc, 0, none⟩)] w' (Ans true w')) (fb : ∀ u w', NT B w' u yb → Calls Tryz.prog 65 #[u] w' (Ans true w')) (T : TypeId) (gg cc : Nat) (hg : w.heap.size = gg) : Calls Tryz.prog 109 #[v, .slice (some ⟨gg, 0, none⟩) 2 cc] (w.alloc (.cells #[.func (.func 176) #[] #[.pointer (some ⟨gc, 0, none⟩)], .func (.func 65) #[] #[]] T)) (Ans true w) := by
 subst hg
 exact (rowc_c176_65 k n t ya yb B v _ (h.keepF (Ext.alloc _ _ _)) gc ((Ext.alloc (fun _ => False) _ _).cellF qc) fa fb _ cc (cell_alloc _ _ _ 0 _ rfl) (cell_alloc _ _ _ 1 _ rfl)).mono fun _ _ h => ⟨h.1, (Ext.alloc _ _ _).of_eq h.2⟩

theorem t65_35 {N : Nat} (ih : TTypeC N) (m : List Tr) (yb : Tr) (B : Nat) (v : Value) (w : World) (h : NT B w v (.mk 35 [] 0 [.mk 12 [] 0 m, yb])) (hc : cnts m < N) (hc2 : cnt yb < N) (ha : pms true [] m = true) (hb : isT yb = true) : Calls Tryz.prog 65 #[v] w (Ans true w) := by
 have hsv := sv_list
 obtain ⟨ya, hya⟩ : ∃ ya, ya = Tr.mk 12 [] 0 m := ⟨_, rfl⟩
 rw [← hya] at h
 have HA := hid (fun u w' gc (hq : w'.cell? ⟨gc, 0, none⟩ = some (.func (.func 65) #[] #[])) (hn : NT B w' u ya) => (by subst hya; exact t176_65 ih m B u w' gc hq hn hc ha : Calls Tryz.prog 176 #[u, .pointer (some ⟨gc, 0, none⟩)] w' (Ans true w')))
 have HB := hid (ih yb hc2 hb B)
 clear hya hc hc2 ha hb
 obtain ⟨p, c, rfl, hks, hkr, hnr, htl, hcp, hkid, xw, ⟨c0, c1, c2, c3⟩, hd, _, hT⟩ := hT_ h
 have xx := xw
 have hk := hid True.intro
 have hp := hid (show plainT (.mk 35 [] 0 [ya, yb]) = true from rfl)
 clear h hks hkid hcp hkr hnr hk
 simp only [nv, Tr.k, Tr.t, Tr.n, Tr.l, lC, lN, zA, Nat.reduceAdd] at *
 go_enter Tryz.func65, Tryz.ntmps65
 go_wp2_with (go_at_call 56; refine (like_any B _ _ _ hd.out.node).mono ?_; rintro e w56 ⟨he56, z_⟩; rw [hp.out] at he56; subst he56; replace ⟨xx, ⟨c0, c1, c2, c3⟩, hd⟩ := X5 z_ xx c0 c1 c2 c3 hd; replace hT := hid (hT.out.keepF z_))
 generalize hW : w56 = W at *
 have ya' : Fx W (W.alloc (.cells #[.func (.func 65) #[] #[]] 35)) := Ext.alloc _ _ _
 have g0 := ya'.cellF c0
 have g1 := ya'.cellF c1
 have g2 := ya'.cellF c2
 have g3 := ya'.cellF c3
 have hq := hid (cell_alloc W #[.func (.func 65) #[] #[]] 35 0 _ rfl)
 have hz : (W.alloc (.cells #[.func (.func 65) #[] #[]] 35)).heap.size = W.heap.size + 1 := alloc_size _ _
 have yz : Fx (W.alloc (.cells #[.func (.func 65) #[] #[]] 35)) ((W.alloc (.cells #[.func (.func 65) #[] #[]] 35)).alloc (.cells #[.func (.func 176) #[] #[.pointer (some ⟨W.heap.size, 0, none⟩)], .func (.func 65) #[] #[]] 35)) := Ext.alloc _ _ _
 have h0 := yz.cellF g0
 have h1 := yz.cellF g1
 have h2 := yz.cellF g2
 have h3 := yz.cellF g3
 have r0 := cell_alloc (W.alloc (.cells #[.func (.func 65) #[] #[]] 35)) #[.func (.func 176) #[] #[.pointer (some ⟨W.heap.size, 0, none⟩)], .func (.func 65) #[] #[]] 35 0 _ rfl
 have r1 := cell_alloc (W.alloc (.cells #[.func (.func 65) #[] #[]] 35)) #[.func (.func 176) #[] #[.pointer (some ⟨W.heap.size, 0, none⟩)], .func (.func 65) #[] #[]] 35 1 _ rfl
 rw [hz] at r0 r1
 have yd := (ya'.of_eq yz).of_eq (Ext.drew (fun _ => False) _)
 have R0 := hid ((Ext.drew (fun _ => False) _).cellF r0)
 have R1 := hid ((Ext.drew (fun _ => False) _).cellF r1)
 have HQ := hid ((Ext.drew (fun _ => False) _).cellF (yz.cellF hq.out))
 have HD := hid (hd.out.keepF yd)
 have HX := hid (xx.of_eq yd)
 clear r0 r1 hq yd hz
 have hrow := rowc_c176_65 _ _ _ ya yb B _ _ HD.out _ HQ.out (fun u w' hn hq => HA.out u w' _ hq hn) HB.out _ 2 R0.out R1.out
 go_region_with (first
  | (go_at_call 130; refine (pof_t 65 _).mono ?_; rintro e w130 ⟨rfl, rfl⟩)
  | (go_at_call 109; refine hrow.mono ?_; rintro e w109 ⟨rfl, x109⟩))
 all_goals
  go_wp2
  go_ret
  exact .mk rfl (HX.out.of_eq x109)

theorem ttype_all (N : Nat) : TTypeC N := by
 induction N with
 | zero => intro x hx; omega
 | succ N ih =>
  rintro ⟨k, t, n, l⟩ hx hT B v w h
  have hcn : cnts l < N := by simp [cnt] at hx; omega
  by_cases h30 : k = 30
  ·subst h30
   obtain ⟨rfl, rfl, hi⟩ := isT_30' hT
   rcases hi with hi | rfl | rfl
   ·exact t65_30 t B v w h hi
   ·exact t65_30_null B v w h
   ·exact t65_30_undef B v w h
  by_cases h31 : k = 31
  ·subst h31
   obtain ⟨rfl, rfl, y, rfl, hy⟩ := isT_31' hT
   exact t65_31 ih y B v w h (by simp [cnts] at hcn; omega) hy
  by_cases h32 : k = 32
  ·subst h32
   obtain ⟨rfl, rfl, hu, h2⟩ := isT_32' hT
   exact t65_32 ih l B v w h hcn hu h2
  by_cases h33 : k = 33
  ·subst h33
   obtain ⟨rfl, rfl, hu⟩ := isT_33' hT
   exact t65_33 ih l B v w h hcn hu
  by_cases h35 : k = 35
  ·subst h35
   obtain ⟨rfl, rfl, p, r, rfl, hp, hr⟩ := isT_35' hT
   obtain ⟨pk, pt, pn, pl⟩ := p
   simp [isPms, plainT, Tr.k, Tr.t, Tr.n, Tr.l] at hp
   obtain ⟨⟨rfl, rfl, rfl⟩, hp⟩ := hp
   simp [cnts, cnt] at hcn
   exact t65_35 ih pl r B v w h (by omega) (by omega) hp hr
  ·exfalso
   unfold isT at hT
   simp [h30, h31, h32, h33, h35] at hT

theorem type_t (x : Tr) (hx : isT x = true) (B : Nat) (v : Value) (w : World) (h : NT B w v x) : Calls Tryz.prog 65 #[v] w (Ans true w) := ttype_all (cnt x + 1) x (Nat.lt_succ_self _) hx B v w h
theorem typeOr_t (x : Tr) (hx : isTyOr x = true) (B : Nat) (v : Value) (w : World) (h : NT B w v x) : Calls Tryz.prog 115 #[v] w (Ans true w) := ttypeOr_any (ttype_all (cnt x + 1)) x (Nat.lt_succ_self _) hx B v w h

theorem params_t (x : Tr) (hx : isPms false x = true) (B : Nat) (v : Value) (w : World) (h : NT B w v x) : Calls Tryz.prog 116 #[v] w (Ans true w) := by
 obtain ⟨pk, pt, pn, m⟩ := x
 simp [isPms, plainT, Tr.k, Tr.t, Tr.n, Tr.l] at hx
 obtain ⟨⟨rfl, rfl, rfl⟩, hp⟩ := hx
 obtain ⟨sl, rfl, hks, _, _, htl⟩ := id h.node.open
 obtain ⟨p, c, rfl, _⟩ := hks.kid
 have xw : Fx w (w.alloc (.cells #[.int .i64 12, .string (sv []), .int .i64 0, .slice p m.length c] 24)) := Ext.alloc _ _ _
 obtain ⟨c0, c1, c2, c3⟩ := nd_cells w 12 0 (sv []) (.slice p m.length c)
 have hd := hid (h.keepF xw)
 have HA := hid (fun u w' gc (hq : w'.cell? ⟨gc, 0, none⟩ = some (.func (.func 115) #[] #[])) (hn : NT B w' u (.mk 12 [] 0 m)) => t176_115 (ttype_all (cnts m + 1)) m B u w' gc hq hn (by omega) hp)
 clear h hks htl hp
 simp only [nv, Tr.k, Tr.t, Tr.n, Tr.l] at *
 go_enter Tryz.func116, Tryz.ntmps116
 go_wp2
 generalize hW : w.alloc (.cells #[.int .i64 12, .string (sv []), .int .i64 0, .slice p m.length c] 24) = W at *
 have ya : Fx W (W.alloc (.cells #[.func (.func 115) #[] #[]] 35)) := Ext.alloc _ _ _
 have g0 := ya.cellF c0
 have g1 := ya.cellF c1
 have g2 := ya.cellF c2
 have g3 := ya.cellF c3
 have hq := hid (cell_alloc W #[.func (.func 115) #[] #[]] 35 0 _ rfl)
 go_region_with (first
  | (go_at_call 130; refine (pof_t 115 _).mono ?_; rintro e w130 ⟨rfl, rfl⟩)
  | (go_at_call 176; refine (HA.out _ _ _ ((Ext.drew (fun _ => False) _).cellF hq.out) (hd.out.keepF (ya.of_eq (Ext.drew _ _)))).mono ?_; rintro e w176 ⟨rfl, x176⟩))
 all_goals
  go_wp2
  go_ret
  exact .mk rfl ((xw.of_eq (ya.of_eq (Ext.drew _ _))).of_eq x176)

end Go.Proofs.YtpmlmpibpmoclaaGreatDoor
