/-
  The printer on types.
-/
import Derived.Test.YtpmlmpibpmoclaaGreatDoorSb
import Derived.Test.YtpmlmpibpmoclaaGreatDoorPp
import Derived.Test.YtpmlmpibpmoclaaGreatDoorT7
namespace Go.Proofs.YtpmlmpibpmoclaaGreatDoor
set_option linter.all false
set_option maxRecDepth 20000
set_option maxHeartbeats 4000000
open Go.RowKit

def TypP (N : Nat) : Prop := ∀ x : Tr, cnt x < N → isT x = true → ∀ B pb L w v, PrAt B w pb L → NT B w v x → (L ++ qT x).length ≤ 4398046511104 → Calls Tryz.prog 30 #[.pointer (some ⟨pb, 0, none⟩), v] w (Pts B pb w (L ++ qT x))
theorem TypP.at {N : Nat} (ih : TypP N) (x : Tr) (hc : cnt x < N) (ht : isT x = true) {B pb : Nat} {L : List Pc} {w : World} {v : Value} (hp : PrAt B w pb L) (h : NT B w v x) (hl : (L ++ qT x).length ≤ 4398046511104) : Calls Tryz.prog 30 #[.pointer (some ⟨pb, 0, none⟩), v] w (Pts B pb w (L ++ qT x)) := ih x hc ht B pb L w v hp h hl

theorem tyOr_p {N : Nat} (ih : TypP N) {B pb : Nat} {L : List Pc} {w : World} {v : Value} (x : Tr) (hc : cnt x < N) (ht : isTyOr x = true) (hp : PrAt B w pb L) (h : NT B w v x) (hl : (L ++ (tyOrP x)).length ≤ 4398046511104) : Calls Tryz.prog 71 #[.pointer (some ⟨pb, 0, none⟩), v] w (Pts B pb w (L ++ (tyOrP x))) := by
 obtain ⟨sl, rfl, hks, hkr, hnr, htl⟩ := id h.node.open
 obtain ⟨p, c, rfl, _⟩ := hks.kid
 have hpb := hid hp.le
 have hne : w.heap.size ≠ pb := by have := hp.lt; omega
 have xw : Fx w (w.alloc (.cells #[.int .i64 x.k, .string (sv x.t), .int .i64 x.n, .slice p x.l.length c] 24)) := Ext.alloc _ _ _
 have pp := hid (Px.of (B := B) (pb := pb) xw)
 have HB := hid (heap_new w (.cells #[.int .i64 x.k, .string (sv x.t), .int .i64 x.n, .slice p x.l.length c] 24))
 obtain ⟨c0, c1, c2, c3⟩ := nd_cells w x.k x.n (sv x.t) (.slice p x.l.length c)
 have hd := hid (h.keepF xw)
 have hT := hid (h.tab.keepF xw)
 have hp1 := hid (hp.keepF xw)
 have hk := hid True.intro
 have Hc := hid hc
 have hl2 := hid hl
 clear hl hc
 clear h hks hkr hnr hp hk
 simp only [nv] at hd ⊢
 by_cases hk : x.k = 14
 ·have e := hid (show tyOrP x = [] from by simp [tyOrP, hk])
  have hk2 : (x.k != 14) = false := by simpa using hk
  replace hk := hid hk
  go_enter Tryz.func71, Tryz.ntmps71
  go_wp2
  try simp only [Exit.inBlock, Exit.then]
  refine be rfl rfl ?_
  exact ⟨rfl, hp1.out.cast (show L = L ++ tyOrP x by rw [e.out]; simp), pp.out⟩
 ·have e := hid (show tyOrP x = [wd [58, 32]] ++ qT x from by simp [tyOrP, hk])
  have hT1 := hid (show isT x = true from by
   unfold isTyOr isNone at ht
   simpa [hk] using ht)
  have HL := hid (show (L ++ ([wd [58, 32]] ++ qT x)).length ≤ 4398046511104 from by have := hl2.out; rwa [e.out] at this)
  have hk2 : (x.k != 14) = true := by simpa using hk
  clear hk ht
  go_enter Tryz.func71, Tryz.ntmps71
  go_wp2_with ((first | (go_at_call 67; refine (pl [[58, 32]] hp1.out (lo HL.out)).mono ?_; rintro e w67 ⟨rfl, hq, z_⟩) | (go_at_call 30; refine (ih.at x Hc.out hT1.out hp1.out hd.out (lo HL.out)).mono ?_; rintro e w30 ⟨rfl, hq, z_⟩)) <;> (replace ⟨pp, hp1, HB, c0, c1, c2, c3⟩ := Q5 z_ pp hq HB hne; replace hd := hid (hd.out.keepP z_ hpb.out); replace hT := hid (hT.out.keepP z_ hpb.out)))
  try simp only [Exit.inBlock, Exit.then]
  refine be rfl rfl ?_
  exact ⟨rfl, hp1.out.cast (by rw [e.out]; simp), pp.out⟩

theorem within_32_35_32 {N : Nat} (ih : TypP N) (t : Bs) (n : Int) (l : List Tr) (B pb : Nat) (L : List Pc) (w : World) (v : Value) (hp : PrAt B w pb L) (h : NT B w v (.mk 32 t n l)) (gk ck : Nat) (q0 : w.cell? ⟨gk, 0, none⟩ = some (.int .i64 32)) (q1 : w.cell? ⟨gk, 1, none⟩ = some (.int .i64 35)) (hc : cnt (.mk 32 t n l) < N) (ht : isT (.mk 32 t n l) = true) (hl : (L ++ ([wd [40]] ++ qT (.mk 32 t n l) ++ [wd [41]])).length ≤ 4398046511104) : Calls Tryz.prog 69 #[.pointer (some ⟨pb, 0, none⟩), v, .slice (some ⟨gk, 0, none⟩) 2 ck] w (Pts B pb w (L ++ ([wd [40]] ++ qT (.mk 32 t n l) ++ [wd [41]]))) := by
 have hsv := sv_list
 obtain ⟨p, c, rfl, hks, hkr, hnr, htl, hcp, hkid, hpb, hne, xw, pp, HB, ⟨c0, c1, c2, c3⟩, hd, hk, hT0, hT, hp1⟩ := hS hp h
 have HL := hid hl
 have K := hid hkid
 have hll := hid hcp.2
 have Hc := hid hc
 have Ht := hid ht
 clear hc ht
 replace q0 := xw.cellF q0
 replace q1 := xw.cellF q1
 clear h hks hkid hcp hkr hnr hp hl
 simp only [nv, Tr.k, Tr.t, Tr.n, Tr.l, lC, lN, zA, Nat.reduceAdd] at hd hk HB pp c0 c1 c2 c3 ⊢
 clear K
 go_enter Tryz.func69, Tryz.ntmps69
 go_wp2
 go_loop [10] (fun i => ∃ _ : True, i = .int .i64 0) (fun i => 2 - (intOf i).toNat)
 case atStart => exact ⟨trivial, by simp⟩
 case round =>
  obtain ⟨_, hi⟩ := hrel
  rcases hi with rfl
  ·go_wp2_with ((first | (go_at_call 67; (first | refine (pl [[40]] hp1.out (lo HL.out)).mono ?_ | refine (pl [[41]] hp1.out (lo HL.out)).mono ?_); rintro e w67 ⟨rfl, hq, z_⟩) | (go_at_call 30; refine (ih.at _ Hc.out Ht.out hp1.out hd.out (lo HL.out)).mono ?_; rintro e w30 ⟨rfl, hq, z_⟩)) <;> (replace ⟨pp, hp1, HB, c0, c1, c2, c3⟩ := Q5 z_ pp hq HB hne; replace ⟨hd, hk, hT⟩ := D3 z_ hpb hd hk hT))
   try simp only [Exit.inBlock, Exit.then]
   refine be rfl rfl ?_
   exact ⟨rfl, hp1.out.cast (by simp), pp.out⟩

theorem within_32_35_35 {N : Nat} (ih : TypP N) (t : Bs) (n : Int) (l : List Tr) (B pb : Nat) (L : List Pc) (w : World) (v : Value) (hp : PrAt B w pb L) (h : NT B w v (.mk 35 t n l)) (gk ck : Nat) (q0 : w.cell? ⟨gk, 0, none⟩ = some (.int .i64 32)) (q1 : w.cell? ⟨gk, 1, none⟩ = some (.int .i64 35)) (hc : cnt (.mk 35 t n l) < N) (ht : isT (.mk 35 t n l) = true) (hl : (L ++ ([wd [40]] ++ qT (.mk 35 t n l) ++ [wd [41]])).length ≤ 4398046511104) : Calls Tryz.prog 69 #[.pointer (some ⟨pb, 0, none⟩), v, .slice (some ⟨gk, 0, none⟩) 2 ck] w (Pts B pb w (L ++ ([wd [40]] ++ qT (.mk 35 t n l) ++ [wd [41]]))) := by
 have hsv := sv_list
 obtain ⟨p, c, rfl, hks, hkr, hnr, htl, hcp, hkid, hpb, hne, xw, pp, HB, ⟨c0, c1, c2, c3⟩, hd, hk, hT0, hT, hp1⟩ := hS hp h
 have HL := hid hl
 have K := hid hkid
 have hll := hid hcp.2
 have Hc := hid hc
 have Ht := hid ht
 clear hc ht
 replace q0 := xw.cellF q0
 replace q1 := xw.cellF q1
 clear h hks hkid hcp hkr hnr hp hl
 simp only [nv, Tr.k, Tr.t, Tr.n, Tr.l, lC, lN, zA, Nat.reduceAdd] at hd hk HB pp c0 c1 c2 c3 ⊢
 clear K
 go_enter Tryz.func69, Tryz.ntmps69
 go_wp2
 go_loop [10] (fun i => ∃ _ : True, i = .int .i64 0 ∨ i = .int .i64 1) (fun i => 2 - (intOf i).toNat)
 case atStart => exact ⟨trivial, by simp⟩
 case round =>
  obtain ⟨_, hi⟩ := hrel
  rcases hi with rfl | rfl
  ·go_wp2
   go_round
   case rel => exact ⟨trivial, by simp⟩
   case measure => simp [intOf]
  ·go_wp2_with ((first | (go_at_call 67; (first | refine (pl [[40]] hp1.out (lo HL.out)).mono ?_ | refine (pl [[41]] hp1.out (lo HL.out)).mono ?_); rintro e w67 ⟨rfl, hq, z_⟩) | (go_at_call 30; refine (ih.at _ Hc.out Ht.out hp1.out hd.out (lo HL.out)).mono ?_; rintro e w30 ⟨rfl, hq, z_⟩)) <;> (replace ⟨pp, hp1, HB, c0, c1, c2, c3⟩ := Q5 z_ pp hq HB hne; replace ⟨hd, hk, hT⟩ := D3 z_ hpb hd hk hT))
   try simp only [Exit.inBlock, Exit.then]
   refine be rfl rfl ?_
   exact ⟨rfl, hp1.out.cast (by simp), pp.out⟩

theorem within_32_35_o {N : Nat} (ih : TypP N) (k : Int) (t : Bs) (n : Int) (l : List Tr) (B pb : Nat) (L : List Pc) (w : World) (v : Value) (hp : PrAt B w pb L) (h : NT B w v (.mk k t n l)) (gk ck : Nat) (q0 : w.cell? ⟨gk, 0, none⟩ = some (.int .i64 32)) (q1 : w.cell? ⟨gk, 1, none⟩ = some (.int .i64 35)) (hc : cnt (.mk k t n l) < N) (ht : isT (.mk k t n l) = true) (hk32 : ¬ k = 32) (hk35 : ¬ k = 35) (hl : (L ++ (qT (.mk k t n l))).length ≤ 4398046511104) : Calls Tryz.prog 69 #[.pointer (some ⟨pb, 0, none⟩), v, .slice (some ⟨gk, 0, none⟩) 2 ck] w (Pts B pb w (L ++ (qT (.mk k t n l)))) := by
 have hsv := sv_list
 obtain ⟨p, c, rfl, hks, hkr, hnr, htl, hcp, hkid, hpb, hne, xw, pp, HB, ⟨c0, c1, c2, c3⟩, hd, hk, hT0, hT, hp1⟩ := hS hp h
 have HL := hid hl
 have K := hid hkid
 have hll := hid hcp.2
 have Hc := hid hc
 have Ht := hid ht
 clear hc ht
 replace q0 := xw.cellF q0
 replace q1 := xw.cellF q1
 have j0 : (k == 32) = false := by simpa using hk32
 clear hk32
 have j1 : (k == 35) = false := by simpa using hk35
 clear hk35
 clear h hks hkid hcp hkr hnr hp hl
 simp only [nv, Tr.k, Tr.t, Tr.n, Tr.l, lC, lN, zA, Nat.reduceAdd] at hd hk HB pp c0 c1 c2 c3 ⊢
 clear K
 go_enter Tryz.func69, Tryz.ntmps69
 go_wp2
 go_loop [10] (fun i => ∃ _ : True, i = .int .i64 0 ∨ i = .int .i64 1 ∨ i = .int .i64 2) (fun i => 2 - (intOf i).toNat)
 case atStart => exact ⟨trivial, by simp⟩
 case round =>
  obtain ⟨_, hi⟩ := hrel
  rcases hi with rfl | rfl | rfl
  ·go_wp2
   go_round
   case rel => exact ⟨trivial, by simp⟩
   case measure => simp [intOf]
  ·go_wp2
   go_round
   case rel => exact ⟨trivial, by simp⟩
   case measure => simp [intOf]
  ·go_wp2_with (go_at_call 30; refine (ih.at _ Hc.out Ht.out hp1.out hd.out (lo HL.out)).mono ?_; rintro e w30 ⟨rfl, hq, z_⟩; replace ⟨pp, hp1, HB, c0, c1, c2, c3⟩ := Q5 z_ pp hq HB hne; replace ⟨hd, hk, hT⟩ := D3 z_ hpb hd hk hT)
   try simp only [Exit.inBlock, Exit.then]
   refine be rfl rfl ?_
   exact ⟨rfl, hp1.out.cast (by simp), pp.out⟩

theorem within_32_35 {N : Nat} (ih : TypP N) {B pb : Nat} {L : List Pc} {w : World} {v : Value} (x : Tr) (hc : cnt x < N) (ht : isT x = true) {T : TypeId} {gk ck : Nat} (hg : w.heap.size = gk) (hp : PrAt B w pb L) (h : NT B w v x) (hl : (L ++ (wi2 x)).length ≤ 4398046511104) :
  Calls Tryz.prog 69 #[.pointer (some ⟨pb, 0, none⟩), v, .slice (some ⟨gk, 0, none⟩) 2 ck] (w.alloc (.cells #[.int .i64 32, .int .i64 35] T)) (Pts B pb w (L ++ (wi2 x))) := by
 subst hg
 have xa : Fx w (w.alloc (.cells #[.int .i64 32, .int .i64 35] T)) := Ext.alloc _ _ _
 refine Calls.mono (R := Pts B pb (w.alloc (.cells #[.int .i64 32, .int .i64 35] T)) (L ++ (wi2 x))) ?_ fun _ _ k => ⟨k.1, k.2.1, (Px.of xa).trans k.2.2⟩
 obtain ⟨k, t, n, l⟩ := x
 by_cases h32 : k = 32
 ·subst h32
  have e : wi2 (.mk 32 t n l) = [wd [40]] ++ qT (.mk 32 t n l) ++ [wd [41]] := if_pos (by simp [Tr.k])
  rw [e] at hl ⊢
  exact within_32_35_32 ih t n l B pb L _ v (hp.keepF xa) (h.keepF xa) _ ck (cell_alloc _ _ _ 0 _ rfl) (cell_alloc _ _ _ 1 _ rfl) hc ht hl
 by_cases h35 : k = 35
 ·subst h35
  have e : wi2 (.mk 35 t n l) = [wd [40]] ++ qT (.mk 35 t n l) ++ [wd [41]] := if_pos (by simp [Tr.k])
  rw [e] at hl ⊢
  exact within_32_35_35 ih t n l B pb L _ v (hp.keepF xa) (h.keepF xa) _ ck (cell_alloc _ _ _ 0 _ rfl) (cell_alloc _ _ _ 1 _ rfl) hc ht hl
 have e : wi2 (.mk k t n l) = qT (.mk k t n l) := if_neg (by simp [Tr.k, h32, h35])
 rw [e] at hl ⊢
 exact within_32_35_o ih k t n l B pb L _ v (hp.keepF xa) (h.keepF xa) _ ck (cell_alloc _ _ _ 0 _ rfl) (cell_alloc _ _ _ 1 _ rfl) hc ht h32 h35 hl

theorem within_35_35 {N : Nat} (ih : TypP N) (t : Bs) (n : Int) (l : List Tr) (B pb : Nat) (L : List Pc) (w : World) (v : Value) (hp : PrAt B w pb L) (h : NT B w v (.mk 35 t n l)) (gk ck : Nat) (q0 : w.cell? ⟨gk, 0, none⟩ = some (.int .i64 35)) (hc : cnt (.mk 35 t n l) < N) (ht : isT (.mk 35 t n l) = true) (hl : (L ++ ([wd [40]] ++ qT (.mk 35 t n l) ++ [wd [41]])).length ≤ 4398046511104) : Calls Tryz.prog 69 #[.pointer (some ⟨pb, 0, none⟩), v, .slice (some ⟨gk, 0, none⟩) 1 ck] w (Pts B pb w (L ++ ([wd [40]] ++ qT (.mk 35 t n l) ++ [wd [41]]))) := by
 have hsv := sv_list
 obtain ⟨p, c, rfl, hks, hkr, hnr, htl, hcp, hkid, hpb, hne, xw, pp, HB, ⟨c0, c1, c2, c3⟩, hd, hk, hT0, hT, hp1⟩ := hS hp h
 have HL := hid hl
 have K := hid hkid
 have hll := hid hcp.2
 have Hc := hid hc
 have Ht := hid ht
 clear hc ht
 replace q0 := xw.cellF q0
 clear h hks hkid hcp hkr hnr hp hl
 simp only [nv, Tr.k, Tr.t, Tr.n, Tr.l, lC, lN, zA, Nat.reduceAdd] at hd hk HB pp c0 c1 c2 c3 ⊢
 clear K
 go_enter Tryz.func69, Tryz.ntmps69
 go_wp2
 go_loop [10] (fun i => ∃ _ : True, i = .int .i64 0) (fun i => 1 - (intOf i).toNat)
 case atStart => exact ⟨trivial, by simp⟩
 case round =>
  obtain ⟨_, hi⟩ := hrel
  rcases hi with rfl
  ·go_wp2_with ((first | (go_at_call 67; (first | refine (pl [[40]] hp1.out (lo HL.out)).mono ?_ | refine (pl [[41]] hp1.out (lo HL.out)).mono ?_); rintro e w67 ⟨rfl, hq, z_⟩) | (go_at_call 30; refine (ih.at _ Hc.out Ht.out hp1.out hd.out (lo HL.out)).mono ?_; rintro e w30 ⟨rfl, hq, z_⟩)) <;> (replace ⟨pp, hp1, HB, c0, c1, c2, c3⟩ := Q5 z_ pp hq HB hne; replace ⟨hd, hk, hT⟩ := D3 z_ hpb hd hk hT))
   try simp only [Exit.inBlock, Exit.then]
   refine be rfl rfl ?_
   exact ⟨rfl, hp1.out.cast (by simp), pp.out⟩

theorem within_35_o {N : Nat} (ih : TypP N) (k : Int) (t : Bs) (n : Int) (l : List Tr) (B pb : Nat) (L : List Pc) (w : World) (v : Value) (hp : PrAt B w pb L) (h : NT B w v (.mk k t n l)) (gk ck : Nat) (q0 : w.cell? ⟨gk, 0, none⟩ = some (.int .i64 35)) (hc : cnt (.mk k t n l) < N) (ht : isT (.mk k t n l) = true) (hk35 : ¬ k = 35) (hl : (L ++ (qT (.mk k t n l))).length ≤ 4398046511104) : Calls Tryz.prog 69 #[.pointer (some ⟨pb, 0, none⟩), v, .slice (some ⟨gk, 0, none⟩) 1 ck] w (Pts B pb w (L ++ (qT (.mk k t n l)))) := by
 have hsv := sv_list
 obtain ⟨p, c, rfl, hks, hkr, hnr, htl, hcp, hkid, hpb, hne, xw, pp, HB, ⟨c0, c1, c2, c3⟩, hd, hk, hT0, hT, hp1⟩ := hS hp h
 have HL := hid hl
 have K := hid hkid
 have hll := hid hcp.2
 have Hc := hid hc
 have Ht := hid ht
 clear hc ht
 replace q0 := xw.cellF q0
 have j0 : (k == 35) = false := by simpa using hk35
 clear hk35
 clear h hks hkid hcp hkr hnr hp hl
 simp only [nv, Tr.k, Tr.t, Tr.n, Tr.l, lC, lN, zA, Nat.reduceAdd] at hd hk HB pp c0 c1 c2 c3 ⊢
 clear K
 go_enter Tryz.func69, Tryz.ntmps69
 go_wp2
 go_loop [10] (fun i => ∃ _ : True, i = .int .i64 0 ∨ i = .int .i64 1) (fun i => 1 - (intOf i).toNat)
 case atStart => exact ⟨trivial, by simp⟩
 case round =>
  obtain ⟨_, hi⟩ := hrel
  rcases hi with rfl | rfl
  ·go_wp2
   go_round
   case rel => exact ⟨trivial, by simp⟩
   case measure => simp [intOf]
  ·go_wp2_with (go_at_call 30; refine (ih.at _ Hc.out Ht.out hp1.out hd.out (lo HL.out)).mono ?_; rintro e w30 ⟨rfl, hq, z_⟩; replace ⟨pp, hp1, HB, c0, c1, c2, c3⟩ := Q5 z_ pp hq HB hne; replace ⟨hd, hk, hT⟩ := D3 z_ hpb hd hk hT)
   try simp only [Exit.inBlock, Exit.then]
   refine be rfl rfl ?_
   exact ⟨rfl, hp1.out.cast (by simp), pp.out⟩

theorem within_35 {N : Nat} (ih : TypP N) {B pb : Nat} {L : List Pc} {w : World} {v : Value} (x : Tr) (hc : cnt x < N) (ht : isT x = true) {T : TypeId} {gk ck : Nat} (hg : w.heap.size = gk) (hp : PrAt B w pb L) (h : NT B w v x) (hl : (L ++ (wi1 x)).length ≤ 4398046511104) :
  Calls Tryz.prog 69 #[.pointer (some ⟨pb, 0, none⟩), v, .slice (some ⟨gk, 0, none⟩) 1 ck] (w.alloc (.cells #[.int .i64 35] T)) (Pts B pb w (L ++ (wi1 x))) := by
 subst hg
 have xa : Fx w (w.alloc (.cells #[.int .i64 35] T)) := Ext.alloc _ _ _
 refine Calls.mono (R := Pts B pb (w.alloc (.cells #[.int .i64 35] T)) (L ++ (wi1 x))) ?_ fun _ _ k => ⟨k.1, k.2.1, (Px.of xa).trans k.2.2⟩
 obtain ⟨k, t, n, l⟩ := x
 by_cases h35 : k = 35
 ·subst h35
  have e : wi1 (.mk 35 t n l) = [wd [40]] ++ qT (.mk 35 t n l) ++ [wd [41]] := if_pos (by simp [Tr.k])
  rw [e] at hl ⊢
  exact within_35_35 ih t n l B pb L _ v (hp.keepF xa) (h.keepF xa) _ ck (cell_alloc _ _ _ 0 _ rfl) hc ht hl
 have e : wi1 (.mk k t n l) = qT (.mk k t n l) := if_neg (by simp [Tr.k, h35])
 rw [e] at hl ⊢
 exact within_35_o ih k t n l B pb L _ v (hp.keepF xa) (h.keepF xa) _ ck (cell_alloc _ _ _ 0 _ rfl) hc ht h35 hl

theorem ty30 (t : Bs) (B pb : Nat) (L : List Pc) (w : World) (v : Value) (hp : PrAt B w pb L) (h : NT B w v (.mk 30 t 0 []))  (hl : (L ++ ([wd t])).length ≤ 4398046511104) : Calls Tryz.prog 30 #[.pointer (some ⟨pb, 0, none⟩), v] w (Pts B pb w (L ++ ([wd t]))) := by
 have hsv := sv_list
 obtain ⟨p, c, rfl, hks, hkr, hnr, htl, hcp, hkid, hpb, hne, xw, pp, HB, ⟨c0, c1, c2, c3⟩, hd, hk, hT0, hT, hp1⟩ := hS hp h
 have HL := hid hl
 have K := hid hkid
 have hll := hid hcp.2
 clear h hks hkid hcp hkr hnr hp hl
 simp only [nv, Tr.k, Tr.t, Tr.n, Tr.l, lC, lN, zA, Nat.reduceAdd] at hd hk HB pp c0 c1 c2 c3 ⊢
 clear K
 go_enter Tryz.func30, Tryz.ntmps30
 go_wp2_with (go_at_call 67; refine (pl [t] hp1.out (lo HL.out)).mono ?_; rintro e w67 ⟨rfl, hq, z_⟩; replace ⟨pp, hp1, HB, c0, c1, c2, c3⟩ := Q5 z_ pp hq HB hne; replace ⟨hd, hk, hT⟩ := D3 z_ hpb hd hk hT)
 try simp only [Exit.inBlock, Exit.then]
 refine be rfl rfl ?_
 exact ⟨rfl, hp1.out.cast (by simp), pp.out⟩

theorem ty31 {N : Nat} (ih : TypP N) (ya : Tr) (B pb : Nat) (L : List Pc) (w : World) (v : Value) (hp : PrAt B w pb L) (h : NT B w v (.mk 31 [] 0 [ya])) (hc : cnt ya < N) (ha1 : isT ya = true) (hl : (L ++ (wi2 ya ++ [wd [91, 93]])).length ≤ 4398046511104) : Calls Tryz.prog 30 #[.pointer (some ⟨pb, 0, none⟩), v] w (Pts B pb w (L ++ (wi2 ya ++ [wd [91, 93]]))) := by
 have hsv := sv_list
 obtain ⟨p, c, rfl, hks, hkr, hnr, htl, hcp, hkid, hpb, hne, xw, pp, HB, ⟨c0, c1, c2, c3⟩, hd, hk, hT0, hT, hp1⟩ := hS hp h
 have HL := hid hl
 have K := hid hkid
 have hll := hid hcp.2
 have Hc := hid hc
 have H1 := hid ha1
 clear hc ha1
 clear h hks hkid hcp hkr hnr hp hl
 simp only [nv, Tr.k, Tr.t, Tr.n, Tr.l, lC, lN, zA, Nat.reduceAdd] at hd hk HB pp c0 c1 c2 c3 ⊢
 obtain ⟨g, o, s0, rfl, hgB, a0, a1, a2, a3, ha⟩ := K.out 0 (by simp)
 simp only [gZ, gS, zM, oM, aZ, lC, lN, zA, Nat.reduceAdd, Nat.reduceMul] at *
 replace ⟨a0, a1, a2, a3⟩ := F4 xw a0 a1 a2 a3
 replace ha := hid ((NT.mk ha hT0.out).keepF xw)
 simp only [nv] at ha
 obtain ⟨sla, hsa, hksa, _⟩ := id ha.out.node.open
 obtain ⟨pa, cca, hva, _⟩ := hksa.kid
 obtain rfl : s0 = .slice pa ya.l.length cca := by rw [← hva]; simpa [nv] using hsa
 clear hsa hksa hva
 clear K
 go_enter Tryz.func30, Tryz.ntmps30
 go_wp2_with ((first | (go_at_call 69; refine (within_32_35 ih ya Hc.out H1.out (by first | rfl | exact alloc_size _ _) hp1.out ha.out (lo HL.out)).mono ?_; rintro e w69 ⟨rfl, hq, z_⟩) | (go_at_call 67; refine (pl [[91, 93]] hp1.out (lo HL.out)).mono ?_; rintro e w67 ⟨rfl, hq, z_⟩)) <;> (replace ⟨pp, hp1, HB, c0, c1, c2, c3⟩ := Q5 z_ pp hq HB hne; replace ⟨a0, a1, a2, a3⟩ := P4 z_ hpb.out hgB a0 a1 a2 a3; replace ha := hid (ha.out.keepP z_ hpb.out); replace ⟨hd, hk, hT⟩ := D3 z_ hpb hd hk hT))
 try simp only [Exit.inBlock, Exit.then]
 refine be rfl rfl ?_
 exact ⟨rfl, hp1.out.cast (by simp), pp.out⟩

theorem ty32 {N : Nat} (ih : TypP N) (l : List Tr) (B pb : Nat) (L : List Pc) (w : World) (v : Value) (hp : PrAt B w pb L) (h : NT B w v (.mk 32 [] 0 l)) (hc : cnts l < N) (hu : unionOk l = true) (hl : (L ++ (unionP true l)).length ≤ 4398046511104) : Calls Tryz.prog 30 #[.pointer (some ⟨pb, 0, none⟩), v] w (Pts B pb w (L ++ (unionP true l))) := by
 have hsv := sv_list
 obtain ⟨p, c, rfl, hks, hkr, hnr, htl, hcp, hkid, hpb, hne, xw, pp, HB, ⟨c0, c1, c2, c3⟩, hd, hk, hT0, hT, hp1⟩ := hS hp h
 have HL := hid hl
 have K := hid hkid
 have hll := hid hcp.2
 have Hc := hid hc
 have Hu := hid (union_mem hu)
 clear hc hu
 clear h hks hkid hcp hkr hnr hp hl
 simp only [nv, Tr.k, Tr.t, Tr.n, Tr.l, lC, lN, zA, Nat.reduceAdd] at hd hk HB pp c0 c1 c2 c3 ⊢
 go_enter Tryz.func30, Tryz.ntmps30
 go_wp2
 have pp0 := hid pp.out
 have hpL := hid (hp1.out.cast (show _ = L by simp))
 have hLL := hid (show (L ++ unionP true (l)).length ≤ 4398046511104 from by have hL := HL.out; simp only [lA, lC, lN, lM, mC, mN] at hL ⊢; omega)
 have HB0 := hid HB.out
 clear c0 c1 c2 c3 HB hd
 clear hp1 pp hk hT
 go_loopw [35] (fun i wr => ∃ j : Nat, j ≤ l.length ∧ i = .int .i64 j ∧ Hid (PrAt B wr pb (L ++ unionP true (l.take j))) ∧ Hid (Px B pb (w.alloc (.cells #[.int .i64 32, .string (sv []), .int .i64 0, .slice p (List.length l) c] 24)) wr)) (fun i _ => l.length - (intOf i).toNat)
 case atStart => exact ⟨0, Nat.zero_le _, rfl, hid (hpL.out.cast (by simp [unionP])), hid (Px.refl _ _ _)⟩
 case round =>
  obtain ⟨j, hj, rfl, hpr, hpx⟩ := hrel
  have qq := hid (pp0.out.trans hpx.out)
  have hj4 : (j : Int) ≤ 4398046511104 := by have := hll.out; omega
  have HB := hid (hpx.out.loc HB0.out hne (by decide))
  obtain ⟨c0, c1, c2, c3⟩ := blk4 HB.out
  by_cases hlt : j < l.length
  ·obtain ⟨hs1, hs2⟩ := unionP_split hlt
   have hLj := hLL.out
   rw [hs1] at hLj
   clear hs1
   obtain ⟨g, o, s, rfl, hgB, e0, e1, e2, e3, hy⟩ := K.out j hlt
   have Hm := hid (Hu.out l[j] (List.getElem_mem hlt))
   have Hcy := hid (cnt_mem (List.getElem_mem hlt))
   generalize l[j] = y at *
   obtain ⟨sl', hs', hks', _⟩ := id hy.open
   obtain rfl : s = sl' := by simpa [nv] using hs'
   clear hs'
   obtain ⟨p', c', rfl, _⟩ := hks'.kid
   clear hks'
   replace ⟨e0, e1, e2, e3⟩ := P4 qq.out hpb.out hgB e0 e1 e2 e3
   have xa : Fx wr (wr.alloc (.cells #[.int .i64 y.k, .string (sv y.t), .int .i64 y.n, .slice p' y.l.length c'] 24)) := Ext.alloc _ _ _
   have hneC : wr.heap.size ≠ pb := by have := hpr.out.lt; omega
   have HC := hid (heap_new wr (.cells #[.int .i64 y.k, .string (sv y.t), .int .i64 y.n, .slice p' y.l.length c'] 24))
   obtain ⟨d0, d1, d2, d3⟩ := nd_cells wr y.k y.n (sv y.t) (.slice p' y.l.length c')
   have hdy := hid (((NT.mk hy hT0.out).keepP qq.out hpb.out).keepF xa)
   have hT := hid ((hT0.out.keepP qq.out hpb.out).keepF xa)
   have hp1 := hid (hpr.out.keepF xa)
   have pp := hid (hpx.out.fx xa)
   simp only [nv] at hdy
   replace HB := hid ((Px.of (B := B) (pb := pb) xa).loc HB.out hne (by decide))
   replace ⟨c0, c1, c2, c3⟩ := F4 xa c0 c1 c2 c3
   clear hy hpr hpx qq
   replace hs2 := hid hs2
   replace hLj := hid hLj
   rcases Nat.eq_zero_or_pos j with hj0 | hj0
   ·have hz0 : ¬ (0 : Int) < (j : Int) := by omega
    rw [show sepP j [32, 124, 32] = [] from by rw [hj0]; rfl] at hs2 hLj
    have HLj := hid hLj.out
    replace hj0 := hid hj0
    clear hLj
    go_wp2_with (go_at_call 69; refine (within_35 ih y (Nat.lt_of_le_of_lt Hcy.out Hc.out) Hm.out.1 (by first | rfl | exact alloc_size _ _) hp1.out hdy.out (lo HLj.out)).mono ?_; rintro e w69 ⟨rfl, hq, z_⟩; replace ⟨pp, hp1, HB, c0, c1, c2, c3⟩ := Q5 z_ pp hq HB hne; replace HC := hid (z_.loc HC.out hneC (by decide)); replace ⟨d0, d1, d2, d3⟩ := blk4 HC.out; replace hdy := hid (hdy.out.keepP z_ hpb.out); replace hT := hid (hT.out.keepP z_ hpb.out))
    go_roundw
    case rel => exact ⟨j + 1, by omega, by go_num, hid (hp1.out.cast (by rw [hs2.out]; simp)), hid pp.out⟩
    case measure => simp [intOf]; omega
   ·have hz0 : (0 : Int) < (j : Int) := by omega
    rw [sepP_s hj0] at hs2 hLj
    have HLj := hid hLj.out
    replace hj0 := hid hj0
    clear hLj
    go_wp2_with ((first | (go_at_call 67; refine (pl [[32, 124, 32]] hp1.out (lo HLj.out)).mono ?_; rintro e w67 ⟨rfl, hq, z_⟩) | (go_at_call 69; refine (within_35 ih y (Nat.lt_of_le_of_lt Hcy.out Hc.out) Hm.out.1 (by first | rfl | exact alloc_size _ _) hp1.out hdy.out (lo HLj.out)).mono ?_; rintro e w69 ⟨rfl, hq, z_⟩)) <;> (replace ⟨pp, hp1, HB, c0, c1, c2, c3⟩ := Q5 z_ pp hq HB hne; replace HC := hid (z_.loc HC.out hneC (by decide)); replace ⟨d0, d1, d2, d3⟩ := blk4 HC.out; replace hdy := hid (hdy.out.keepP z_ hpb.out); replace hT := hid (hT.out.keepP z_ hpb.out)))
    go_roundw
    case rel => exact ⟨j + 1, by omega, by go_num, hid (hp1.out.cast (by rw [hs2.out]; simp)), hid pp.out⟩
    case measure => simp [intOf]; omega
  ·have hp1 := hid (hpr.out.cast (show _ = L ++ unionP true (l) by rw [List.take_of_length_le (by omega)]))
   have pp := hid (pp0.out.trans hpx.out)
   have hT := hid (hT0.out.keepP qq.out hpb.out)
   clear hpr hpx qq
   go_wp2_with fail
   try simp only [Exit.inBlock, Exit.then]
   refine be rfl rfl ?_
   exact ⟨rfl, hp1.out.cast (by simp), pp.out⟩

theorem ty33_0  (B pb : Nat) (L : List Pc) (w : World) (v : Value) (hp : PrAt B w pb L) (h : NT B w v (.mk 33 [] 0 []))  (hl : (L ++ ([wd [123, 125]])).length ≤ 4398046511104) : Calls Tryz.prog 30 #[.pointer (some ⟨pb, 0, none⟩), v] w (Pts B pb w (L ++ ([wd [123, 125]]))) := by
 have hsv := sv_list
 obtain ⟨p, c, rfl, hks, hkr, hnr, htl, hcp, hkid, hpb, hne, xw, pp, HB, ⟨c0, c1, c2, c3⟩, hd, hk, hT0, hT, hp1⟩ := hS hp h
 have HL := hid hl
 have K := hid hkid
 have hll := hid hcp.2
 clear h hks hkid hcp hkr hnr hp hl
 simp only [nv, Tr.k, Tr.t, Tr.n, Tr.l, lC, lN, zA, Nat.reduceAdd] at hd hk HB pp c0 c1 c2 c3 ⊢
 clear K
 go_enter Tryz.func30, Tryz.ntmps30
 go_wp2_with (go_at_call 67; refine (pl [[123, 125]] hp1.out (lo HL.out)).mono ?_; rintro e w67 ⟨rfl, hq, z_⟩; replace ⟨pp, hp1, HB, c0, c1, c2, c3⟩ := Q5 z_ pp hq HB hne; replace ⟨hd, hk, hT⟩ := D3 z_ hpb hd hk hT)
 try simp only [Exit.inBlock, Exit.then]
 refine be rfl rfl ?_
 exact ⟨rfl, hp1.out.cast (by simp), pp.out⟩

theorem ty33 {N : Nat} (ih : TypP N) (l : List Tr) (B pb : Nat) (L : List Pc) (w : World) (v : Value) (hp : PrAt B w pb L) (h : NT B w v (.mk 33 [] 0 l)) (hc : cnts l < N) (hpos : 0 < l.length) (hu : tpropsOk [] l = true) (hl : (L ++ ([wd [123, 32]] ++ tpropsP l ++ [wd [125]])).length ≤ 4398046511104) : Calls Tryz.prog 30 #[.pointer (some ⟨pb, 0, none⟩), v] w (Pts B pb w (L ++ ([wd [123, 32]] ++ tpropsP l ++ [wd [125]]))) := by
 have hsv := sv_list
 obtain ⟨p, c, rfl, hks, hkr, hnr, htl, hcp, hkid, hpb, hne, xw, pp, HB, ⟨c0, c1, c2, c3⟩, hd, hk, hT0, hT, hp1⟩ := hS hp h
 have HL := hid hl
 have K := hid hkid
 have hll := hid hcp.2
 have Hc := hid hc
 have Hu := hid (tprops_all hu).1
 have hne0 : ((l.length : Int) == 0) = false := beq_eq_false_iff_ne.2 (by omega)
 clear hc hu hpos
 clear h hks hkid hcp hkr hnr hp hl
 simp only [nv, Tr.k, Tr.t, Tr.n, Tr.l, lC, lN, zA, Nat.reduceAdd] at hd hk HB pp c0 c1 c2 c3 ⊢
 go_enter Tryz.func30, Tryz.ntmps30
 go_wp2_with (go_at_call 67; refine (pl [[123, 32]] hp1.out (lo HL.out)).mono ?_; rintro e w67 ⟨rfl, hq, z_⟩; replace ⟨pp, hp1, HB, c0, c1, c2, c3⟩ := Q5 z_ pp hq HB hne; replace ⟨hd, hk, hT⟩ := D3 z_ hpb hd hk hT)
 have pp0 := hid pp.out
 have hpL := hid (hp1.out.cast (show _ = (L ++ [wd [123, 32]]) by simp))
 have hLL := hid (show ((L ++ [wd [123, 32]]) ++ tpropsP (l)).length ≤ 4398046511104 from by have hL := HL.out; simp only [lA, lC, lN, lM, mC, mN] at hL ⊢; omega)
 have HB0 := hid HB.out
 clear c0 c1 c2 c3 HB hd
 clear hp1 pp hk hT
 go_loopw [63] (fun i wr => ∃ j : Nat, j ≤ l.length ∧ i = .int .i64 j ∧ Hid (PrAt B wr pb ((L ++ [wd [123, 32]]) ++ tpropsP (l.take j))) ∧ Hid (Px B pb w67 wr)) (fun i _ => l.length - (intOf i).toNat)
 case atStart => exact ⟨0, Nat.zero_le _, rfl, hid (hpL.out.cast (by simp [tpropsP])), hid (Px.refl _ _ _)⟩
 case round =>
  obtain ⟨j, hj, rfl, hpr, hpx⟩ := hrel
  have qq := hid (pp0.out.trans hpx.out)
  have hj4 : (j : Int) ≤ 4398046511104 := by have := hll.out; omega
  have HB := hid (hpx.out.loc HB0.out hne (by decide))
  obtain ⟨c0, c1, c2, c3⟩ := blk4 HB.out
  by_cases hlt : j < l.length
  ·obtain ⟨hs1, hs2⟩ := tpropsP_split hlt
   have hLj := hLL.out
   rw [hs1] at hLj
   clear hs1
   obtain ⟨kt, z, hy0, hsg, htz, _⟩ := Hu.out l[j] (List.getElem_mem hlt)
   obtain ⟨g, o, s, rfl, hgB, e0, e1, e2, e3, hy⟩ := K.out j hlt
   have Hcz := hid (show cnt z < N from by have h6 := cnt_mem (List.getElem_mem hlt); rw [hy0] at h6; have h7 := Hc.out; simp only [cnt, cnts] at h6; omega)
   have Htz := hid htz
   clear htz hsg
   rw [hy0] at e0 e1 e2 hy hs2 hLj
   simp only [Tr.k, Tr.t, Tr.n] at e0 e1 e2
   obtain ⟨sl', hs', hks', _, _, htl'⟩ := id hy.open
   obtain rfl : s = sl' := by simpa [nv, Tr.k, Tr.t, Tr.n] using hs'
   simp only [Tr.k, Tr.t, Tr.n, Tr.l] at hks' htl'
   obtain ⟨p', c', rfl, _, hkid'⟩ := hks'.kid
   have K' := hid hkid'
   clear hs' hks' hy0 hkid'
   simp only [lC, lN, zA] at *
   obtain ⟨g', o', s', rfl, hgz, z0, z1, z2, z3, hz⟩ := K'.out 0 (by simp)
   simp only [gZ] at z0 z1 z2 hz
   obtain ⟨slz, hsz, hksz, _⟩ := id hz.open
   obtain rfl : s' = slz := by simpa [nv] using hsz
   clear hsz K'
   obtain ⟨pz, cz, rfl, _⟩ := hksz.kid
   clear hksz
   simp only [zM, aZ, gZ] at z0 z1 z2 z3
   replace ⟨z0, z1, z2, z3⟩ := P4 qq.out hpb.out hgz z0 z1 z2 z3
   replace ⟨e0, e1, e2, e3⟩ := P4 qq.out hpb.out hgB e0 e1 e2 e3
   have xa : Fx wr (wr.alloc (.cells #[.int .i64 34, .string (sv kt), .int .i64 0, .slice (some ⟨g', o', none⟩) 1 c'] 24)) := Ext.alloc _ _ _
   have hneC : wr.heap.size ≠ pb := by have := hpr.out.lt; omega
   have HC := hid (heap_new wr (.cells #[.int .i64 34, .string (sv kt), .int .i64 0, .slice (some ⟨g', o', none⟩) 1 c'] 24))
   obtain ⟨d0, d1, d2, d3⟩ := nd_cells wr 34 0 (sv kt) (.slice (some ⟨g', o', none⟩) 1 c')
   have hdy := hid (((NT.mk hy hT0.out).keepP qq.out hpb.out).keepF xa)
   have hT := hid ((hT0.out.keepP qq.out hpb.out).keepF xa)
   have hp1 := hid (hpr.out.keepF xa)
   have pp := hid (hpx.out.fx xa)
   replace ⟨z0, z1, z2, z3⟩ := F4 xa z0 z1 z2 z3
   replace hz := hid (((NT.mk hz hT0.out).keepP qq.out hpb.out).keepF xa)
   simp only [nv, Tr.k, Tr.t, Tr.n, Tr.l, lC, lN, zA] at hdy
   simp only [nv] at hz
   replace HB := hid ((Px.of (B := B) (pb := pb) xa).loc HB.out hne (by decide))
   replace ⟨c0, c1, c2, c3⟩ := F4 xa c0 c1 c2 c3
   clear hy hpr hpx qq
   simp only [tprE, Tr.l, Tr.t] at hs2 hLj
   replace hs2 := hid hs2
   replace hLj := hid hLj
   have HLj := hid hLj.out
   clear hLj
   go_wp2_with ((first | (go_at_call 67; (first | refine (pl [kt, [58, 32]] hp1.out (lo HLj.out)).mono ?_ | refine (pl [[59, 32]] hp1.out (lo HLj.out)).mono ?_); rintro e w67 ⟨rfl, hq, z_⟩) | (go_at_call 30; refine (ih.at z Hcz.out Htz.out hp1.out hz.out (lo HLj.out)).mono ?_; rintro e w30 ⟨rfl, hq, z_⟩)) <;> (replace ⟨pp, hp1, HB, c0, c1, c2, c3⟩ := Q5 z_ pp hq HB hne; replace HC := hid (z_.loc HC.out hneC (by decide)); replace ⟨d0, d1, d2, d3⟩ := blk4 HC.out; replace ⟨z0, z1, z2, z3⟩ := P4 z_ hpb.out hgz z0 z1 z2 z3; replace hz := hid (hz.out.keepP z_ hpb.out); replace hdy := hid (hdy.out.keepP z_ hpb.out); replace hT := hid (hT.out.keepP z_ hpb.out)))
   go_roundw
   case rel => exact ⟨j + 1, by omega, by go_num, hid (hp1.out.cast (by rw [hs2.out]; simp [tprE, Tr.l, Tr.t])), hid pp.out⟩
   case measure => simp [intOf]; omega
  ·have hp1 := hid (hpr.out.cast (show _ = (L ++ [wd [123, 32]]) ++ tpropsP (l) by rw [List.take_of_length_le (by omega)]))
   have pp := hid (pp0.out.trans hpx.out)
   have hT := hid (hT0.out.keepP qq.out hpb.out)
   clear hpr hpx qq
   go_wp2_with (go_at_call 67; refine (pl [[125]] hp1.out (lo HL.out)).mono ?_; rintro e w67 ⟨rfl, hq, z_⟩; replace ⟨pp, hp1, HB, c0, c1, c2, c3⟩ := Q5 z_ pp hq HB hne; replace hT := hid (hT.out.keepP z_ hpb.out))
   try simp only [Exit.inBlock, Exit.then]
   refine be rfl rfl ?_
   exact ⟨rfl, hp1.out.cast (by simp), pp.out⟩

theorem pms_true {N : Nat} (ih : TypP N) (l : List Tr) (B pb : Nat) (L : List Pc) (w : World) (v : Value) (hp : PrAt B w pb L) (h : NT B w v (.mk 12 [] 0 l)) (hc : cnts l < N) (hu : pms true [] l = true) (hl : (L ++ ([wd [40]] ++ parsP true l ++ [wd [41]])).length ≤ 4398046511104) : Calls Tryz.prog 70 #[.pointer (some ⟨pb, 0, none⟩), v] w (Pts B pb w (L ++ ([wd [40]] ++ parsP true l ++ [wd [41]]))) := by
 have hsv := sv_list
 obtain ⟨p, c, rfl, hks, hkr, hnr, htl, hcp, hkid, hpb, hne, xw, pp, HB, ⟨c0, c1, c2, c3⟩, hd, hk, hT0, hT, hp1⟩ := hS hp h
 have HL := hid hl
 have K := hid hkid
 have hll := hid hcp.2
 have Hc := hid hc
 have Hu := hid (pms_all hu).1
 clear hc hu
 clear h hks hkid hcp hkr hnr hp hl
 simp only [nv, Tr.k, Tr.t, Tr.n, Tr.l, lC, lN, zA, Nat.reduceAdd] at hd hk HB pp c0 c1 c2 c3 ⊢
 go_enter Tryz.func70, Tryz.ntmps70
 go_wp2_with (go_at_call 67; refine (pl [[40]] hp1.out (lo HL.out)).mono ?_; rintro e w67 ⟨rfl, hq, z_⟩; replace ⟨pp, hp1, HB, c0, c1, c2, c3⟩ := Q5 z_ pp hq HB hne; replace ⟨hd, hk, hT⟩ := D3 z_ hpb hd hk hT)
 have pp0 := hid pp.out
 have hpL := hid (hp1.out.cast (show _ = (L ++ [wd [40]]) by simp))
 have hLL := hid (show ((L ++ [wd [40]]) ++ parsP true (l)).length ≤ 4398046511104 from by have hL := HL.out; simp only [lA, lC, lN, lM, mC, mN] at hL ⊢; omega)
 have HB0 := hid HB.out
 clear c0 c1 c2 c3 HB hd
 clear hp1 pp hk hT
 go_loopw [12] (fun i wr => ∃ j : Nat, j ≤ l.length ∧ i = .int .i64 j ∧ Hid (PrAt B wr pb ((L ++ [wd [40]]) ++ parsP true (l.take j))) ∧ Hid (Px B pb w67 wr)) (fun i _ => l.length - (intOf i).toNat)
 case atStart => exact ⟨0, Nat.zero_le _, rfl, hid (hpL.out.cast (by simp [parsP])), hid (Px.refl _ _ _)⟩
 case round =>
  obtain ⟨j, hj, rfl, hpr, hpx⟩ := hrel
  have qq := hid (pp0.out.trans hpx.out)
  have hj4 : (j : Int) ≤ 4398046511104 := by have := hll.out; omega
  have HB := hid (hpx.out.loc HB0.out hne (by decide))
  obtain ⟨c0, c1, c2, c3⟩ := blk4 HB.out
  by_cases hlt : j < l.length
  ·obtain ⟨hs1, hs2⟩ := parsP_split hlt
   have hLj := hLL.out
   rw [hs1] at hLj
   clear hs1
   obtain ⟨kt, z, hy0, hsg, htz, _⟩ := Hu.out l[j] (List.getElem_mem hlt)
   obtain ⟨g, o, s, rfl, hgB, e0, e1, e2, e3, hy⟩ := K.out j hlt
   have Hcz := hid (show cnt z < N from by have h6 := cnt_mem (List.getElem_mem hlt); rw [hy0] at h6; have h7 := Hc.out; simp only [cnt, cnts] at h6; omega)
   have Htz := hid htz
   clear htz hsg
   rw [hy0] at e0 e1 e2 hy hs2 hLj
   simp only [Tr.k, Tr.t, Tr.n] at e0 e1 e2
   obtain ⟨sl', hs', hks', _, _, htl'⟩ := id hy.open
   obtain rfl : s = sl' := by simpa [nv, Tr.k, Tr.t, Tr.n] using hs'
   simp only [Tr.k, Tr.t, Tr.n, Tr.l] at hks' htl'
   obtain ⟨p', c', rfl, _, hkid'⟩ := hks'.kid
   have K' := hid hkid'
   clear hs' hks' hy0 hkid'
   simp only [lC, lN, zA] at *
   obtain ⟨g', o', s', rfl, hgz, z0, z1, z2, z3, hz⟩ := K'.out 0 (by simp)
   simp only [gZ] at z0 z1 z2 hz
   obtain ⟨slz, hsz, hksz, _⟩ := id hz.open
   obtain rfl : s' = slz := by simpa [nv] using hsz
   clear hsz K'
   obtain ⟨pz, cz, rfl, _⟩ := hksz.kid
   clear hksz
   simp only [zM, aZ, gZ] at z0 z1 z2 z3
   replace ⟨z0, z1, z2, z3⟩ := P4 qq.out hpb.out hgz z0 z1 z2 z3
   replace ⟨e0, e1, e2, e3⟩ := P4 qq.out hpb.out hgB e0 e1 e2 e3
   have xa : Fx wr (wr.alloc (.cells #[.int .i64 13, .string (sv kt), .int .i64 0, .slice (some ⟨g', o', none⟩) 1 c'] 24)) := Ext.alloc _ _ _
   have hneC : wr.heap.size ≠ pb := by have := hpr.out.lt; omega
   have HC := hid (heap_new wr (.cells #[.int .i64 13, .string (sv kt), .int .i64 0, .slice (some ⟨g', o', none⟩) 1 c'] 24))
   obtain ⟨d0, d1, d2, d3⟩ := nd_cells wr 13 0 (sv kt) (.slice (some ⟨g', o', none⟩) 1 c')
   have hdy := hid (((NT.mk hy hT0.out).keepP qq.out hpb.out).keepF xa)
   have hT := hid ((hT0.out.keepP qq.out hpb.out).keepF xa)
   have hp1 := hid (hpr.out.keepF xa)
   have pp := hid (hpx.out.fx xa)
   replace ⟨z0, z1, z2, z3⟩ := F4 xa z0 z1 z2 z3
   replace hz := hid (((NT.mk hz hT0.out).keepP qq.out hpb.out).keepF xa)
   simp only [nv, Tr.k, Tr.t, Tr.n, Tr.l, lC, lN, zA] at hdy
   simp only [nv] at hz
   replace HB := hid ((Px.of (B := B) (pb := pb) xa).loc HB.out hne (by decide))
   replace ⟨c0, c1, c2, c3⟩ := F4 xa c0 c1 c2 c3
   clear hy hpr hpx qq
   simp only [parE, Tr.l, Tr.t] at hs2 hLj
   replace hs2 := hid hs2
   replace hLj := hid hLj
   rcases Nat.eq_zero_or_pos j with hj0 | hj0
   ·have hz0 : ¬ (0 : Int) < (j : Int) := by omega
    rw [show sepP j [44, 32] = [] from by rw [hj0]; rfl] at hs2 hLj
    have HLj := hid hLj.out
    replace hj0 := hid hj0
    clear hLj
    go_wp2_with ((first | (go_at_call 67; refine (pl [kt] hp1.out (lo HLj.out)).mono ?_; rintro e w67 ⟨rfl, hq, z_⟩) | (go_at_call 71; refine (tyOr_p ih z Hcz.out Htz.out hp1.out hz.out (lo HLj.out)).mono ?_; rintro e w71 ⟨rfl, hq, z_⟩)) <;> (replace ⟨pp, hp1, HB, c0, c1, c2, c3⟩ := Q5 z_ pp hq HB hne; replace HC := hid (z_.loc HC.out hneC (by decide)); replace ⟨d0, d1, d2, d3⟩ := blk4 HC.out; replace ⟨z0, z1, z2, z3⟩ := P4 z_ hpb.out hgz z0 z1 z2 z3; replace hz := hid (hz.out.keepP z_ hpb.out); replace hdy := hid (hdy.out.keepP z_ hpb.out); replace hT := hid (hT.out.keepP z_ hpb.out)))
    go_roundw
    case rel => exact ⟨j + 1, by omega, by go_num, hid (hp1.out.cast (by rw [hs2.out]; simp [parE, Tr.l, Tr.t])), hid pp.out⟩
    case measure => simp [intOf]; omega
   ·have hz0 : (0 : Int) < (j : Int) := by omega
    rw [sepP_s hj0] at hs2 hLj
    have HLj := hid hLj.out
    replace hj0 := hid hj0
    clear hLj
    go_wp2_with ((first | (go_at_call 67; (first | refine (pl [[44, 32]] hp1.out (lo HLj.out)).mono ?_ | refine (pl [kt] hp1.out (lo HLj.out)).mono ?_); rintro e w67 ⟨rfl, hq, z_⟩) | (go_at_call 71; refine (tyOr_p ih z Hcz.out Htz.out hp1.out hz.out (lo HLj.out)).mono ?_; rintro e w71 ⟨rfl, hq, z_⟩)) <;> (replace ⟨pp, hp1, HB, c0, c1, c2, c3⟩ := Q5 z_ pp hq HB hne; replace HC := hid (z_.loc HC.out hneC (by decide)); replace ⟨d0, d1, d2, d3⟩ := blk4 HC.out; replace ⟨z0, z1, z2, z3⟩ := P4 z_ hpb.out hgz z0 z1 z2 z3; replace hz := hid (hz.out.keepP z_ hpb.out); replace hdy := hid (hdy.out.keepP z_ hpb.out); replace hT := hid (hT.out.keepP z_ hpb.out)))
    go_roundw
    case rel => exact ⟨j + 1, by omega, by go_num, hid (hp1.out.cast (by rw [hs2.out]; simp [parE, Tr.l, Tr.t])), hid pp.out⟩
    case measure => simp [intOf]; omega
  ·have hp1 := hid (hpr.out.cast (show _ = (L ++ [wd [40]]) ++ parsP true (l) by rw [List.take_of_length_le (by omega)]))
   have pp := hid (pp0.out.trans hpx.out)
   have hT := hid (hT0.out.keepP qq.out hpb.out)
   clear hpr hpx qq
   go_wp2_with (go_at_call 67; refine (pl [[41]] hp1.out (lo HL.out)).mono ?_; rintro e w67 ⟨rfl, hq, z_⟩; replace ⟨pp, hp1, HB, c0, c1, c2, c3⟩ := Q5 z_ pp hq HB hne; replace hT := hid (hT.out.keepP z_ hpb.out))
   try simp only [Exit.inBlock, Exit.then]
   refine be rfl rfl ?_
   exact ⟨rfl, hp1.out.cast (by simp), pp.out⟩

theorem pms_false {N : Nat} (ih : TypP N) (l : List Tr) (B pb : Nat) (L : List Pc) (w : World) (v : Value) (hp : PrAt B w pb L) (h : NT B w v (.mk 12 [] 0 l)) (hc : cnts l < N) (hu : pms false [] l = true) (hl : (L ++ ([wd [40]] ++ parsP true l ++ [wd [41]])).length ≤ 4398046511104) : Calls Tryz.prog 70 #[.pointer (some ⟨pb, 0, none⟩), v] w (Pts B pb w (L ++ ([wd [40]] ++ parsP true l ++ [wd [41]]))) := by
 have hsv := sv_list
 obtain ⟨p, c, rfl, hks, hkr, hnr, htl, hcp, hkid, hpb, hne, xw, pp, HB, ⟨c0, c1, c2, c3⟩, hd, hk, hT0, hT, hp1⟩ := hS hp h
 have HL := hid hl
 have K := hid hkid
 have hll := hid hcp.2
 have Hc := hid hc
 have Hu := hid (pms_all hu).1
 clear hc hu
 clear h hks hkid hcp hkr hnr hp hl
 simp only [nv, Tr.k, Tr.t, Tr.n, Tr.l, lC, lN, zA, Nat.reduceAdd] at hd hk HB pp c0 c1 c2 c3 ⊢
 go_enter Tryz.func70, Tryz.ntmps70
 go_wp2_with (go_at_call 67; refine (pl [[40]] hp1.out (lo HL.out)).mono ?_; rintro e w67 ⟨rfl, hq, z_⟩; replace ⟨pp, hp1, HB, c0, c1, c2, c3⟩ := Q5 z_ pp hq HB hne; replace ⟨hd, hk, hT⟩ := D3 z_ hpb hd hk hT)
 have pp0 := hid pp.out
 have hpL := hid (hp1.out.cast (show _ = (L ++ [wd [40]]) by simp))
 have hLL := hid (show ((L ++ [wd [40]]) ++ parsP true (l)).length ≤ 4398046511104 from by have hL := HL.out; simp only [lA, lC, lN, lM, mC, mN] at hL ⊢; omega)
 have HB0 := hid HB.out
 clear c0 c1 c2 c3 HB hd
 clear hp1 pp hk hT
 go_loopw [12] (fun i wr => ∃ j : Nat, j ≤ l.length ∧ i = .int .i64 j ∧ Hid (PrAt B wr pb ((L ++ [wd [40]]) ++ parsP true (l.take j))) ∧ Hid (Px B pb w67 wr)) (fun i _ => l.length - (intOf i).toNat)
 case atStart => exact ⟨0, Nat.zero_le _, rfl, hid (hpL.out.cast (by simp [parsP])), hid (Px.refl _ _ _)⟩
 case round =>
  obtain ⟨j, hj, rfl, hpr, hpx⟩ := hrel
  have qq := hid (pp0.out.trans hpx.out)
  have hj4 : (j : Int) ≤ 4398046511104 := by have := hll.out; omega
  have HB := hid (hpx.out.loc HB0.out hne (by decide))
  obtain ⟨c0, c1, c2, c3⟩ := blk4 HB.out
  by_cases hlt : j < l.length
  ·obtain ⟨hs1, hs2⟩ := parsP_split hlt
   have hLj := hLL.out
   rw [hs1] at hLj
   clear hs1
   obtain ⟨kt, z, hy0, hsg, htz, _⟩ := Hu.out l[j] (List.getElem_mem hlt)
   obtain ⟨g, o, s, rfl, hgB, e0, e1, e2, e3, hy⟩ := K.out j hlt
   have Hcz := hid (show cnt z < N from by have h6 := cnt_mem (List.getElem_mem hlt); rw [hy0] at h6; have h7 := Hc.out; simp only [cnt, cnts] at h6; omega)
   have Htz := hid htz
   clear htz hsg
   rw [hy0] at e0 e1 e2 hy hs2 hLj
   simp only [Tr.k, Tr.t, Tr.n] at e0 e1 e2
   obtain ⟨sl', hs', hks', _, _, htl'⟩ := id hy.open
   obtain rfl : s = sl' := by simpa [nv, Tr.k, Tr.t, Tr.n] using hs'
   simp only [Tr.k, Tr.t, Tr.n, Tr.l] at hks' htl'
   obtain ⟨p', c', rfl, _, hkid'⟩ := hks'.kid
   have K' := hid hkid'
   clear hs' hks' hy0 hkid'
   simp only [lC, lN, zA] at *
   obtain ⟨g', o', s', rfl, hgz, z0, z1, z2, z3, hz⟩ := K'.out 0 (by simp)
   simp only [gZ] at z0 z1 z2 hz
   obtain ⟨slz, hsz, hksz, _⟩ := id hz.open
   obtain rfl : s' = slz := by simpa [nv] using hsz
   clear hsz K'
   obtain ⟨pz, cz, rfl, _⟩ := hksz.kid
   clear hksz
   simp only [zM, aZ, gZ] at z0 z1 z2 z3
   replace ⟨z0, z1, z2, z3⟩ := P4 qq.out hpb.out hgz z0 z1 z2 z3
   replace ⟨e0, e1, e2, e3⟩ := P4 qq.out hpb.out hgB e0 e1 e2 e3
   have xa : Fx wr (wr.alloc (.cells #[.int .i64 13, .string (sv kt), .int .i64 0, .slice (some ⟨g', o', none⟩) 1 c'] 24)) := Ext.alloc _ _ _
   have hneC : wr.heap.size ≠ pb := by have := hpr.out.lt; omega
   have HC := hid (heap_new wr (.cells #[.int .i64 13, .string (sv kt), .int .i64 0, .slice (some ⟨g', o', none⟩) 1 c'] 24))
   obtain ⟨d0, d1, d2, d3⟩ := nd_cells wr 13 0 (sv kt) (.slice (some ⟨g', o', none⟩) 1 c')
   have hdy := hid (((NT.mk hy hT0.out).keepP qq.out hpb.out).keepF xa)
   have hT := hid ((hT0.out.keepP qq.out hpb.out).keepF xa)
   have hp1 := hid (hpr.out.keepF xa)
   have pp := hid (hpx.out.fx xa)
   replace ⟨z0, z1, z2, z3⟩ := F4 xa z0 z1 z2 z3
   replace hz := hid (((NT.mk hz hT0.out).keepP qq.out hpb.out).keepF xa)
   simp only [nv, Tr.k, Tr.t, Tr.n, Tr.l, lC, lN, zA] at hdy
   simp only [nv] at hz
   replace HB := hid ((Px.of (B := B) (pb := pb) xa).loc HB.out hne (by decide))
   replace ⟨c0, c1, c2, c3⟩ := F4 xa c0 c1 c2 c3
   clear hy hpr hpx qq
   simp only [parE, Tr.l, Tr.t] at hs2 hLj
   replace hs2 := hid hs2
   replace hLj := hid hLj
   rcases Nat.eq_zero_or_pos j with hj0 | hj0
   ·have hz0 : ¬ (0 : Int) < (j : Int) := by omega
    rw [show sepP j [44, 32] = [] from by rw [hj0]; rfl] at hs2 hLj
    have HLj := hid hLj.out
    replace hj0 := hid hj0
    clear hLj
    go_wp2_with ((first | (go_at_call 67; refine (pl [kt] hp1.out (lo HLj.out)).mono ?_; rintro e w67 ⟨rfl, hq, z_⟩) | (go_at_call 71; refine (tyOr_p ih z Hcz.out Htz.out hp1.out hz.out (lo HLj.out)).mono ?_; rintro e w71 ⟨rfl, hq, z_⟩)) <;> (replace ⟨pp, hp1, HB, c0, c1, c2, c3⟩ := Q5 z_ pp hq HB hne; replace HC := hid (z_.loc HC.out hneC (by decide)); replace ⟨d0, d1, d2, d3⟩ := blk4 HC.out; replace ⟨z0, z1, z2, z3⟩ := P4 z_ hpb.out hgz z0 z1 z2 z3; replace hz := hid (hz.out.keepP z_ hpb.out); replace hdy := hid (hdy.out.keepP z_ hpb.out); replace hT := hid (hT.out.keepP z_ hpb.out)))
    go_roundw
    case rel => exact ⟨j + 1, by omega, by go_num, hid (hp1.out.cast (by rw [hs2.out]; simp [parE, Tr.l, Tr.t])), hid pp.out⟩
    case measure => simp [intOf]; omega
   ·have hz0 : (0 : Int) < (j : Int) := by omega
    rw [sepP_s hj0] at hs2 hLj
    have HLj := hid hLj.out
    replace hj0 := hid hj0
    clear hLj
    go_wp2_with ((first | (go_at_call 67; (first | refine (pl [[44, 32]] hp1.out (lo HLj.out)).mono ?_ | refine (pl [kt] hp1.out (lo HLj.out)).mono ?_); rintro e w67 ⟨rfl, hq, z_⟩) | (go_at_call 71; refine (tyOr_p ih z Hcz.out Htz.out hp1.out hz.out (lo HLj.out)).mono ?_; rintro e w71 ⟨rfl, hq, z_⟩)) <;> (replace ⟨pp, hp1, HB, c0, c1, c2, c3⟩ := Q5 z_ pp hq HB hne; replace HC := hid (z_.loc HC.out hneC (by decide)); replace ⟨d0, d1, d2, d3⟩ := blk4 HC.out; replace ⟨z0, z1, z2, z3⟩ := P4 z_ hpb.out hgz z0 z1 z2 z3; replace hz := hid (hz.out.keepP z_ hpb.out); replace hdy := hid (hdy.out.keepP z_ hpb.out); replace hT := hid (hT.out.keepP z_ hpb.out)))
    go_roundw
    case rel => exact ⟨j + 1, by omega, by go_num, hid (hp1.out.cast (by rw [hs2.out]; simp [parE, Tr.l, Tr.t])), hid pp.out⟩
    case measure => simp [intOf]; omega
  ·have hp1 := hid (hpr.out.cast (show _ = (L ++ [wd [40]]) ++ parsP true (l) by rw [List.take_of_length_le (by omega)]))
   have pp := hid (pp0.out.trans hpx.out)
   have hT := hid (hT0.out.keepP qq.out hpb.out)
   clear hpr hpx qq
   go_wp2_with (go_at_call 67; refine (pl [[41]] hp1.out (lo HL.out)).mono ?_; rintro e w67 ⟨rfl, hq, z_⟩; replace ⟨pp, hp1, HB, c0, c1, c2, c3⟩ := Q5 z_ pp hq HB hne; replace hT := hid (hT.out.keepP z_ hpb.out))
   try simp only [Exit.inBlock, Exit.then]
   refine be rfl rfl ?_
   exact ⟨rfl, hp1.out.cast (by simp), pp.out⟩

theorem params_p {N : Nat} (ih : TypP N) (typed : Bool) (x : Tr) (hc : cnt x < N + 1) (ht : isPms typed x = true) {B pb : Nat} {L : List Pc} {w : World} {v : Value} (hp : PrAt B w pb L) (h : NT B w v x) (hl : (L ++ pmsP x).length ≤ 4398046511104) : Calls Tryz.prog 70 #[.pointer (some ⟨pb, 0, none⟩), v] w (Pts B pb w (L ++ pmsP x)) := by
 obtain ⟨pk, pt, pn, m⟩ := x
 simp [isPms, plainT, Tr.k, Tr.t, Tr.n, Tr.l] at ht
 obtain ⟨⟨rfl, rfl, rfl⟩, hm⟩ := ht
 have hc' : cnts m < N := by simp only [cnt] at hc; omega
 cases typed
 ·exact pms_false ih m B pb L w v hp h hc' hm hl
 ·exact pms_true ih m B pb L w v hp h hc' hm hl

theorem ty35 {N : Nat} (ih : TypP N) (ya yb : Tr) (B pb : Nat) (L : List Pc) (w : World) (v : Value) (hp : PrAt B w pb L) (h : NT B w v (.mk 35 [] 0 [ya, yb])) (hc : cnt ya < N + 1) (hc2 : cnt yb < N) (ha1 : isPms true ya = true) (hb1 : isT yb = true) (hl : (L ++ (pmsP ya ++ [wd [32, 61, 62, 32]] ++ qT yb)).length ≤ 4398046511104) : Calls Tryz.prog 30 #[.pointer (some ⟨pb, 0, none⟩), v] w (Pts B pb w (L ++ (pmsP ya ++ [wd [32, 61, 62, 32]] ++ qT yb))) := by
 have hsv := sv_list
 obtain ⟨p, c, rfl, hks, hkr, hnr, htl, hcp, hkid, hpb, hne, xw, pp, HB, ⟨c0, c1, c2, c3⟩, hd, hk, hT0, hT, hp1⟩ := hS hp h
 have HL := hid hl
 have K := hid hkid
 have hll := hid hcp.2
 have Hc := hid hc
 have Hc2 := hid hc2
 have H1 := hid ha1
 have H2 := hid hb1
 clear hc hc2 ha1 hb1
 clear h hks hkid hcp hkr hnr hp hl
 simp only [nv, Tr.k, Tr.t, Tr.n, Tr.l, lC, lN, zA, Nat.reduceAdd] at hd hk HB pp c0 c1 c2 c3 ⊢
 obtain ⟨g, o, s0, rfl, hgB, a0, a1, a2, a3, ha⟩ := K.out 0 (by simp)
 obtain ⟨g1, o1, s1, hgo, hgB1, b0, b1, b2, b3, hb⟩ := K.out 1 (by simp)
 simp only [Option.some.injEq, Addr.mk.injEq, and_true] at hgo
 obtain ⟨rfl, rfl⟩ := hgo
 simp only [gZ, gS, zM, oM, aZ, lC, lN, zA, Nat.reduceAdd, Nat.reduceMul] at *
 replace ⟨a0, a1, a2, a3⟩ := F4 xw a0 a1 a2 a3
 replace ha := hid ((NT.mk ha hT0.out).keepF xw)
 simp only [nv] at ha
 obtain ⟨sla, hsa, hksa, _⟩ := id ha.out.node.open
 obtain ⟨pa, cca, hva, _⟩ := hksa.kid
 obtain rfl : s0 = .slice pa ya.l.length cca := by rw [← hva]; simpa [nv] using hsa
 clear hsa hksa hva
 replace ⟨b0, b1, b2, b3⟩ := F4 xw b0 b1 b2 b3
 replace hb := hid ((NT.mk hb hT0.out).keepF xw)
 simp only [nv] at hb
 obtain ⟨slb, hsb, hksb, _⟩ := id hb.out.node.open
 obtain ⟨pb, ccb, hvb, _⟩ := hksb.kid
 obtain rfl : s1 = .slice pb yb.l.length ccb := by rw [← hvb]; simpa [nv] using hsb
 clear hsb hksb hvb
 clear K
 go_enter Tryz.func30, Tryz.ntmps30
 go_wp2_with ((first | (go_at_call 70; refine (params_p ih true ya Hc.out H1.out hp1.out ha.out (lo HL.out)).mono ?_; rintro e w70 ⟨rfl, hq, z_⟩) | (go_at_call 67; refine (pl [[32, 61, 62, 32]] hp1.out (lo HL.out)).mono ?_; rintro e w67 ⟨rfl, hq, z_⟩) | (go_at_call 30; refine (ih.at yb Hc2.out H2.out hp1.out hb.out (lo HL.out)).mono ?_; rintro e w30 ⟨rfl, hq, z_⟩)) <;> (replace ⟨pp, hp1, HB, c0, c1, c2, c3⟩ := Q5 z_ pp hq HB hne; replace ⟨a0, a1, a2, a3⟩ := P4 z_ hpb.out hgB a0 a1 a2 a3; replace ha := hid (ha.out.keepP z_ hpb.out); replace ⟨b0, b1, b2, b3⟩ := P4 z_ hpb.out hgB b0 b1 b2 b3; replace hb := hid (hb.out.keepP z_ hpb.out); replace ⟨hd, hk, hT⟩ := D3 z_ hpb hd hk hT))
 try simp only [Exit.inBlock, Exit.then]
 refine be rfl rfl ?_
 exact ⟨rfl, hp1.out.cast (by simp), pp.out⟩

theorem typ_all (N : Nat) : TypP N := by
 induction N with
 | zero => intro x hx; omega
 | succ N ih =>
  rintro ⟨k, t, n, l⟩ hx hT B pb L w v hp h hl
  have hcn : cnts l < N := by simp [cnt] at hx; omega
  by_cases h30 : k = 30
  ·subst h30
   obtain ⟨rfl, rfl, _⟩ := isT_30' hT
   have e : qT (.mk 30 t 0 []) = [wd t] := by (conv => lhs; unfold qT); simp
   rw [e] at hl ⊢
   exact ty30 t B pb L w v hp h hl
  by_cases h31 : k = 31
  ·subst h31
   obtain ⟨rfl, rfl, y, rfl, hy⟩ := isT_31' hT
   have e : qT (.mk 31 [] 0 [y]) = wi2 y ++ [wd [91, 93]] := by (conv => lhs; unfold qT); simp [wi2]
   rw [e] at hl ⊢
   exact ty31 ih y B pb L w v hp h (by simp [cnts] at hcn; omega) hy hl
  by_cases h32 : k = 32
  ·subst h32
   obtain ⟨rfl, rfl, hu, h2⟩ := isT_32' hT
   have e : qT (.mk 32 [] 0 l) = unionP true l := by (conv => lhs; unfold qT); simp
   rw [e] at hl ⊢
   exact ty32 ih l B pb L w v hp h hcn hu hl
  by_cases h33 : k = 33
  ·subst h33
   obtain ⟨rfl, rfl, hu⟩ := isT_33' hT
   by_cases h0 : l = []
   ·subst h0
    have e : qT (.mk 33 [] 0 []) = [wd [123, 125]] := by (conv => lhs; unfold qT); simp
    rw [e] at hl ⊢
    exact ty33_0 B pb L w v hp h hl
   ·have e : qT (.mk 33 [] 0 l) = [wd [123, 32]] ++ tpropsP l ++ [wd [125]] := by (conv => lhs; unfold qT); simp [h0]
    rw [e] at hl ⊢
    exact ty33 ih l B pb L w v hp h hcn (List.length_pos_iff.2 h0) hu hl
  by_cases h35 : k = 35
  ·subst h35
   obtain ⟨rfl, rfl, p, r, rfl, hp1, hr⟩ := isT_35' hT
   obtain ⟨pk, pt, pn, pl⟩ := p
   have e : qT (.mk 35 [] 0 [.mk pk pt pn pl, r]) = pmsP (.mk pk pt pn pl) ++ [wd [32, 61, 62, 32]] ++ qT r := by (conv => lhs; unfold qT); simp [pmsP, Tr.l]
   rw [e] at hl ⊢
   simp only [cnts] at hcn
   exact ty35 ih _ r B pb L w v hp h (by omega) (by omega) hp1 hr hl
  ·exfalso
   unfold isT at hT
   simp [h30, h31, h32, h33, h35] at hT

theorem typ_p (x : Tr) (ht : isT x = true) {B pb : Nat} {L : List Pc} {w : World} {v : Value} (hp : PrAt B w pb L) (h : NT B w v x) (hl : (L ++ qT x).length ≤ 4398046511104) : Calls Tryz.prog 30 #[.pointer (some ⟨pb, 0, none⟩), v] w (Pts B pb w (L ++ qT x)) := typ_all (cnt x + 1) x (Nat.lt_succ_self _) ht B pb L w v hp h hl
theorem typeOr_p (x : Tr) (ht : isTyOr x = true) {B pb : Nat} {L : List Pc} {w : World} {v : Value} (hp : PrAt B w pb L) (h : NT B w v x) (hl : (L ++ tyOrP x).length ≤ 4398046511104) : Calls Tryz.prog 71 #[.pointer (some ⟨pb, 0, none⟩), v] w (Pts B pb w (L ++ tyOrP x)) := tyOr_p (typ_all (cnt x + 1)) x (Nat.lt_succ_self _) ht hp h hl
theorem pms_p (typed : Bool) (x : Tr) (ht : isPms typed x = true) {B pb : Nat} {L : List Pc} {w : World} {v : Value} (hp : PrAt B w pb L) (h : NT B w v x) (hl : (L ++ pmsP x).length ≤ 4398046511104) : Calls Tryz.prog 70 #[.pointer (some ⟨pb, 0, none⟩), v] w (Pts B pb w (L ++ pmsP x)) := params_p (typ_all (cnt x)) typed x (Nat.lt_succ_self _) ht hp h hl

end Go.Proofs.YtpmlmpibpmoclaaGreatDoor
