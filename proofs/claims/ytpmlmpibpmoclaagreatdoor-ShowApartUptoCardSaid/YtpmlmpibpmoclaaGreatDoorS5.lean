/-
  The printer on expressions, a kind at a time.
-/
import Derived.Test.YtpmlmpibpmoclaaGreatDoorS2
import Derived.Test.YtpmlmpibpmoclaaGreatDoorT10
namespace Go.Proofs.YtpmlmpibpmoclaaGreatDoor
set_option linter.all false
set_option maxRecDepth 20000
set_option maxHeartbeats 4000000
open Go.RowKit

def BW : Nat := 1048576
def ExprP (N : Nat) : Prop := ∀ x : Tr, cnt x < N → isE x = true → wt x ≤ BW → ∀ (r : Nat) (ri : Int), ri = (r : Int) → ∀ B pb L w v, PrAt B w pb L → NT B w v x → (L ++ qE r x).length ≤ 4398046511104 → Calls Tryz.prog 29 #[.pointer (some ⟨pb, 0, none⟩), v, .int .i64 ri] w (Pts B pb w (L ++ qE r x))
theorem ExprP.at {N : Nat} (ih : ExprP N) (x : Tr) (hc : cnt x < N) (ht : isE x = true) (hw : wt x ≤ BW) (r : Nat) {ri : Int} (hr : ri = (r : Int)) {B pb : Nat} {L : List Pc} {w : World} {v : Value} (hp : PrAt B w pb L) (h : NT B w v x) (hl : (L ++ qE r x).length ≤ 4398046511104) : Calls Tryz.prog 29 #[.pointer (some ⟨pb, 0, none⟩), v, .int .i64 ri] w (Pts B pb w (L ++ qE r x)) := ih x hc ht hw r ri hr B pb L w v hp h hl
def StmtP (N : Nat) : Prop := ∀ x : Tr, cnt x < N → isS x = true → wt x ≤ BW → ∀ B pb L w v, PrAt B w pb L → NT B w v x → (L ++ qS x).length ≤ 4398046511104 → Calls Tryz.prog 31 #[.pointer (some ⟨pb, 0, none⟩), v] w (Pts B pb w (L ++ qS x))

theorem qE_paren {x : Tr} {r : Nat} (h : rank x < r) : qE r x = [wd [40]] ++ qE 0 x ++ [wd [41]] := by
 obtain ⟨k, t, n, l⟩ := x
 have h' : rankK k t < r := h
 unfold qE
 simp only [h', Nat.not_lt_zero, if_true, if_false]
theorem qE_bare {x : Tr} {r : Nat} (h : ¬ rank x < r) : qE r x = qE 0 x := by
 obtain ⟨k, t, n, l⟩ := x
 have h' : ¬ rankK k t < r := h
 unfold qE
 simp only [h', Nat.not_lt_zero, if_false]

/-- The call answers that number. -/
def NumP (n : Int) (w : World) (e : Ending) (w' : World) : Prop := e = .returned (.int .i64 n) ∧ Fx w w'
theorem binrank_p (t : Bs) (h : binOps.contains t = true) (w : World) : Calls Tryz.prog 131 #[.string (sv t)] w (NumP (binRank t : Nat) w) := by
 have hsv := sv_list
 have hm : t ∈ binOps := by simpa using h
 clear h
 simp only [binOps, List.mem_cons, List.not_mem_nil, or_false] at hm
 rcases hm with rfl | rfl | rfl | rfl | rfl | rfl | rfl | rfl | rfl | rfl | rfl | rfl | rfl
 all_goals
  go_enter Tryz.func131, Tryz.ntmps131
  go_wp2
  go_ret
  exact ⟨rfl, Ext.refl _ _⟩
theorem binrank_le (t : Bs) : binRank t ≤ 8 := by
 unfold binRank
 repeat' split
 all_goals omega

theorem rank_18 (t : Bs) (n : Int) (l : List Tr) (B : Nat) (v : Value) (w : World) (h : NodeAt B w v (.mk 18 t n l)) : Calls Tryz.prog 66 #[v] w (NumP 1 w) := by
 obtain ⟨sl, rfl, hks, hkr, hnr, htl⟩ := id h.open
 obtain ⟨p, c, rfl, _⟩ := hks.kid
 have xw : Fx w (w.alloc (.cells #[.int .i64 18, .string (sv t), .int .i64 n, .slice p l.length c] 24)) := Ext.alloc _ _ _
 obtain ⟨c0, c1, c2, c3⟩ := nd_cells w 18 n (sv t) (.slice p l.length c)
 clear h hks hkr hnr
 simp only [nv, Tr.k, Tr.t, Tr.n, Tr.l] at *
 go_enter Tryz.func66, Tryz.ntmps66
 go_wp2_with fail
 go_ret
 exact ⟨rfl, xw⟩

theorem rank_17 (t : Bs) (n : Int) (l : List Tr) (B : Nat) (v : Value) (w : World) (h : NodeAt B w v (.mk 17 t n l)) : Calls Tryz.prog 66 #[v] w (NumP 2 w) := by
 obtain ⟨sl, rfl, hks, hkr, hnr, htl⟩ := id h.open
 obtain ⟨p, c, rfl, _⟩ := hks.kid
 have xw : Fx w (w.alloc (.cells #[.int .i64 17, .string (sv t), .int .i64 n, .slice p l.length c] 24)) := Ext.alloc _ _ _
 obtain ⟨c0, c1, c2, c3⟩ := nd_cells w 17 n (sv t) (.slice p l.length c)
 clear h hks hkr hnr
 simp only [nv, Tr.k, Tr.t, Tr.n, Tr.l] at *
 go_enter Tryz.func66, Tryz.ntmps66
 go_wp2_with fail
 go_ret
 exact ⟨rfl, xw⟩

theorem rank_15 (t : Bs) (n : Int) (l : List Tr) (B : Nat) (v : Value) (w : World) (h : NodeAt B w v (.mk 15 t n l)) : Calls Tryz.prog 66 #[v] w (NumP 9 w) := by
 obtain ⟨sl, rfl, hks, hkr, hnr, htl⟩ := id h.open
 obtain ⟨p, c, rfl, _⟩ := hks.kid
 have xw : Fx w (w.alloc (.cells #[.int .i64 15, .string (sv t), .int .i64 n, .slice p l.length c] 24)) := Ext.alloc _ _ _
 obtain ⟨c0, c1, c2, c3⟩ := nd_cells w 15 n (sv t) (.slice p l.length c)
 clear h hks hkr hnr
 simp only [nv, Tr.k, Tr.t, Tr.n, Tr.l] at *
 go_enter Tryz.func66, Tryz.ntmps66
 go_wp2_with fail
 go_ret
 exact ⟨rfl, xw⟩

theorem rank_19 (t : Bs) (n : Int) (l : List Tr) (B : Nat) (v : Value) (w : World) (h : NodeAt B w v (.mk 19 t n l)) : Calls Tryz.prog 66 #[v] w (NumP 10 w) := by
 obtain ⟨sl, rfl, hks, hkr, hnr, htl⟩ := id h.open
 obtain ⟨p, c, rfl, _⟩ := hks.kid
 have xw : Fx w (w.alloc (.cells #[.int .i64 19, .string (sv t), .int .i64 n, .slice p l.length c] 24)) := Ext.alloc _ _ _
 obtain ⟨c0, c1, c2, c3⟩ := nd_cells w 19 n (sv t) (.slice p l.length c)
 clear h hks hkr hnr
 simp only [nv, Tr.k, Tr.t, Tr.n, Tr.l] at *
 go_enter Tryz.func66, Tryz.ntmps66
 go_wp2_with fail
 go_ret
 exact ⟨rfl, xw⟩

theorem rank_21 (t : Bs) (n : Int) (l : List Tr) (B : Nat) (v : Value) (w : World) (h : NodeAt B w v (.mk 21 t n l)) : Calls Tryz.prog 66 #[v] w (NumP 10 w) := by
 obtain ⟨sl, rfl, hks, hkr, hnr, htl⟩ := id h.open
 obtain ⟨p, c, rfl, _⟩ := hks.kid
 have xw : Fx w (w.alloc (.cells #[.int .i64 21, .string (sv t), .int .i64 n, .slice p l.length c] 24)) := Ext.alloc _ _ _
 obtain ⟨c0, c1, c2, c3⟩ := nd_cells w 21 n (sv t) (.slice p l.length c)
 clear h hks hkr hnr
 simp only [nv, Tr.k, Tr.t, Tr.n, Tr.l] at *
 go_enter Tryz.func66, Tryz.ntmps66
 go_wp2_with fail
 go_ret
 exact ⟨rfl, xw⟩

theorem rank_22 (t : Bs) (n : Int) (l : List Tr) (B : Nat) (v : Value) (w : World) (h : NodeAt B w v (.mk 22 t n l)) : Calls Tryz.prog 66 #[v] w (NumP 10 w) := by
 obtain ⟨sl, rfl, hks, hkr, hnr, htl⟩ := id h.open
 obtain ⟨p, c, rfl, _⟩ := hks.kid
 have xw : Fx w (w.alloc (.cells #[.int .i64 22, .string (sv t), .int .i64 n, .slice p l.length c] 24)) := Ext.alloc _ _ _
 obtain ⟨c0, c1, c2, c3⟩ := nd_cells w 22 n (sv t) (.slice p l.length c)
 clear h hks hkr hnr
 simp only [nv, Tr.k, Tr.t, Tr.n, Tr.l] at *
 go_enter Tryz.func66, Tryz.ntmps66
 go_wp2_with fail
 go_ret
 exact ⟨rfl, xw⟩

theorem rank_16 (t : Bs) (n : Int) (l : List Tr) (hb : binOps.contains t = true) (B : Nat) (v : Value) (w : World) (h : NodeAt B w v (.mk 16 t n l)) : Calls Tryz.prog 66 #[v] w (NumP (binRank t : Nat) w) := by
 obtain ⟨sl, rfl, hks, hkr, hnr, htl⟩ := id h.open
 obtain ⟨p, c, rfl, _⟩ := hks.kid
 have xw : Fx w (w.alloc (.cells #[.int .i64 16, .string (sv t), .int .i64 n, .slice p l.length c] 24)) := Ext.alloc _ _ _
 obtain ⟨c0, c1, c2, c3⟩ := nd_cells w 16 n (sv t) (.slice p l.length c)
 have H := hid hb
 clear hb
 clear h hks hkr hnr
 simp only [nv, Tr.k, Tr.t, Tr.n, Tr.l] at *
 go_enter Tryz.func66, Tryz.ntmps66
 go_wp2_with (go_at_call 131; refine (binrank_p t H.out _).mono ?_; rintro e w131 ⟨rfl, x131⟩)
 go_ret
 exact ⟨rfl, xw.of_eq x131⟩

theorem rank_o (k : Int) (t : Bs) (n : Int) (l : List Tr) (hk : True ∧ True ∧ ∀ i ∈ ([18, 17, 15, 19, 21, 22, 16] : List Int), ¬ k = i) (B : Nat) (v : Value) (w : World) (h : NodeAt B w v (.mk k t n l)) : Calls Tryz.prog 66 #[v] w (NumP 11 w) := by
 obtain ⟨sl, rfl, hks, hkr, hnr, htl⟩ := id h.open
 obtain ⟨p, c, rfl, _⟩ := hks.kid
 have xw : Fx w (w.alloc (.cells #[.int .i64 k, .string (sv t), .int .i64 n, .slice p l.length c] 24)) := Ext.alloc _ _ _
 obtain ⟨c0, c1, c2, c3⟩ := nd_cells w k n (sv t) (.slice p l.length c)
 have k18 : (k == 18) = false := by simpa using hk.2.2 18 (by decide)
 have k17 : (k == 17) = false := by simpa using hk.2.2 17 (by decide)
 have k15 : (k == 15) = false := by simpa using hk.2.2 15 (by decide)
 have k19 : (k == 19) = false := by simpa using hk.2.2 19 (by decide)
 have k21 : (k == 21) = false := by simpa using hk.2.2 21 (by decide)
 have k22 : (k == 22) = false := by simpa using hk.2.2 22 (by decide)
 have k16 : (k == 16) = false := by simpa using hk.2.2 16 (by decide)
 clear hk
 clear h hks hkr hnr
 simp only [nv, Tr.k, Tr.t, Tr.n, Tr.l] at *
 go_enter Tryz.func66, Tryz.ntmps66
 go_wp2_with fail
 go_ret
 exact ⟨rfl, xw⟩

theorem rank_p (x : Tr) (hb : x.k = 16 → binOps.contains x.t = true) (B : Nat) (v : Value) (w : World) (h : NodeAt B w v x) : Calls Tryz.prog 66 #[v] w (NumP (rank x : Nat) w) := by
 obtain ⟨k, t, n, l⟩ := x
 simp only [Tr.k, Tr.t] at hb
 by_cases h18 : k = 18
 ·subst h18; exact rank_18 t n l B v w h
 by_cases h17 : k = 17
 ·subst h17; exact rank_17 t n l B v w h
 by_cases h15 : k = 15
 ·subst h15; exact rank_15 t n l B v w h
 by_cases h19 : k = 19
 ·subst h19; exact rank_19 t n l B v w h
 by_cases h21 : k = 21
 ·subst h21; exact rank_21 t n l B v w h
 by_cases h22 : k = 22
 ·subst h22; exact rank_22 t n l B v w h
 by_cases h16 : k = 16
 ·subst h16; exact rank_16 t n l (hb rfl) B v w h
 ·have e : rank (.mk k t n l) = 11 := by simp [rank, rankK, Tr.k, Tr.t, h18, h17, h15, h19, h21, h22, h16]
  rw [e]
  exact rank_o k t n l ⟨trivial, trivial, by simp [h18, h17, h15, h19, h21, h22, h16]⟩ B v w h

theorem expr_of (r : Nat) {ri : Int} (hr : ri = (r : Int)) {B pb : Nat} {L : List Pc} {w : World} {v : Value} (x : Tr) (hb : x.k = 16 → binOps.contains x.t = true) (hbare : ∀ (L : List Pc) (w : World), PrAt B w pb L → ∀ v, NT B w v x → (L ++ qE 0 x).length ≤ 4398046511104 → Calls Tryz.prog 68 #[.pointer (some ⟨pb, 0, none⟩), v] w (Pts B pb w (L ++ qE 0 x))) (hp : PrAt B w pb L) (h : NT B w v x) (hl : (L ++ (qE r x)).length ≤ 4398046511104) : Calls Tryz.prog 29 #[.pointer (some ⟨pb, 0, none⟩), v, .int .i64 ri] w (Pts B pb w (L ++ (qE r x))) := by
 obtain ⟨sl, rfl, hks, hkr, hnr, htl⟩ := id h.node.open
 obtain ⟨p, c, rfl, _⟩ := hks.kid
 have hpb := hid hp.le
 have hne : w.heap.size ≠ pb := by have := hp.lt; omega
 have xw : Fx w (w.alloc (.cells #[.int .i64 x.k, .string (sv x.t), .int .i64 x.n, .slice p x.l.length c] 24)) := Ext.alloc _ _ _
 have pp := hid (Px.of (B := B) (pb := pb) xw)
 have HB := hid (heap_new w (.cells #[.int .i64 x.k, .string (sv x.t), .int .i64 x.n, .slice p x.l.length c] 24))
 obtain ⟨c0, c1, c2, c3⟩ := nd_cells w x.k x.n (sv x.t) (.slice p x.l.length c)
 have hd := hid (h.keepF xw)
 have hT := hid (h.tab.keepF xw)
 have hp1 := hid (hp.keepF xw)
 have Hb := hid hb
 have hl2 := hid hl
 have Hbare := hid hbare
 subst hr
 clear hl hb hbare
 clear h hks hkr hnr hp
 simp only [nv] at hd ⊢
 by_cases hr : rank x < r
 ·have HL := hid (show (L ++ ([wd [40]] ++ qE 0 x ++ [wd [41]])).length ≤ 4398046511104 from by have := hl2.out; rwa [qE_paren hr] at this)
  rw [qE_paren hr]
  have hri : ((rank x : Nat) : Int) < (r : Int) := by omega
  clear hr
  go_enter Tryz.func29, Tryz.ntmps29
  go_wp2_with ((first | (go_at_call 66; refine (rank_p x Hb.out B _ _ hd.out.node).mono ?_; rintro e w66 ⟨rfl, z_⟩; have hq := hp1.out.keepF z_; replace z_ := Px.of (B := B) (pb := pb) z_) | (go_at_call 67; (first | refine (pl [[40]] hp1.out (lo HL.out)).mono ?_ | refine (pl [[41]] hp1.out (lo HL.out)).mono ?_); rintro e w67 ⟨rfl, hq, z_⟩) | (go_at_call 68; refine (Hbare.out _ _ hp1.out _ hd.out (lo HL.out)).mono ?_; rintro e w68 ⟨rfl, hq, z_⟩)) <;> (replace ⟨pp, hp1, HB, c0, c1, c2, c3⟩ := Q5 z_ pp hq HB hne; replace hd := hid (hd.out.keepP z_ hpb.out); replace hT := hid (hT.out.keepP z_ hpb.out)))
  try simp only [Exit.inBlock, Exit.then]
  refine be rfl rfl ?_
  exact ⟨rfl, hp1.out.cast (by simp), pp.out⟩
 ·have HL := hid (show (L ++ qE 0 x).length ≤ 4398046511104 from by have := hl2.out; rwa [qE_bare hr] at this)
  rw [qE_bare hr]
  have hri : ¬ ((rank x : Nat) : Int) < (r : Int) := by omega
  clear hr
  go_enter Tryz.func29, Tryz.ntmps29
  go_wp2_with ((first | (go_at_call 66; refine (rank_p x Hb.out B _ _ hd.out.node).mono ?_; rintro e w66 ⟨rfl, z_⟩; have hq := hp1.out.keepF z_; replace z_ := Px.of (B := B) (pb := pb) z_) | (go_at_call 68; refine (Hbare.out _ _ hp1.out _ hd.out (lo HL.out)).mono ?_; rintro e w68 ⟨rfl, hq, z_⟩)) <;> (replace ⟨pp, hp1, HB, c0, c1, c2, c3⟩ := Q5 z_ pp hq HB hne; replace hd := hid (hd.out.keepP z_ hpb.out); replace hT := hid (hT.out.keepP z_ hpb.out)))
  try simp only [Exit.inBlock, Exit.then]
  refine be rfl rfl ?_
  exact ⟨rfl, hp1.out, pp.out⟩

theorem list_p {N : Nat} (ihE : ExprP N) (l : List Tr) {B pb : Nat} {L : List Pc} {w : World} {v : Value} (hp : PrAt B w pb L) (h : KidsAt B w v l) (ht0 : Tabs B w) (hc : cnts l < N) (hm : ∀ y ∈ l, isE y = true ∧ wt y ≤ BW) : Pn 135 B pb w L v (listP true l) := by
 intro hl
 have hsv := sv_list
 obtain ⟨p, c, rfl, hcp, hkid⟩ := h.kid
 have hpb := hid hp.le
 have xw : Fx w w := Ext.refl _ _
 have pp := hid (Px.refl B pb w)
 have hk := hid True.intro
 have hT0 := hid ht0
 have hT := hid ht0
 have hp1 := hid hp
 have HL := hid hl
 have K := hid hkid
 have hll := hid hcp.2
 have Hc := hid hc
 have Hu := hid hm
 clear hc hm
 clear h hkid hcp hp hl ht0
 try simp only [lC, lN, zA, Nat.reduceAdd] at *
 go_enter Tryz.func135, Tryz.ntmps135
 go_wp2
 have pp0 := hid pp.out
 have hpL := hid (hp1.out.cast (show _ = L by simp))
 have hLL := hid (show (L ++ listP true (l)).length ≤ 4398046511104 from by have hL := HL.out; simp only [lA, lC, lN, lM, mC, mN] at hL ⊢; omega)
 clear hp1 pp hk hT
 go_loopw [8] (fun i wr => ∃ j : Nat, j ≤ l.length ∧ i = .int .i64 j ∧ Hid (PrAt B wr pb (L ++ listP true (l.take j))) ∧ Hid (Px B pb w wr)) (fun i _ => l.length - (intOf i).toNat)
 case atStart => exact ⟨0, Nat.zero_le _, rfl, hid (hpL.out.cast (by simp [listP])), hid (Px.refl _ _ _)⟩
 case round =>
  obtain ⟨j, hj, rfl, hpr, hpx⟩ := hrel
  have qq := hid (pp0.out.trans hpx.out)
  have hj4 : (j : Int) ≤ 4398046511104 := by have := hll.out; omega
  by_cases hlt : j < l.length
  ·obtain ⟨hs1, hs2⟩ := listP_split hlt
   have hLj := hLL.out
   rw [hs1] at hLj
   clear hs1
   obtain ⟨g, o, s, rfl, hgB, e0, e1, e2, e3, hy⟩ := K.out j hlt
   have Hm := hid (Hu.out l[j] (List.getElem_mem hlt))
   have Hcy := hid (cnt_mem (List.getElem_mem hlt))
   generalize l[j] = y at *
   obtain ⟨sl', hs', hks', _⟩ := id hy.open
   obtain rfl : s = sl' := by simpa [nv] using hs'
   clear hs'
   obtain ⟨p', c', rfl, _⟩ := hks'.kid
   clear hks'
   replace ⟨e0, e1, e2, e3⟩ := P4 qq.out hpb.out hgB e0 e1 e2 e3
   have xa : Fx wr (wr.alloc (.cells #[.int .i64 y.k, .string (sv y.t), .int .i64 y.n, .slice p' y.l.length c'] 24)) := Ext.alloc _ _ _
   have hneC : wr.heap.size ≠ pb := by have := hpr.out.lt; omega
   have HC := hid (heap_new wr (.cells #[.int .i64 y.k, .string (sv y.t), .int .i64 y.n, .slice p' y.l.length c'] 24))
   obtain ⟨d0, d1, d2, d3⟩ := nd_cells wr y.k y.n (sv y.t) (.slice p' y.l.length c')
   have hdy := hid (((NT.mk hy hT0.out).keepP qq.out hpb.out).keepF xa)
   have hT := hid ((hT0.out.keepP qq.out hpb.out).keepF xa)
   have hp1 := hid (hpr.out.keepF xa)
   have pp := hid (hpx.out.fx xa)
   simp only [nv] at hdy
   clear hy hpr hpx qq
   replace hs2 := hid hs2
   replace hLj := hid hLj
   rcases Nat.eq_zero_or_pos j with hj0 | hj0
   ·have hz0 : ¬ (0 : Int) < (j : Int) := by omega
    rw [show sepP j [44, 32] = [] from by rw [hj0]; rfl] at hs2 hLj
    have HLj := hid hLj.out
    replace hj0 := hid hj0
    clear hLj
    go_wp2_with (go_at_call 29; refine (ihE.at y (Nat.lt_of_le_of_lt Hcy.out Hc.out) Hm.out.1 Hm.out.2 1 (by first | rfl | (simp; done)) hp1.out hdy.out (lo HLj.out)).mono ?_; rintro e w29 ⟨rfl, hq, z_⟩; replace pp := hid (pp.out.trans z_); replace hp1 := hid hq; replace HC := hid (z_.loc HC.out hneC (by decide)); replace ⟨d0, d1, d2, d3⟩ := blk4 HC.out; replace hdy := hid (hdy.out.keepP z_ hpb.out); replace hT := hid (hT.out.keepP z_ hpb.out))
    go_roundw
    case rel => exact ⟨j + 1, by omega, by go_num, hid (hp1.out.cast (by rw [hs2.out]; simp)), hid pp.out⟩
    case measure => simp [intOf]; omega
   ·have hz0 : (0 : Int) < (j : Int) := by omega
    rw [sepP_s hj0] at hs2 hLj
    have HLj := hid hLj.out
    replace hj0 := hid hj0
    clear hLj
    go_wp2_with ((first | (go_at_call 67; refine (pl [[44, 32]] hp1.out (lo HLj.out)).mono ?_; rintro e w67 ⟨rfl, hq, z_⟩) | (go_at_call 29; refine (ihE.at y (Nat.lt_of_le_of_lt Hcy.out Hc.out) Hm.out.1 Hm.out.2 1 (by first | rfl | (simp; done)) hp1.out hdy.out (lo HLj.out)).mono ?_; rintro e w29 ⟨rfl, hq, z_⟩)) <;> (replace pp := hid (pp.out.trans z_); replace hp1 := hid hq; replace HC := hid (z_.loc HC.out hneC (by decide)); replace ⟨d0, d1, d2, d3⟩ := blk4 HC.out; replace hdy := hid (hdy.out.keepP z_ hpb.out); replace hT := hid (hT.out.keepP z_ hpb.out)))
    go_roundw
    case rel => exact ⟨j + 1, by omega, by go_num, hid (hp1.out.cast (by rw [hs2.out]; simp)), hid pp.out⟩
    case measure => simp [intOf]; omega
  ·have hp1 := hid (hpr.out.cast (show _ = L ++ listP true (l) by rw [List.take_of_length_le (by omega)]))
   have pp := hid (pp0.out.trans hpx.out)
   have hT := hid (hT0.out.keepP qq.out hpb.out)
   clear hpr hpx qq
   go_wp2_with fail
   try simp only [Exit.inBlock, Exit.then]
   refine be rfl rfl ?_
   exact ⟨rfl, hp1.out.cast (by simp), pp.out⟩

theorem object_0  {B pb : Nat} {L : List Pc} {w : World} {v : Value} (hp : PrAt B w pb L) (h : KidsAt B w v []) (ht0 : Tabs B w)  : Pn 136 B pb w L v ([wd [123, 125]]) := by
 intro hl
 have hsv := sv_list
 obtain ⟨p, c, rfl, hcp, hkid⟩ := h.kid
 have hpb := hid hp.le
 have xw : Fx w w := Ext.refl _ _
 have pp := hid (Px.refl B pb w)
 have hk := hid True.intro
 have hT0 := hid ht0
 have hT := hid ht0
 have hp1 := hid hp
 have HL := hid hl
 have K := hid hkid
 have hll := hid hcp.2
 clear h hkid hcp hp hl ht0
 try simp only [lC, lN, zA, Nat.reduceAdd] at *
 clear K
 clear hk
 go_enter Tryz.func136, Tryz.ntmps136
 go_wp2_with (go_at_call 67; refine (pl [[123, 125]] hp1.out (lo HL.out)).mono ?_; rintro e w67 ⟨rfl, hq, z_⟩; replace pp := hid (pp.out.trans z_); replace hp1 := hid hq; replace hT := hid (hT.out.keepP z_ hpb.out))
 try simp only [Exit.inBlock, Exit.then]
 refine be rfl rfl ?_
 exact ⟨rfl, hp1.out.cast (by simp), pp.out⟩

theorem object_p {N : Nat} (ihE : ExprP N) (l : List Tr) {B pb : Nat} {L : List Pc} {w : World} {v : Value} (hp : PrAt B w pb L) (h : KidsAt B w v l) (ht0 : Tabs B w) (hc : cnts l < N) (hpos : 0 < l.length) (hm : ∀ y ∈ l, ∃ kt z, y = .mk 10 kt 0 [z] ∧ isE z = true ∧ wt z ≤ BW) : Pn 136 B pb w L v ([wd [123, 32]] ++ propsP true l ++ [wd [32, 125]]) := by
 intro hl
 have hsv := sv_list
 obtain ⟨p, c, rfl, hcp, hkid⟩ := h.kid
 have hpb := hid hp.le
 have xw : Fx w w := Ext.refl _ _
 have pp := hid (Px.refl B pb w)
 have hk := hid True.intro
 have hT0 := hid ht0
 have hT := hid ht0
 have hp1 := hid hp
 have HL := hid hl
 have K := hid hkid
 have hll := hid hcp.2
 have Hc := hid hc
 have Hu := hid hm
 clear hc hm
 have hne0 : ((l.length : Int) == 0) = false := beq_eq_false_iff_ne.2 (by omega)
 clear hpos
 clear h hkid hcp hp hl ht0
 try simp only [lC, lN, zA, Nat.reduceAdd] at *
 go_enter Tryz.func136, Tryz.ntmps136
 go_wp2_with (go_at_call 67; refine (pl [[123, 32]] hp1.out (lo HL.out)).mono ?_; rintro e w67 ⟨rfl, hq, z_⟩; replace pp := hid (pp.out.trans z_); replace hp1 := hid hq; replace hT := hid (hT.out.keepP z_ hpb.out))
 have pp0 := hid pp.out
 have hpL := hid (hp1.out.cast (show _ = (L ++ [wd [123, 32]]) by simp))
 have hLL := hid (show ((L ++ [wd [123, 32]]) ++ propsP true (l)).length ≤ 4398046511104 from by have hL := HL.out; simp only [lA, lC, lN, lM, mC, mN] at hL ⊢; omega)
 clear hp1 pp hk hT
 go_loopw [17] (fun i wr => ∃ j : Nat, j ≤ l.length ∧ i = .int .i64 j ∧ Hid (PrAt B wr pb ((L ++ [wd [123, 32]]) ++ propsP true (l.take j))) ∧ Hid (Px B pb w67 wr)) (fun i _ => l.length - (intOf i).toNat)
 case atStart => exact ⟨0, Nat.zero_le _, rfl, hid (hpL.out.cast (by simp [propsP])), hid (Px.refl _ _ _)⟩
 case round =>
  obtain ⟨j, hj, rfl, hpr, hpx⟩ := hrel
  have qq := hid (pp0.out.trans hpx.out)
  have hj4 : (j : Int) ≤ 4398046511104 := by have := hll.out; omega
  by_cases hlt : j < l.length
  ·obtain ⟨hs1, hs2⟩ := propsP_split hlt
   have hLj := hLL.out
   rw [hs1] at hLj
   clear hs1
   obtain ⟨kt, z, hy0, hez, hwz⟩ := Hu.out l[j] (List.getElem_mem hlt)
   obtain ⟨g, o, s, rfl, hgB, e0, e1, e2, e3, hy⟩ := K.out j hlt
   have Hcz := hid (show cnt z < N from by have h6 := cnt_mem (List.getElem_mem hlt); rw [hy0] at h6; have h7 := Hc.out; simp only [cnt, cnts] at h6; omega)
   have Hez := hid hez
   have Hwz := hid hwz
   clear hez hwz
   rw [hy0] at e0 e1 e2 hy hs2 hLj
   simp only [Tr.k, Tr.t, Tr.n] at e0 e1 e2
   obtain ⟨sl', hs', hks', _, _, htl'⟩ := id hy.open
   obtain rfl : s = sl' := by simpa [nv, Tr.k, Tr.t, Tr.n] using hs'
   simp only [Tr.k, Tr.t, Tr.n, Tr.l] at hks' htl'
   obtain ⟨p', c', rfl, _, hkid'⟩ := hks'.kid
   have K' := hid hkid'
   clear hs' hks' hy0 hkid'
   simp only [lC, lN, zA] at *
   obtain ⟨g', o', s', rfl, hgz, z0, z1, z2, z3, hz⟩ := K'.out 0 (by simp)
   simp only [gZ] at z0 z1 z2 hz
   obtain ⟨slz, hsz, hksz, _⟩ := id hz.open
   obtain rfl : s' = slz := by simpa [nv] using hsz
   clear hsz K'
   obtain ⟨pz, cz, rfl, _⟩ := hksz.kid
   clear hksz
   simp only [zM, aZ, gZ] at z0 z1 z2 z3
   replace ⟨z0, z1, z2, z3⟩ := P4 qq.out hpb.out hgz z0 z1 z2 z3
   replace ⟨e0, e1, e2, e3⟩ := P4 qq.out hpb.out hgB e0 e1 e2 e3
   have xa : Fx wr (wr.alloc (.cells #[.int .i64 10, .string (sv kt), .int .i64 0, .slice (some ⟨g', o', none⟩) 1 c'] 24)) := Ext.alloc _ _ _
   have hneC : wr.heap.size ≠ pb := by have := hpr.out.lt; omega
   have HC := hid (heap_new wr (.cells #[.int .i64 10, .string (sv kt), .int .i64 0, .slice (some ⟨g', o', none⟩) 1 c'] 24))
   obtain ⟨d0, d1, d2, d3⟩ := nd_cells wr 10 0 (sv kt) (.slice (some ⟨g', o', none⟩) 1 c')
   have hdy := hid (((NT.mk hy hT0.out).keepP qq.out hpb.out).keepF xa)
   have hT := hid ((hT0.out.keepP qq.out hpb.out).keepF xa)
   have hp1 := hid (hpr.out.keepF xa)
   have pp := hid (hpx.out.fx xa)
   replace ⟨z0, z1, z2, z3⟩ := F4 xa z0 z1 z2 z3
   replace hz := hid (((NT.mk hz hT0.out).keepP qq.out hpb.out).keepF xa)
   simp only [nv, Tr.k, Tr.t, Tr.n, Tr.l, lC, lN, zA] at hdy
   simp only [nv] at hz
   clear hy hpr hpx qq
   simp only [proE, Tr.l, Tr.t] at hs2 hLj
   replace hs2 := hid hs2
   replace hLj := hid hLj
   rcases Nat.eq_zero_or_pos j with hj0 | hj0
   ·have hz0 : ¬ (0 : Int) < (j : Int) := by omega
    rw [show sepP j [44, 32] = [] from by rw [hj0]; rfl] at hs2 hLj
    have HLj := hid hLj.out
    replace hj0 := hid hj0
    clear hLj
    go_wp2_with ((first | (go_at_call 67; refine (pl [kt, [58, 32]] hp1.out (lo HLj.out)).mono ?_; rintro e w67 ⟨rfl, hq, z_⟩) | (go_at_call 29; refine (ihE.at z Hcz.out Hez.out Hwz.out 1 (by first | rfl | (simp; done)) hp1.out hz.out (lo HLj.out)).mono ?_; rintro e w29 ⟨rfl, hq, z_⟩)) <;> (replace pp := hid (pp.out.trans z_); replace hp1 := hid hq; replace HC := hid (z_.loc HC.out hneC (by decide)); replace ⟨d0, d1, d2, d3⟩ := blk4 HC.out; replace ⟨z0, z1, z2, z3⟩ := P4 z_ hpb.out hgz z0 z1 z2 z3; replace hz := hid (hz.out.keepP z_ hpb.out); replace hdy := hid (hdy.out.keepP z_ hpb.out); replace hT := hid (hT.out.keepP z_ hpb.out)))
    go_roundw
    case rel => exact ⟨j + 1, by omega, by go_num, hid (hp1.out.cast (by rw [hs2.out]; simp [proE, Tr.l, Tr.t])), hid pp.out⟩
    case measure => simp [intOf]; omega
   ·have hz0 : (0 : Int) < (j : Int) := by omega
    rw [sepP_s hj0] at hs2 hLj
    have HLj := hid hLj.out
    replace hj0 := hid hj0
    clear hLj
    go_wp2_with ((first | (go_at_call 67; (first | refine (pl [[44, 32]] hp1.out (lo HLj.out)).mono ?_ | refine (pl [kt, [58, 32]] hp1.out (lo HLj.out)).mono ?_); rintro e w67 ⟨rfl, hq, z_⟩) | (go_at_call 29; refine (ihE.at z Hcz.out Hez.out Hwz.out 1 (by first | rfl | (simp; done)) hp1.out hz.out (lo HLj.out)).mono ?_; rintro e w29 ⟨rfl, hq, z_⟩)) <;> (replace pp := hid (pp.out.trans z_); replace hp1 := hid hq; replace HC := hid (z_.loc HC.out hneC (by decide)); replace ⟨d0, d1, d2, d3⟩ := blk4 HC.out; replace ⟨z0, z1, z2, z3⟩ := P4 z_ hpb.out hgz z0 z1 z2 z3; replace hz := hid (hz.out.keepP z_ hpb.out); replace hdy := hid (hdy.out.keepP z_ hpb.out); replace hT := hid (hT.out.keepP z_ hpb.out)))
    go_roundw
    case rel => exact ⟨j + 1, by omega, by go_num, hid (hp1.out.cast (by rw [hs2.out]; simp [proE, Tr.l, Tr.t])), hid pp.out⟩
    case measure => simp [intOf]; omega
  ·have hp1 := hid (hpr.out.cast (show _ = (L ++ [wd [123, 32]]) ++ propsP true (l) by rw [List.take_of_length_le (by omega)]))
   have pp := hid (pp0.out.trans hpx.out)
   have hT := hid (hT0.out.keepP qq.out hpb.out)
   clear hpr hpx qq
   go_wp2_with (go_at_call 67; refine (pl [[32, 125]] hp1.out (lo HL.out)).mono ?_; rintro e w67 ⟨rfl, hq, z_⟩; replace pp := hid (pp.out.trans z_); replace hp1 := hid hq; replace hT := hid (hT.out.keepP z_ hpb.out))
   try simp only [Exit.inBlock, Exit.then]
   refine be rfl rfl ?_
   exact ⟨rfl, hp1.out.cast (by simp), pp.out⟩

theorem inside_31 (l : List Tr) {B pb : Nat} {L : List Pc} {w : World} {v : Value} (hp : PrAt B w pb L) (h : KidsAt B w v l) (ht0 : Tabs B w) (hm : ∀ y ∈ l, (∀ {L : List Pc} (w : World), PrAt B w pb L → ∀ v, NT B w v y → (L ++ qS y).length ≤ 4398046511104 → Calls Tryz.prog 31 #[.pointer (some ⟨pb, 0, none⟩), v] w (Pts B pb w (L ++ qS y))) ∧ True) (hl : (L ++ (Pc.opn :: (linesG qS l ++ [Pc.shut]))).length ≤ 4398046511104) : Calls Tryz.prog 139 #[.pointer (some ⟨pb, 0, none⟩), v, .func (.func 31) #[.pointer (some ⟨pb, 0, none⟩)] #[]] w (Pts B pb w (L ++ (Pc.opn :: (linesG qS l ++ [Pc.shut])))) := by
 have hsv := sv_list
 obtain ⟨p, c, rfl, hcp, hkid⟩ := h.kid
 have hpb := hid hp.le
 have xw : Fx w w := Ext.refl _ _
 have pp := hid (Px.refl B pb w)
 have hk := hid True.intro
 have hT0 := hid ht0
 have hT := hid ht0
 have hp1 := hid hp
 have HL := hid hl
 have K := hid hkid
 have hll := hid hcp.2
 have Hu := hid hm
 clear hm
 clear h hkid hcp hp hl ht0
 try simp only [lC, lN, zA, Nat.reduceAdd] at *
 obtain ⟨ii, hi, hz0, hz1, hz2⟩ := info_at info76
 clear hk
 obtain ⟨dv, hdv, hov⟩ := hp1.out.val
 have hpw := hid hp1.out.pow
 obtain ⟨p0, n0, cc0, rfl⟩ : ∃ p n c, dv = .slice p n c := by
  rcases hov.2 with ⟨rfl, _⟩ | ⟨g, cap, cur, rfl, _⟩
  ·exact ⟨_, _, _, rfl⟩
  ·exact ⟨_, _, _, rfl⟩
 have hd0v := cell_one hdv
 have xz : Fx w (w.alloc (.cells #[.iface 79 (.agg #[])] 76)) := Ext.alloc _ _ _
 have hd1 := hid ((xz.block pb (Array.getElem?_eq_some_iff.1 hdv).1 id).trans hdv)
 have ho1 := hid (own_keepF hov xz)
 have hcn := cell_alloc w #[.iface 79 (.agg #[])] 76 0 _ rfl
 have hbs : B ≤ (w.alloc (.cells #[.iface 79 (.agg #[])] 76)).heap.size := by have := hpb.out; have := hp1.out.lt; rw [alloc_size]; omega
 have hlen0 := hid (show (L).length ≤ 4398046511104 from (lo HL.out))
 clear hdv hov
 go_enter Tryz.func139, Tryz.ntmps139
 go_wp2_with (at_builtin; refine wpList_append_pc rfl (.tmp 12) (.tmp 15) 41 rfl B ii _ Tryz.underlying41 hi hz0 hz1 hz2 rfl _ (L) _ 1 .opn rfl rfl ho1.out hcn hlen0.out hbs ?_; intro p7 n7 c7 w7 hown7 hg7; obtain ⟨⟨g1, g2⟩, g3, g4⟩ := px_grown hpb.out hd1.out ho1.out hg7 hown7 (hpw.out.keepF xz); replace g3 := hid g3; replace hown7 := hid hown7; have gx := Px.trans (Px.of (B := B) (pb := pb) xz) g4; clear g4; replace pp := hid (pp.out.trans gx); replace hp1 := hid g3.out; replace hT := hid (hT.out.keepP gx hpb.out))
 have pp0 := hid pp.out
 have hpL := hid hp1.out
 clear g1 g2 gx hd0v hcn hbs hd1 ho1 hlen0 hown7 g3 hp1 pp hpw hT
 go_loopw [21] (fun i wr => ∃ j : Nat, j ≤ l.length ∧ i = .int .i64 j ∧ Hid (PrAt B wr pb (L ++ [Pc.opn] ++ linesG qS (l.take j))) ∧ Hid (Px B pb w wr)) (fun i _ => l.length - (intOf i).toNat)
 case atStart => exact ⟨0, Nat.zero_le _, rfl, hid (hpL.out.cast (by simp [linesG])), pp0⟩
 case round =>
  obtain ⟨j, hj, rfl, hpr, hpx⟩ := hrel
  have hj4 : (j : Int) ≤ 4398046511104 := by have := hll.out; omega
  clear pp0 hpL
  by_cases hlt : j < l.length
  ·obtain ⟨hs1, hs2⟩ := linesG_split (f := qS) hlt
   have hLj := HL.out
   rw [hs1] at hLj
   clear hs1
   obtain ⟨g, o, s, rfl, hgB, e0, e1, e2, e3, hy⟩ := K.out j hlt
   have Hm := hid (Hu.out l[j] (List.getElem_mem hlt))
   have Hcy := hid (cnt_mem (List.getElem_mem hlt))
   generalize l[j] = y at *
   obtain ⟨sl', hs', hks', _⟩ := id hy.open
   obtain rfl : s = sl' := by simpa [nv] using hs'
   clear hs'
   obtain ⟨p', c', rfl, _⟩ := hks'.kid
   clear hks'
   replace ⟨e0, e1, e2, e3⟩ := P4 hpx.out hpb.out hgB e0 e1 e2 e3
   have xa : Fx wr (wr.alloc (.cells #[.int .i64 y.k, .string (sv y.t), .int .i64 y.n, .slice p' y.l.length c'] 24)) := Ext.alloc _ _ _
   have hneC : wr.heap.size ≠ pb := by have := hpr.out.lt; omega
   have HC := hid (heap_new wr (.cells #[.int .i64 y.k, .string (sv y.t), .int .i64 y.n, .slice p' y.l.length c'] 24))
   obtain ⟨d0, d1, d2, d3⟩ := nd_cells wr y.k y.n (sv y.t) (.slice p' y.l.length c')
   have hdy := hid (((NT.mk hy hT0.out).keepP hpx.out hpb.out).keepF xa)
   have hT := hid ((hT0.out.keepP hpx.out hpb.out).keepF xa)
   have hp1 := hid (hpr.out.keepF xa)
   have pp := hid (hpx.out.fx xa)
   simp only [nv] at hdy
   clear hy hpr hpx
   replace hs2 := hid hs2
   have HLj := hid hLj
   clear hLj
   obtain ⟨dv, hdv, hov⟩ := hp1.out.val
   have hpw := hid hp1.out.pow
   obtain ⟨p0, n0, cc0, rfl⟩ : ∃ p n c, dv = .slice p n c := by
    rcases hov.2 with ⟨rfl, _⟩ | ⟨g, cap, cur, rfl, _⟩
    ·exact ⟨_, _, _, rfl⟩
    ·exact ⟨_, _, _, rfl⟩
   have hd0v := cell_one hdv
   have xz : Fx (wr.alloc (.cells #[.int .i64 y.k, .string (sv y.t), .int .i64 y.n, .slice p' y.l.length c'] 24)) ((wr.alloc (.cells #[.int .i64 y.k, .string (sv y.t), .int .i64 y.n, .slice p' y.l.length c'] 24)).alloc (.cells #[.iface 80 (.agg #[])] 76)) := Ext.alloc _ _ _
   have hd1 := hid ((xz.block pb (Array.getElem?_eq_some_iff.1 hdv).1 id).trans hdv)
   have ho1 := hid (own_keepF hov xz)
   have hcn := cell_alloc (wr.alloc (.cells #[.int .i64 y.k, .string (sv y.t), .int .i64 y.n, .slice p' y.l.length c'] 24)) #[.iface 80 (.agg #[])] 76 0 _ rfl
   have hbs : B ≤ ((wr.alloc (.cells #[.int .i64 y.k, .string (sv y.t), .int .i64 y.n, .slice p' y.l.length c'] 24)).alloc (.cells #[.iface 80 (.agg #[])] 76)).heap.size := by have := hpb.out; have := hp1.out.lt; rw [alloc_size]; omega
   have hlen0 := hid (show (L ++ [Pc.opn] ++ linesG qS (l.take j)).length ≤ 4398046511104 from (lo HLj.out))
   clear hdv hov
   rw [alloc_size] at hcn
   go_wp2_with (first
    | (at_builtin; refine wpList_append_pc rfl (.tmp 29) (.tmp 32) 41 rfl B ii _ Tryz.underlying41 hi hz0 hz1 hz2 rfl _ (L ++ [Pc.opn] ++ linesG qS (l.take j)) _ 1 .line rfl rfl ho1.out hcn hlen0.out hbs ?_; intro p7 n7 c7 w7 hown7 hg7; obtain ⟨⟨g1, g2⟩, g3, g4⟩ := px_grown hpb.out hd1.out ho1.out hg7 hown7 (hpw.out.keepF xz); replace g3 := hid g3; replace hown7 := hid hown7; have gx := Px.trans (Px.of (B := B) (pb := pb) xz) g4; clear g4; replace pp := hid (pp.out.trans gx); replace hp1 := hid g3.out; replace HC := hid (gx.loc HC.out hneC (by decide)); replace ⟨d0, d1, d2, d3⟩ := blk4 HC.out; replace hdy := hid (hdy.out.keepP gx hpb.out); replace hT := hid (hT.out.keepP gx hpb.out))
    | (go_at_call 31; refine (Hm.out.1 _ hp1.out _ hdy.out (lo HLj.out)).mono ?_; rintro e w31 ⟨rfl, hq, z_⟩; replace pp := hid (pp.out.trans z_); replace hp1 := hid hq; replace HC := hid (z_.loc HC.out hneC (by decide)); replace ⟨d0, d1, d2, d3⟩ := blk4 HC.out; replace hdy := hid (hdy.out.keepP z_ hpb.out); replace hT := hid (hT.out.keepP z_ hpb.out)))
   go_roundw
   case rel => exact ⟨j + 1, by omega, by go_num, hid (hp1.out.cast (by rw [hs2.out]; simp)), hid pp.out⟩
   case measure => simp [intOf]; omega
  ·have hp1 := hid (hpr.out.cast (show _ = L ++ [Pc.opn] ++ linesG qS l by rw [List.take_of_length_le (by omega)]))
   have pp := hid hpx.out
   have hT := hid (hT0.out.keepP hpx.out hpb.out)
   clear hpr hpx
   obtain ⟨dv, hdv, hov⟩ := hp1.out.val
   have hpw := hid hp1.out.pow
   obtain ⟨p0, n0, cc0, rfl⟩ : ∃ p n c, dv = .slice p n c := by
    rcases hov.2 with ⟨rfl, _⟩ | ⟨g, cap, cur, rfl, _⟩
    ·exact ⟨_, _, _, rfl⟩
    ·exact ⟨_, _, _, rfl⟩
   have hd0v := cell_one hdv
   have xz : Fx wr (wr.alloc (.cells #[.iface 82 (.agg #[])] 76)) := Ext.alloc _ _ _
   have hd1 := hid ((xz.block pb (Array.getElem?_eq_some_iff.1 hdv).1 id).trans hdv)
   have ho1 := hid (own_keepF hov xz)
   have hcn := cell_alloc wr #[.iface 82 (.agg #[])] 76 0 _ rfl
   have hbs : B ≤ (wr.alloc (.cells #[.iface 82 (.agg #[])] 76)).heap.size := by have := hpb.out; have := hp1.out.lt; rw [alloc_size]; omega
   have hlen0 := hid (show (L ++ [Pc.opn] ++ linesG qS l).length ≤ 4398046511104 from (lo HL.out))
   clear hdv hov
   go_wp2_with (at_builtin; refine wpList_append_pc rfl (.tmp 44) (.tmp 47) 41 rfl B ii _ Tryz.underlying41 hi hz0 hz1 hz2 rfl _ (L ++ [Pc.opn] ++ linesG qS l) _ 1 .shut rfl rfl ho1.out hcn hlen0.out hbs ?_; intro p7 n7 c7 w7 hown7 hg7; obtain ⟨⟨g1, g2⟩, g3, g4⟩ := px_grown hpb.out hd1.out ho1.out hg7 hown7 (hpw.out.keepF xz); replace g3 := hid g3; replace hown7 := hid hown7; have gx := Px.trans (Px.of (B := B) (pb := pb) xz) g4; clear g4; replace pp := hid (pp.out.trans gx); replace hp1 := hid g3.out; replace hT := hid (hT.out.keepP gx hpb.out))
   try simp only [Exit.inBlock, Exit.then]
   refine be rfl rfl ?_
   exact ⟨rfl, hp1.out.cast (by simp), pp.out⟩

theorem block_p  {B pb : Nat} {L : List Pc} {w : World} {v : Value} (x : Tr) (hm : ∀ y ∈ x.l, (∀ {L : List Pc} (w : World), PrAt B w pb L → ∀ v, NT B w v y → (L ++ qS y).length ≤ 4398046511104 → Calls Tryz.prog 31 #[.pointer (some ⟨pb, 0, none⟩), v] w (Pts B pb w (L ++ qS y))) ∧ True) (hp : PrAt B w pb L) (h : NT B w v x) : Pn 74 B pb w L v (Pc.opn :: (linesG qS x.l ++ [Pc.shut])) := by
 intro hl
 obtain ⟨sl, rfl, hks, hkr, hnr, htl⟩ := id h.node.open
 obtain ⟨p, c, rfl, _⟩ := hks.kid
 have hpb := hid hp.le
 have hne : w.heap.size ≠ pb := by have := hp.lt; omega
 have xw : Fx w (w.alloc (.cells #[.int .i64 x.k, .string (sv x.t), .int .i64 x.n, .slice p x.l.length c] 24)) := Ext.alloc _ _ _
 have pp := hid (Px.of (B := B) (pb := pb) xw)
 have HB := hid (heap_new w (.cells #[.int .i64 x.k, .string (sv x.t), .int .i64 x.n, .slice p x.l.length c] 24))
 obtain ⟨c0, c1, c2, c3⟩ := nd_cells w x.k x.n (sv x.t) (.slice p x.l.length c)
 have hd := hid (h.keepF xw)
 have hT := hid (h.tab.keepF xw)
 have hp1 := hid (hp.keepF xw)
 have Hu := hid hm
 have HL := hid hl
 have hk := hid (hks.keepF xw)
 clear hm hl
 clear h hks hkr hnr hp
 simp only [nv] at hd ⊢
 go_enter Tryz.func74, Tryz.ntmps74
 go_wp2_with (go_at_call 139; refine (inside_31 x.l hp1.out hk.out hT.out Hu.out (lo HL.out)).mono ?_; rintro e w139 ⟨rfl, hq, z_⟩; replace ⟨pp, hp1, HB, c0, c1, c2, c3⟩ := Q5 z_ pp hq HB hne; replace hd := hid (hd.out.keepP z_ hpb.out); replace hT := hid (hT.out.keepP z_ hpb.out))
 try simp only [Exit.inBlock, Exit.then]
 refine be rfl rfl ?_
 exact ⟨rfl, hp1.out, pp.out⟩

theorem body_p (ya yb yd : Tr) {B pb : Nat} {L : List Pc} {w : World} {v : Value} (hp : PrAt B w pb L) (h : KidsAt B w v [ya, yb, yd]) (ht0 : Tabs B w) (ha1 : isPms false ya = true) (hb1 : isTyOr yb = true) (hm : ∀ y ∈ yd.l, (∀ {L : List Pc} (w : World), PrAt B w pb L → ∀ v, NT B w v y → (L ++ qS y).length ≤ 4398046511104 → Calls Tryz.prog 31 #[.pointer (some ⟨pb, 0, none⟩), v] w (Pts B pb w (L ++ qS y))) ∧ True) : Pn 72 B pb w L v (pmsP ya ++ tyOrP yb ++ [wd [32]] ++ (Pc.opn :: (linesG qS yd.l ++ [Pc.shut]))) := by
 intro hl
 have hsv := sv_list
 obtain ⟨p, c, rfl, hcp, hkid⟩ := h.kid
 have hpb := hid hp.le
 have xw : Fx w w := Ext.refl _ _
 have pp := hid (Px.refl B pb w)
 have hk := hid True.intro
 have hT0 := hid ht0
 have hT := hid ht0
 have hp1 := hid hp
 have HL := hid hl
 have K := hid hkid
 have hll := hid hcp.2
 have H1 := hid ha1
 have H2 := hid hb1
 have Hu := hid hm
 clear ha1 hb1 hm
 clear h hkid hcp hp hl ht0
 try simp only [lC, lN, zA, Nat.reduceAdd] at *
 obtain ⟨g, o, s0, rfl, hgB, a0, a1, a2, a3, ha⟩ := K.out 0 (by simp)
 obtain ⟨g1, o1, s1, hgo, hgB1, b0, b1, b2, b3, hb⟩ := K.out 1 (by simp)
 simp only [Option.some.injEq, Addr.mk.injEq, and_true] at hgo
 obtain ⟨rfl, rfl⟩ := hgo
 obtain ⟨g2, o2, s2, hgo, hgB2, d0, d1, d2, d3, hd⟩ := K.out 2 (by simp)
 simp only [Option.some.injEq, Addr.mk.injEq, and_true] at hgo
 obtain ⟨rfl, rfl⟩ := hgo
 simp only [gZ, gS, zM, oM, aZ, lC, lN, zA, Nat.reduceAdd, Nat.reduceMul] at *
 replace ⟨a0, a1, a2, a3⟩ := F4 xw a0 a1 a2 a3
 replace ha := hid ((NT.mk ha hT0.out).keepF xw)
 simp only [nv] at ha
 obtain ⟨sla, hsa, hksa, _⟩ := id ha.out.node.open
 obtain ⟨pka, cca, hva, _⟩ := hksa.kid
 obtain rfl : s0 = .slice pka ya.l.length cca := by rw [← hva]; simpa [nv] using hsa
 clear hsa hksa hva
 replace ⟨b0, b1, b2, b3⟩ := F4 xw b0 b1 b2 b3
 replace hb := hid ((NT.mk hb hT0.out).keepF xw)
 simp only [nv] at hb
 obtain ⟨slb, hsb, hksb, _⟩ := id hb.out.node.open
 obtain ⟨pkb, ccb, hvb, _⟩ := hksb.kid
 obtain rfl : s1 = .slice pkb yb.l.length ccb := by rw [← hvb]; simpa [nv] using hsb
 clear hsb hksb hvb
 replace ⟨d0, d1, d2, d3⟩ := F4 xw d0 d1 d2 d3
 replace hd := hid ((NT.mk hd hT0.out).keepF xw)
 simp only [nv] at hd
 obtain ⟨sld, hsd, hksd, _⟩ := id hd.out.node.open
 obtain ⟨pkd, ccd, hvd, _⟩ := hksd.kid
 obtain rfl : s2 = .slice pkd yd.l.length ccd := by rw [← hvd]; simpa [nv] using hsd
 clear hsd hksd hvd
 clear K
 clear hk
 go_enter Tryz.func72, Tryz.ntmps72
 go_wp2_with ((first | (go_at_call 70; refine (pms_p false ya H1.out hp1.out ha.out (lo HL.out)).mono ?_; rintro e w70 ⟨rfl, hq, z_⟩) | (go_at_call 71; refine (typeOr_p yb H2.out hp1.out hb.out (lo HL.out)).mono ?_; rintro e w71 ⟨rfl, hq, z_⟩) | (go_at_call 67; refine (pl [[32]] hp1.out (lo HL.out)).mono ?_; rintro e w67 ⟨rfl, hq, z_⟩) | (go_at_call 74; refine (block_p yd Hu.out hp1.out hd.out (lo HL.out)).mono ?_; rintro e w74 ⟨rfl, hq, z_⟩)) <;> (replace pp := hid (pp.out.trans z_); replace hp1 := hid hq; replace ⟨a0, a1, a2, a3⟩ := P4 z_ hpb.out hgB a0 a1 a2 a3; replace ha := hid (ha.out.keepP z_ hpb.out); replace ⟨b0, b1, b2, b3⟩ := P4 z_ hpb.out hgB b0 b1 b2 b3; replace hb := hid (hb.out.keepP z_ hpb.out); replace ⟨d0, d1, d2, d3⟩ := P4 z_ hpb.out hgB d0 d1 d2 d3; replace hd := hid (hd.out.keepP z_ hpb.out); replace hT := hid (hT.out.keepP z_ hpb.out)))
 try simp only [Exit.inBlock, Exit.then]
 refine be rfl rfl ?_
 exact ⟨rfl, hp1.out.cast (by simp), pp.out⟩

theorem b1 (n : Int) (B pb : Nat) (L : List Pc) (w : World) (v : Value) (hp : PrAt B w pb L) (h : NT B w v (.mk 1 [] n [])) (h0 : 0 ≤ n) (h1 : n ≤ 9007199254740991) : Pn 68 B pb w L v ([wd (Lib.itoa n)]) := by
 intro hl
 have hsv := sv_list
 obtain ⟨p, c, rfl, hks, hkr, hnr, htl, hcp, hkid, hpb, hne, xw, pp, HB, ⟨c0, c1, c2, c3⟩, hd, hk, hT0, hT, hp1⟩ := hS hp h
 have HL := hid hl
 have K := hid hkid
 have hll := hid hcp.2
 have hn0 := hid (show -9223372036854775808 ≤ n by omega)
 have hn1 := hid (show n ≤ 9223372036854775807 by omega)
 clear h0 h1
 clear h hks hkid hcp hkr hnr hp hl
 simp only [nv, Tr.k, Tr.t, Tr.n, Tr.l, lC, lN, zA, Nat.reduceAdd] at hd hk HB pp c0 c1 c2 c3 ⊢
 clear K
 go_enter Tryz.func68, Tryz.ntmps68
 go_wp2_with ((first | (go_at_call 132; refine (itoa_p n hn0.out hn1.out B _ hp1.out.pow).mono ?_; rintro e w132 ⟨rfl, z_⟩; have hq := hp1.out.keepF z_; replace z_ := Px.of (B := B) (pb := pb) z_) | (go_at_call 67; refine (pl [Lib.itoa n] hp1.out (lo HL.out)).mono ?_; rintro e w67 ⟨rfl, hq, z_⟩)) <;> (replace ⟨pp, hp1, HB, c0, c1, c2, c3⟩ := Q5 z_ pp hq HB hne; replace ⟨hd, hk, hT⟩ := D3 z_ hpb hd hk hT))
 try simp only [Exit.inBlock, Exit.then]
 refine be rfl rfl ?_
 exact ⟨rfl, hp1.out.cast (by first | (simp; done) | (simp <;> rfl)), pp.out⟩

theorem b2 (t : Bs) (B pb : Nat) (L : List Pc) (w : World) (v : Value) (hp : PrAt B w pb L) (h : NT B w v (.mk 2 t 0 [])) (hv : valid t = true) : Pn 68 B pb w L v ([wd (quote t)]) := by
 intro hl
 have hsv := sv_list
 obtain ⟨p, c, rfl, hks, hkr, hnr, htl, hcp, hkid, hpb, hne, xw, pp, HB, ⟨c0, c1, c2, c3⟩, hd, hk, hT0, hT, hp1⟩ := hS hp h
 have HL := hid hl
 have K := hid hkid
 have hll := hid hcp.2
 have Hv := hid hv
 clear hv
 clear h hks hkid hcp hkr hnr hp hl
 simp only [nv, Tr.k, Tr.t, Tr.n, Tr.l, lC, lN, zA, Nat.reduceAdd] at hd hk HB pp c0 c1 c2 c3 ⊢
 clear K
 go_enter Tryz.func68, Tryz.ntmps68
 go_wp2_with ((first | (go_at_call 133; refine (quote_p t Hv.out htl B _ hT.out).mono ?_; rintro e w133 ⟨rfl, z_⟩; have hq := hp1.out.keepF z_; replace z_ := Px.of (B := B) (pb := pb) z_) | (go_at_call 67; refine (pl [quote t] hp1.out (lo HL.out)).mono ?_; rintro e w67 ⟨rfl, hq, z_⟩)) <;> (replace ⟨pp, hp1, HB, c0, c1, c2, c3⟩ := Q5 z_ pp hq HB hne; replace ⟨hd, hk, hT⟩ := D3 z_ hpb hd hk hT))
 try simp only [Exit.inBlock, Exit.then]
 refine be rfl rfl ?_
 exact ⟨rfl, hp1.out.cast (by first | (simp; done) | (simp <;> rfl)), pp.out⟩

theorem b3_0  (B pb : Nat) (L : List Pc) (w : World) (v : Value) (hp : PrAt B w pb L) (h : NT B w v (.mk 3 [] 0 []))  : Pn 68 B pb w L v ([wd (boolT false)]) := by
 intro hl
 have hsv := sv_list
 obtain ⟨p, c, rfl, hks, hkr, hnr, htl, hcp, hkid, hpb, hne, xw, pp, HB, ⟨c0, c1, c2, c3⟩, hd, hk, hT0, hT, hp1⟩ := hS hp h
 have HL := hid hl
 have K := hid hkid
 have hll := hid hcp.2
 clear h hks hkid hcp hkr hnr hp hl
 simp only [nv, Tr.k, Tr.t, Tr.n, Tr.l, lC, lN, zA, Nat.reduceAdd] at hd hk HB pp c0 c1 c2 c3 ⊢
 clear K
 go_enter Tryz.func68, Tryz.ntmps68
 go_wp2_with ((first | (go_at_call 134; refine (fbool_p false _).mono ?_; rintro e w134 ⟨rfl, z_⟩; have hq := hp1.out.keepF z_; replace z_ := Px.of (B := B) (pb := pb) z_) | (go_at_call 67; refine (pl [boolT false] hp1.out (lo HL.out)).mono ?_; rintro e w67 ⟨rfl, hq, z_⟩)) <;> (replace ⟨pp, hp1, HB, c0, c1, c2, c3⟩ := Q5 z_ pp hq HB hne; replace ⟨hd, hk, hT⟩ := D3 z_ hpb hd hk hT))
 try simp only [Exit.inBlock, Exit.then]
 refine be rfl rfl ?_
 exact ⟨rfl, hp1.out.cast (by first | (simp; done) | (simp <;> rfl)), pp.out⟩

theorem b3_1  (B pb : Nat) (L : List Pc) (w : World) (v : Value) (hp : PrAt B w pb L) (h : NT B w v (.mk 3 [] 1 []))  : Pn 68 B pb w L v ([wd (boolT true)]) := by
 intro hl
 have hsv := sv_list
 obtain ⟨p, c, rfl, hks, hkr, hnr, htl, hcp, hkid, hpb, hne, xw, pp, HB, ⟨c0, c1, c2, c3⟩, hd, hk, hT0, hT, hp1⟩ := hS hp h
 have HL := hid hl
 have K := hid hkid
 have hll := hid hcp.2
 clear h hks hkid hcp hkr hnr hp hl
 simp only [nv, Tr.k, Tr.t, Tr.n, Tr.l, lC, lN, zA, Nat.reduceAdd] at hd hk HB pp c0 c1 c2 c3 ⊢
 clear K
 go_enter Tryz.func68, Tryz.ntmps68
 go_wp2_with ((first | (go_at_call 134; refine (fbool_p true _).mono ?_; rintro e w134 ⟨rfl, z_⟩; have hq := hp1.out.keepF z_; replace z_ := Px.of (B := B) (pb := pb) z_) | (go_at_call 67; refine (pl [boolT true] hp1.out (lo HL.out)).mono ?_; rintro e w67 ⟨rfl, hq, z_⟩)) <;> (replace ⟨pp, hp1, HB, c0, c1, c2, c3⟩ := Q5 z_ pp hq HB hne; replace ⟨hd, hk, hT⟩ := D3 z_ hpb hd hk hT))
 try simp only [Exit.inBlock, Exit.then]
 refine be rfl rfl ?_
 exact ⟨rfl, hp1.out.cast (by first | (simp; done) | (simp <;> rfl)), pp.out⟩

theorem b4  (B pb : Nat) (L : List Pc) (w : World) (v : Value) (hp : PrAt B w pb L) (h : NT B w v (.mk 4 [] 0 []))  : Pn 68 B pb w L v ([wd [110, 117, 108, 108]]) := by
 intro hl
 have hsv := sv_list
 obtain ⟨p, c, rfl, hks, hkr, hnr, htl, hcp, hkid, hpb, hne, xw, pp, HB, ⟨c0, c1, c2, c3⟩, hd, hk, hT0, hT, hp1⟩ := hS hp h
 have HL := hid hl
 have K := hid hkid
 have hll := hid hcp.2
 clear h hks hkid hcp hkr hnr hp hl
 simp only [nv, Tr.k, Tr.t, Tr.n, Tr.l, lC, lN, zA, Nat.reduceAdd] at hd hk HB pp c0 c1 c2 c3 ⊢
 clear K
 go_enter Tryz.func68, Tryz.ntmps68
 go_wp2_with (go_at_call 67; refine (pl [[110, 117, 108, 108]] hp1.out (lo HL.out)).mono ?_; rintro e w67 ⟨rfl, hq, z_⟩; replace ⟨pp, hp1, HB, c0, c1, c2, c3⟩ := Q5 z_ pp hq HB hne; replace ⟨hd, hk, hT⟩ := D3 z_ hpb hd hk hT)
 try simp only [Exit.inBlock, Exit.then]
 refine be rfl rfl ?_
 exact ⟨rfl, hp1.out.cast (by first | (simp; done) | (simp <;> rfl)), pp.out⟩

theorem b5  (B pb : Nat) (L : List Pc) (w : World) (v : Value) (hp : PrAt B w pb L) (h : NT B w v (.mk 5 [] 0 []))  : Pn 68 B pb w L v ([wd [117, 110, 100, 101, 102, 105, 110, 101, 100]]) := by
 intro hl
 have hsv := sv_list
 obtain ⟨p, c, rfl, hks, hkr, hnr, htl, hcp, hkid, hpb, hne, xw, pp, HB, ⟨c0, c1, c2, c3⟩, hd, hk, hT0, hT, hp1⟩ := hS hp h
 have HL := hid hl
 have K := hid hkid
 have hll := hid hcp.2
 clear h hks hkid hcp hkr hnr hp hl
 simp only [nv, Tr.k, Tr.t, Tr.n, Tr.l, lC, lN, zA, Nat.reduceAdd] at hd hk HB pp c0 c1 c2 c3 ⊢
 clear K
 go_enter Tryz.func68, Tryz.ntmps68
 go_wp2_with (go_at_call 67; refine (pl [[117, 110, 100, 101, 102, 105, 110, 101, 100]] hp1.out (lo HL.out)).mono ?_; rintro e w67 ⟨rfl, hq, z_⟩; replace ⟨pp, hp1, HB, c0, c1, c2, c3⟩ := Q5 z_ pp hq HB hne; replace ⟨hd, hk, hT⟩ := D3 z_ hpb hd hk hT)
 try simp only [Exit.inBlock, Exit.then]
 refine be rfl rfl ?_
 exact ⟨rfl, hp1.out.cast (by first | (simp; done) | (simp <;> rfl)), pp.out⟩

theorem b7  (B pb : Nat) (L : List Pc) (w : World) (v : Value) (hp : PrAt B w pb L) (h : NT B w v (.mk 7 [] 0 []))  : Pn 68 B pb w L v ([wd [116, 104, 105, 115]]) := by
 intro hl
 have hsv := sv_list
 obtain ⟨p, c, rfl, hks, hkr, hnr, htl, hcp, hkid, hpb, hne, xw, pp, HB, ⟨c0, c1, c2, c3⟩, hd, hk, hT0, hT, hp1⟩ := hS hp h
 have HL := hid hl
 have K := hid hkid
 have hll := hid hcp.2
 clear h hks hkid hcp hkr hnr hp hl
 simp only [nv, Tr.k, Tr.t, Tr.n, Tr.l, lC, lN, zA, Nat.reduceAdd] at hd hk HB pp c0 c1 c2 c3 ⊢
 clear K
 go_enter Tryz.func68, Tryz.ntmps68
 go_wp2_with (go_at_call 67; refine (pl [[116, 104, 105, 115]] hp1.out (lo HL.out)).mono ?_; rintro e w67 ⟨rfl, hq, z_⟩; replace ⟨pp, hp1, HB, c0, c1, c2, c3⟩ := Q5 z_ pp hq HB hne; replace ⟨hd, hk, hT⟩ := D3 z_ hpb hd hk hT)
 try simp only [Exit.inBlock, Exit.then]
 refine be rfl rfl ?_
 exact ⟨rfl, hp1.out.cast (by first | (simp; done) | (simp <;> rfl)), pp.out⟩

theorem b6 (t : Bs) (B pb : Nat) (L : List Pc) (w : World) (v : Value) (hp : PrAt B w pb L) (h : NT B w v (.mk 6 t 0 []))  : Pn 68 B pb w L v ([wd t]) := by
 intro hl
 have hsv := sv_list
 obtain ⟨p, c, rfl, hks, hkr, hnr, htl, hcp, hkid, hpb, hne, xw, pp, HB, ⟨c0, c1, c2, c3⟩, hd, hk, hT0, hT, hp1⟩ := hS hp h
 have HL := hid hl
 have K := hid hkid
 have hll := hid hcp.2
 clear h hks hkid hcp hkr hnr hp hl
 simp only [nv, Tr.k, Tr.t, Tr.n, Tr.l, lC, lN, zA, Nat.reduceAdd] at hd hk HB pp c0 c1 c2 c3 ⊢
 clear K
 go_enter Tryz.func68, Tryz.ntmps68
 go_wp2_with (go_at_call 67; refine (pl [t] hp1.out (lo HL.out)).mono ?_; rintro e w67 ⟨rfl, hq, z_⟩; replace ⟨pp, hp1, HB, c0, c1, c2, c3⟩ := Q5 z_ pp hq HB hne; replace ⟨hd, hk, hT⟩ := D3 z_ hpb hd hk hT)
 try simp only [Exit.inBlock, Exit.then]
 refine be rfl rfl ?_
 exact ⟨rfl, hp1.out.cast (by first | (simp; done) | (simp <;> rfl)), pp.out⟩

theorem b8 {N : Nat} (ihE : ExprP N) (l : List Tr) (B pb : Nat) (L : List Pc) (w : World) (v : Value) (hp : PrAt B w pb L) (h : NT B w v (.mk 8 [] 0 l)) (hc : cnts l < N) (hm : ∀ y ∈ l, isE y = true ∧ wt y ≤ BW) : Pn 68 B pb w L v ([wd [91]] ++ listP true l ++ [wd [93]]) := by
 intro hl
 have hsv := sv_list
 obtain ⟨p, c, rfl, hks, hkr, hnr, htl, hcp, hkid, hpb, hne, xw, pp, HB, ⟨c0, c1, c2, c3⟩, hd, hk, hT0, hT, hp1⟩ := hS hp h
 have HL := hid hl
 have K := hid hkid
 have hll := hid hcp.2
 have Hc := hid hc
 have Hu := hid hm
 clear hc hm
 clear h hks hkid hcp hkr hnr hp hl
 simp only [nv, Tr.k, Tr.t, Tr.n, Tr.l, lC, lN, zA, Nat.reduceAdd] at hd hk HB pp c0 c1 c2 c3 ⊢
 clear K
 go_enter Tryz.func68, Tryz.ntmps68
 go_wp2_with ((first | (go_at_call 67; (first | refine (pl [[91]] hp1.out (lo HL.out)).mono ?_ | refine (pl [[93]] hp1.out (lo HL.out)).mono ?_); rintro e w67 ⟨rfl, hq, z_⟩) | (go_at_call 135; refine (list_p ihE l hp1.out hk.out hT.out Hc.out Hu.out (lo HL.out)).mono ?_; rintro e w135 ⟨rfl, hq, z_⟩)) <;> (replace ⟨pp, hp1, HB, c0, c1, c2, c3⟩ := Q5 z_ pp hq HB hne; replace ⟨hd, hk, hT⟩ := D3 z_ hpb hd hk hT))
 try simp only [Exit.inBlock, Exit.then]
 refine be rfl rfl ?_
 exact ⟨rfl, hp1.out.cast (by first | (simp; done) | (simp <;> rfl)), pp.out⟩

theorem b9_0  (B pb : Nat) (L : List Pc) (w : World) (v : Value) (hp : PrAt B w pb L) (h : NT B w v (.mk 9 [] 0 []))  : Pn 68 B pb w L v ([wd [123, 125]]) := by
 intro hl
 have hsv := sv_list
 obtain ⟨p, c, rfl, hks, hkr, hnr, htl, hcp, hkid, hpb, hne, xw, pp, HB, ⟨c0, c1, c2, c3⟩, hd, hk, hT0, hT, hp1⟩ := hS hp h
 have HL := hid hl
 have K := hid hkid
 have hll := hid hcp.2
 clear h hks hkid hcp hkr hnr hp hl
 simp only [nv, Tr.k, Tr.t, Tr.n, Tr.l, lC, lN, zA, Nat.reduceAdd] at hd hk HB pp c0 c1 c2 c3 ⊢
 clear K
 go_enter Tryz.func68, Tryz.ntmps68
 go_wp2_with (go_at_call 136; refine (object_0 hp1.out hk.out hT.out (lo HL.out)).mono ?_; rintro e w136 ⟨rfl, hq, z_⟩; replace ⟨pp, hp1, HB, c0, c1, c2, c3⟩ := Q5 z_ pp hq HB hne; replace ⟨hd, hk, hT⟩ := D3 z_ hpb hd hk hT)
 try simp only [Exit.inBlock, Exit.then]
 refine be rfl rfl ?_
 exact ⟨rfl, hp1.out.cast (by first | (simp; done) | (simp <;> rfl)), pp.out⟩

theorem b9 {N : Nat} (ihE : ExprP N) (l : List Tr) (B pb : Nat) (L : List Pc) (w : World) (v : Value) (hp : PrAt B w pb L) (h : NT B w v (.mk 9 [] 0 l)) (hc : cnts l < N) (hpos : 0 < l.length) (hm : ∀ y ∈ l, ∃ kt z, y = .mk 10 kt 0 [z] ∧ isE z = true ∧ wt z ≤ BW) : Pn 68 B pb w L v ([wd [123, 32]] ++ propsP true l ++ [wd [32, 125]]) := by
 intro hl
 have hsv := sv_list
 obtain ⟨p, c, rfl, hks, hkr, hnr, htl, hcp, hkid, hpb, hne, xw, pp, HB, ⟨c0, c1, c2, c3⟩, hd, hk, hT0, hT, hp1⟩ := hS hp h
 have HL := hid hl
 have K := hid hkid
 have hll := hid hcp.2
 have Hc := hid hc
 have Hu := hid hm
 clear hc hm
 have Hp := hid hpos
 clear hpos
 clear h hks hkid hcp hkr hnr hp hl
 simp only [nv, Tr.k, Tr.t, Tr.n, Tr.l, lC, lN, zA, Nat.reduceAdd] at hd hk HB pp c0 c1 c2 c3 ⊢
 clear K
 go_enter Tryz.func68, Tryz.ntmps68
 go_wp2_with (go_at_call 136; refine (object_p ihE l hp1.out hk.out hT.out Hc.out Hp.out Hu.out (lo HL.out)).mono ?_; rintro e w136 ⟨rfl, hq, z_⟩; replace ⟨pp, hp1, HB, c0, c1, c2, c3⟩ := Q5 z_ pp hq HB hne; replace ⟨hd, hk, hT⟩ := D3 z_ hpb hd hk hT)
 try simp only [Exit.inBlock, Exit.then]
 refine be rfl rfl ?_
 exact ⟨rfl, hp1.out.cast (by first | (simp; done) | (simp <;> rfl)), pp.out⟩

theorem b11 (ya yb yd : Tr) (B pb : Nat) (L : List Pc) (w : World) (v : Value) (hp : PrAt B w pb L) (h : NT B w v (.mk 11 [] 0 [ya, yb, yd])) (ha1 : isPms false ya = true) (hb1 : isTyOr yb = true) (hm : ∀ y ∈ yd.l, (∀ {L : List Pc} (w : World), PrAt B w pb L → ∀ v, NT B w v y → (L ++ qS y).length ≤ 4398046511104 → Calls Tryz.prog 31 #[.pointer (some ⟨pb, 0, none⟩), v] w (Pts B pb w (L ++ qS y))) ∧ True) : Pn 68 B pb w L v ([wd [102, 117, 110, 99, 116, 105, 111, 110, 32]] ++ (pmsP ya ++ tyOrP yb ++ [wd [32]] ++ (Pc.opn :: (linesG qS yd.l ++ [Pc.shut])))) := by
 intro hl
 have hsv := sv_list
 obtain ⟨p, c, rfl, hks, hkr, hnr, htl, hcp, hkid, hpb, hne, xw, pp, HB, ⟨c0, c1, c2, c3⟩, hd, hk, hT0, hT, hp1⟩ := hS hp h
 have HL := hid hl
 have K := hid hkid
 have hll := hid hcp.2
 have H1 := hid ha1
 have H2 := hid hb1
 have Hu := hid hm
 clear ha1 hb1 hm
 clear h hks hkid hcp hkr hnr hp hl
 simp only [nv, Tr.k, Tr.t, Tr.n, Tr.l, lC, lN, zA, Nat.reduceAdd] at hd hk HB pp c0 c1 c2 c3 ⊢
 clear K
 go_enter Tryz.func68, Tryz.ntmps68
 go_wp2_with ((first | (go_at_call 67; refine (pl [[102, 117, 110, 99, 116, 105, 111, 110, 32]] hp1.out (lo HL.out)).mono ?_; rintro e w67 ⟨rfl, hq, z_⟩) | (go_at_call 72; refine (body_p ya yb yd hp1.out hk.out hT.out H1.out H2.out Hu.out (lo HL.out)).mono ?_; rintro e w72 ⟨rfl, hq, z_⟩)) <;> (replace ⟨pp, hp1, HB, c0, c1, c2, c3⟩ := Q5 z_ pp hq HB hne; replace ⟨hd, hk, hT⟩ := D3 z_ hpb hd hk hT))
 try simp only [Exit.inBlock, Exit.then]
 refine be rfl rfl ?_
 exact ⟨rfl, hp1.out.cast (by first | (simp; done) | (simp <;> rfl)), pp.out⟩

theorem b15_0 {N : Nat} (ihE : ExprP N) (ya : Tr) (B pb : Nat) (L : List Pc) (w : World) (v : Value) (hp : PrAt B w pb L) (h : NT B w v (.mk 15 [45] 0 [ya])) (hca : cnt ya < N) (hea : isE ya = true) (hwa : wt ya ≤ BW) : Pn 68 B pb w L v ([wd [45]] ++ qE 9 ya) := by
 intro hl
 have hsv := sv_list
 obtain ⟨p, c, rfl, hks, hkr, hnr, htl, hcp, hkid, hpb, hne, xw, pp, HB, ⟨c0, c1, c2, c3⟩, hd, hk, hT0, hT, hp1⟩ := hS hp h
 have HL := hid hl
 have K := hid hkid
 have hll := hid hcp.2
 have HCA := hid hca
 have HEA := hid hea
 have HWA := hid hwa
 clear hca hea hwa
 clear h hks hkid hcp hkr hnr hp hl
 simp only [nv, Tr.k, Tr.t, Tr.n, Tr.l, lC, lN, zA, Nat.reduceAdd] at hd hk HB pp c0 c1 c2 c3 ⊢
 obtain ⟨g, o, s0, rfl, hgB, a0, a1, a2, a3, ha⟩ := K.out 0 (by simp)
 simp only [gZ, gS, zM, oM, aZ, lC, lN, zA, Nat.reduceAdd, Nat.reduceMul] at *
 replace ⟨a0, a1, a2, a3⟩ := F4 xw a0 a1 a2 a3
 replace ha := hid ((NT.mk ha hT0.out).keepF xw)
 simp only [nv] at ha
 obtain ⟨sla, hsa, hksa, _⟩ := id ha.out.node.open
 obtain ⟨pka, cca, hva, _⟩ := hksa.kid
 obtain rfl : s0 = .slice pka ya.l.length cca := by rw [← hva]; simpa [nv] using hsa
 clear hsa hksa hva
 clear K
 go_enter Tryz.func68, Tryz.ntmps68
 go_wp2_with ((first | (go_at_call 67; refine (pl [[45]] hp1.out (lo HL.out)).mono ?_; rintro e w67 ⟨rfl, hq, z_⟩) | (go_at_call_of 29 (sv ya.t); refine (ihE.at ya HCA.out HEA.out HWA.out 9 (by first | rfl | (simp; done) | omega) hp1.out ha.out (lo HL.out)).mono ?_; rintro e w29a ⟨rfl, hq, z_⟩)) <;> (replace ⟨pp, hp1, HB, c0, c1, c2, c3⟩ := Q5 z_ pp hq HB hne; replace ⟨a0, a1, a2, a3⟩ := P4 z_ hpb.out hgB a0 a1 a2 a3; replace ha := hid (ha.out.keepP z_ hpb.out); replace ⟨hd, hk, hT⟩ := D3 z_ hpb hd hk hT))
 try simp only [Exit.inBlock, Exit.then]
 refine be rfl rfl ?_
 exact ⟨rfl, hp1.out.cast (by first | (simp; done) | (simp <;> rfl)), pp.out⟩

theorem b15_1 {N : Nat} (ihE : ExprP N) (ya : Tr) (B pb : Nat) (L : List Pc) (w : World) (v : Value) (hp : PrAt B w pb L) (h : NT B w v (.mk 15 [33] 0 [ya])) (hca : cnt ya < N) (hea : isE ya = true) (hwa : wt ya ≤ BW) : Pn 68 B pb w L v ([wd [33]] ++ qE 9 ya) := by
 intro hl
 have hsv := sv_list
 obtain ⟨p, c, rfl, hks, hkr, hnr, htl, hcp, hkid, hpb, hne, xw, pp, HB, ⟨c0, c1, c2, c3⟩, hd, hk, hT0, hT, hp1⟩ := hS hp h
 have HL := hid hl
 have K := hid hkid
 have hll := hid hcp.2
 have HCA := hid hca
 have HEA := hid hea
 have HWA := hid hwa
 clear hca hea hwa
 clear h hks hkid hcp hkr hnr hp hl
 simp only [nv, Tr.k, Tr.t, Tr.n, Tr.l, lC, lN, zA, Nat.reduceAdd] at hd hk HB pp c0 c1 c2 c3 ⊢
 obtain ⟨g, o, s0, rfl, hgB, a0, a1, a2, a3, ha⟩ := K.out 0 (by simp)
 simp only [gZ, gS, zM, oM, aZ, lC, lN, zA, Nat.reduceAdd, Nat.reduceMul] at *
 replace ⟨a0, a1, a2, a3⟩ := F4 xw a0 a1 a2 a3
 replace ha := hid ((NT.mk ha hT0.out).keepF xw)
 simp only [nv] at ha
 obtain ⟨sla, hsa, hksa, _⟩ := id ha.out.node.open
 obtain ⟨pka, cca, hva, _⟩ := hksa.kid
 obtain rfl : s0 = .slice pka ya.l.length cca := by rw [← hva]; simpa [nv] using hsa
 clear hsa hksa hva
 clear K
 go_enter Tryz.func68, Tryz.ntmps68
 go_wp2_with ((first | (go_at_call 67; refine (pl [[33]] hp1.out (lo HL.out)).mono ?_; rintro e w67 ⟨rfl, hq, z_⟩) | (go_at_call_of 29 (sv ya.t); refine (ihE.at ya HCA.out HEA.out HWA.out 9 (by first | rfl | (simp; done) | omega) hp1.out ha.out (lo HL.out)).mono ?_; rintro e w29a ⟨rfl, hq, z_⟩)) <;> (replace ⟨pp, hp1, HB, c0, c1, c2, c3⟩ := Q5 z_ pp hq HB hne; replace ⟨a0, a1, a2, a3⟩ := P4 z_ hpb.out hgB a0 a1 a2 a3; replace ha := hid (ha.out.keepP z_ hpb.out); replace ⟨hd, hk, hT⟩ := D3 z_ hpb hd hk hT))
 try simp only [Exit.inBlock, Exit.then]
 refine be rfl rfl ?_
 exact ⟨rfl, hp1.out.cast (by first | (simp; done) | (simp <;> rfl)), pp.out⟩

theorem b15_2 {N : Nat} (ihE : ExprP N) (ya : Tr) (B pb : Nat) (L : List Pc) (w : World) (v : Value) (hp : PrAt B w pb L) (h : NT B w v (.mk 15 [116, 121, 112, 101, 111, 102] 0 [ya])) (hca : cnt ya < N) (hea : isE ya = true) (hwa : wt ya ≤ BW) : Pn 68 B pb w L v ([wd [116, 121, 112, 101, 111, 102]] ++ [wd [32]] ++ qE 9 ya) := by
 intro hl
 have hsv := sv_list
 obtain ⟨p, c, rfl, hks, hkr, hnr, htl, hcp, hkid, hpb, hne, xw, pp, HB, ⟨c0, c1, c2, c3⟩, hd, hk, hT0, hT, hp1⟩ := hS hp h
 have HL := hid hl
 have K := hid hkid
 have hll := hid hcp.2
 have HCA := hid hca
 have HEA := hid hea
 have HWA := hid hwa
 clear hca hea hwa
 clear h hks hkid hcp hkr hnr hp hl
 simp only [nv, Tr.k, Tr.t, Tr.n, Tr.l, lC, lN, zA, Nat.reduceAdd] at hd hk HB pp c0 c1 c2 c3 ⊢
 obtain ⟨g, o, s0, rfl, hgB, a0, a1, a2, a3, ha⟩ := K.out 0 (by simp)
 simp only [gZ, gS, zM, oM, aZ, lC, lN, zA, Nat.reduceAdd, Nat.reduceMul] at *
 replace ⟨a0, a1, a2, a3⟩ := F4 xw a0 a1 a2 a3
 replace ha := hid ((NT.mk ha hT0.out).keepF xw)
 simp only [nv] at ha
 obtain ⟨sla, hsa, hksa, _⟩ := id ha.out.node.open
 obtain ⟨pka, cca, hva, _⟩ := hksa.kid
 obtain rfl : s0 = .slice pka ya.l.length cca := by rw [← hva]; simpa [nv] using hsa
 clear hsa hksa hva
 clear K
 go_enter Tryz.func68, Tryz.ntmps68
 go_wp2_with ((first | (go_at_call 67; (first | refine (pl [[116, 121, 112, 101, 111, 102]] hp1.out (lo HL.out)).mono ?_ | refine (pl [[32]] hp1.out (lo HL.out)).mono ?_); rintro e w67 ⟨rfl, hq, z_⟩) | (go_at_call_of 29 (sv ya.t); refine (ihE.at ya HCA.out HEA.out HWA.out 9 (by first | rfl | (simp; done) | omega) hp1.out ha.out (lo HL.out)).mono ?_; rintro e w29a ⟨rfl, hq, z_⟩)) <;> (replace ⟨pp, hp1, HB, c0, c1, c2, c3⟩ := Q5 z_ pp hq HB hne; replace ⟨a0, a1, a2, a3⟩ := P4 z_ hpb.out hgB a0 a1 a2 a3; replace ha := hid (ha.out.keepP z_ hpb.out); replace ⟨hd, hk, hT⟩ := D3 z_ hpb hd hk hT))
 try simp only [Exit.inBlock, Exit.then]
 refine be rfl rfl ?_
 exact ⟨rfl, hp1.out.cast (by first | (simp; done) | (simp <;> rfl)), pp.out⟩

theorem b16 {N : Nat} (ihE : ExprP N) (t : Bs) (ya yb : Tr) (B pb : Nat) (L : List Pc) (w : World) (v : Value) (hp : PrAt B w pb L) (h : NT B w v (.mk 16 t 0 [ya, yb])) (hca : cnt ya < N) (hea : isE ya = true) (hwa : wt ya ≤ BW) (hcb : cnt yb < N) (heb : isE yb = true) (hwb : wt yb ≤ BW) (hb0 : binOps.contains t = true) : Pn 68 B pb w L v (qE (binRank t) ya ++ [wd [32], wd t, wd [32]] ++ qE (binRank t + 1) yb) := by
 intro hl
 have hsv := sv_list
 obtain ⟨p, c, rfl, hks, hkr, hnr, htl, hcp, hkid, hpb, hne, xw, pp, HB, ⟨c0, c1, c2, c3⟩, hd, hk, hT0, hT, hp1⟩ := hS hp h
 have HL := hid hl
 have K := hid hkid
 have hll := hid hcp.2
 have HCA := hid hca
 have HEA := hid hea
 have HWA := hid hwa
 have HCB := hid hcb
 have HEB := hid heb
 have HWB := hid hwb
 clear hca hea hwa hcb heb hwb
 have Hb := hid hb0
 clear hb0
 have hbr : ((binRank t : Nat) : Int) ≤ 8 := by have := binrank_le t; omega
 have hbr0 : (0 : Int) ≤ ((binRank t : Nat) : Int) := by omega
 clear h hks hkid hcp hkr hnr hp hl
 simp only [nv, Tr.k, Tr.t, Tr.n, Tr.l, lC, lN, zA, Nat.reduceAdd] at hd hk HB pp c0 c1 c2 c3 ⊢
 obtain ⟨g, o, s0, rfl, hgB, a0, a1, a2, a3, ha⟩ := K.out 0 (by simp)
 obtain ⟨g1, o1, s1, hgo, hgB1, b0, b1, b2, b3, hb⟩ := K.out 1 (by simp)
 simp only [Option.some.injEq, Addr.mk.injEq, and_true] at hgo
 obtain ⟨rfl, rfl⟩ := hgo
 simp only [gZ, gS, zM, oM, aZ, lC, lN, zA, Nat.reduceAdd, Nat.reduceMul] at *
 replace ⟨a0, a1, a2, a3⟩ := F4 xw a0 a1 a2 a3
 replace ha := hid ((NT.mk ha hT0.out).keepF xw)
 simp only [nv] at ha
 obtain ⟨sla, hsa, hksa, _⟩ := id ha.out.node.open
 obtain ⟨pka, cca, hva, _⟩ := hksa.kid
 obtain rfl : s0 = .slice pka ya.l.length cca := by rw [← hva]; simpa [nv] using hsa
 clear hsa hksa hva
 replace ⟨b0, b1, b2, b3⟩ := F4 xw b0 b1 b2 b3
 replace hb := hid ((NT.mk hb hT0.out).keepF xw)
 simp only [nv] at hb
 obtain ⟨slb, hsb, hksb, _⟩ := id hb.out.node.open
 obtain ⟨pkb, ccb, hvb, _⟩ := hksb.kid
 obtain rfl : s1 = .slice pkb yb.l.length ccb := by rw [← hvb]; simpa [nv] using hsb
 clear hsb hksb hvb
 clear K
 go_enter Tryz.func68, Tryz.ntmps68
 go_wp2_with ((first | (go_at_call 131; refine (binrank_p t Hb.out _).mono ?_; rintro e w131 ⟨rfl, z_⟩; have hq := hp1.out.keepF z_; replace z_ := Px.of (B := B) (pb := pb) z_) | (go_at_call_of 29 (sv ya.t); refine (ihE.at ya HCA.out HEA.out HWA.out (binRank t) (by first | rfl | (simp; done) | omega) hp1.out ha.out (lo HL.out)).mono ?_; rintro e w29a ⟨rfl, hq, z_⟩) | (go_at_call 67; refine (pl [[32], t, [32]] hp1.out (lo HL.out)).mono ?_; rintro e w67 ⟨rfl, hq, z_⟩) | (go_at_call_of 29 (sv yb.t); refine (ihE.at yb HCB.out HEB.out HWB.out (binRank t + 1) (by first | rfl | (simp; done) | omega) hp1.out hb.out (lo HL.out)).mono ?_; rintro e w29b ⟨rfl, hq, z_⟩)) <;> (replace ⟨pp, hp1, HB, c0, c1, c2, c3⟩ := Q5 z_ pp hq HB hne; replace ⟨a0, a1, a2, a3⟩ := P4 z_ hpb.out hgB a0 a1 a2 a3; replace ha := hid (ha.out.keepP z_ hpb.out); replace ⟨b0, b1, b2, b3⟩ := P4 z_ hpb.out hgB b0 b1 b2 b3; replace hb := hid (hb.out.keepP z_ hpb.out); replace ⟨hd, hk, hT⟩ := D3 z_ hpb hd hk hT))
 try simp only [Exit.inBlock, Exit.then]
 refine be rfl rfl ?_
 exact ⟨rfl, hp1.out.cast (by first | (simp; done) | (simp <;> rfl)), pp.out⟩

theorem m17 {N : Nat} (ihE : ExprP N) (ya yb ye : Tr) (B pb : Nat) (L : List Pc) (w : World) (v : Value) (hp : PrAt B w pb L) (h : NT B w v (.mk 17 [] 0 [ya, yb, ye])) (hca : cnt ya < N) (hea : isE ya = true) (hwa : wt ya ≤ BW) (hcb : cnt yb < N) (heb : isE yb = true) (hwb : wt yb ≤ BW) (hce : cnt ye < N) (hee : isE ye = true) (hwe : wt ye ≤ BW) : Pn 137 B pb w L v (qE 3 ya ++ [wd [32, 63, 32]] ++ qE 1 yb ++ [wd [32, 58, 32]] ++ qE 1 ye) := by
 intro hl
 have hsv := sv_list
 obtain ⟨p, c, rfl, hks, hkr, hnr, htl, hcp, hkid, hpb, hne, xw, pp, HB, ⟨c0, c1, c2, c3⟩, hd, hk, hT0, hT, hp1⟩ := hS hp h
 have HL := hid hl
 have K := hid hkid
 have hll := hid hcp.2
 have HCA := hid hca
 have HEA := hid hea
 have HWA := hid hwa
 have HCB := hid hcb
 have HEB := hid heb
 have HWB := hid hwb
 have HCE := hid hce
 have HEE := hid hee
 have HWE := hid hwe
 clear hca hea hwa hcb heb hwb hce hee hwe
 clear h hks hkid hcp hkr hnr hp hl
 simp only [nv, Tr.k, Tr.t, Tr.n, Tr.l, lC, lN, zA, Nat.reduceAdd] at hd hk HB pp c0 c1 c2 c3 ⊢
 obtain ⟨g, o, s0, rfl, hgB, a0, a1, a2, a3, ha⟩ := K.out 0 (by simp)
 obtain ⟨g1, o1, s1, hgo, hgB1, b0, b1, b2, b3, hb⟩ := K.out 1 (by simp)
 simp only [Option.some.injEq, Addr.mk.injEq, and_true] at hgo
 obtain ⟨rfl, rfl⟩ := hgo
 obtain ⟨g2, o2, s2, hgo, hgB2, e0, e1, e2, e3, he⟩ := K.out 2 (by simp)
 simp only [Option.some.injEq, Addr.mk.injEq, and_true] at hgo
 obtain ⟨rfl, rfl⟩ := hgo
 simp only [gZ, gS, zM, oM, aZ, lC, lN, zA, Nat.reduceAdd, Nat.reduceMul] at *
 replace ⟨a0, a1, a2, a3⟩ := F4 xw a0 a1 a2 a3
 replace ha := hid ((NT.mk ha hT0.out).keepF xw)
 simp only [nv] at ha
 obtain ⟨sla, hsa, hksa, _⟩ := id ha.out.node.open
 obtain ⟨pka, cca, hva, _⟩ := hksa.kid
 obtain rfl : s0 = .slice pka ya.l.length cca := by rw [← hva]; simpa [nv] using hsa
 clear hsa hksa hva
 replace ⟨b0, b1, b2, b3⟩ := F4 xw b0 b1 b2 b3
 replace hb := hid ((NT.mk hb hT0.out).keepF xw)
 simp only [nv] at hb
 obtain ⟨slb, hsb, hksb, _⟩ := id hb.out.node.open
 obtain ⟨pkb, ccb, hvb, _⟩ := hksb.kid
 obtain rfl : s1 = .slice pkb yb.l.length ccb := by rw [← hvb]; simpa [nv] using hsb
 clear hsb hksb hvb
 replace ⟨e0, e1, e2, e3⟩ := F4 xw e0 e1 e2 e3
 replace he := hid ((NT.mk he hT0.out).keepF xw)
 simp only [nv] at he
 obtain ⟨sle, hse, hkse, _⟩ := id he.out.node.open
 obtain ⟨pke, cce, hve, _⟩ := hkse.kid
 obtain rfl : s2 = .slice pke ye.l.length cce := by rw [← hve]; simpa [nv] using hse
 clear hse hkse hve
 clear K
 go_enter Tryz.func137, Tryz.ntmps137
 go_wp2_with ((first | (go_at_call_of 29 (sv ya.t); refine (ihE.at ya HCA.out HEA.out HWA.out 3 (by first | rfl | (simp; done) | omega) hp1.out ha.out (lo HL.out)).mono ?_; rintro e w29a ⟨rfl, hq, z_⟩) | (go_at_call 67; (first | refine (pl [[32, 63, 32]] hp1.out (lo HL.out)).mono ?_ | refine (pl [[32, 58, 32]] hp1.out (lo HL.out)).mono ?_); rintro e w67 ⟨rfl, hq, z_⟩) | (go_at_call_of 29 (sv yb.t); refine (ihE.at yb HCB.out HEB.out HWB.out 1 (by first | rfl | (simp; done) | omega) hp1.out hb.out (lo HL.out)).mono ?_; rintro e w29b ⟨rfl, hq, z_⟩) | (go_at_call_of 29 (sv ye.t); refine (ihE.at ye HCE.out HEE.out HWE.out 1 (by first | rfl | (simp; done) | omega) hp1.out he.out (lo HL.out)).mono ?_; rintro e w29e ⟨rfl, hq, z_⟩)) <;> (replace ⟨pp, hp1, HB, c0, c1, c2, c3⟩ := Q5 z_ pp hq HB hne; replace ⟨a0, a1, a2, a3⟩ := P4 z_ hpb.out hgB a0 a1 a2 a3; replace ha := hid (ha.out.keepP z_ hpb.out); replace ⟨b0, b1, b2, b3⟩ := P4 z_ hpb.out hgB b0 b1 b2 b3; replace hb := hid (hb.out.keepP z_ hpb.out); replace ⟨e0, e1, e2, e3⟩ := P4 z_ hpb.out hgB e0 e1 e2 e3; replace he := hid (he.out.keepP z_ hpb.out); replace ⟨hd, hk, hT⟩ := D3 z_ hpb hd hk hT))
 try simp only [Exit.inBlock, Exit.then]
 refine be rfl rfl ?_
 exact ⟨rfl, hp1.out.cast (by first | (simp; done) | (simp <;> rfl)), pp.out⟩

theorem b17 {N : Nat} (ihE : ExprP N) (ya yb ye : Tr) (B pb : Nat) (L : List Pc) (w : World) (v : Value) (hp : PrAt B w pb L) (h : NT B w v (.mk 17 [] 0 [ya, yb, ye])) (hca : cnt ya < N) (hea : isE ya = true) (hwa : wt ya ≤ BW) (hcb : cnt yb < N) (heb : isE yb = true) (hwb : wt yb ≤ BW) (hce : cnt ye < N) (hee : isE ye = true) (hwe : wt ye ≤ BW) : Pn 68 B pb w L v (qE 3 ya ++ [wd [32, 63, 32]] ++ qE 1 yb ++ [wd [32, 58, 32]] ++ qE 1 ye) := by
 intro hl
 have hsv := sv_list
 obtain ⟨p, c, rfl, hks, hkr, hnr, htl, hcp, hkid, hpb, hne, xw, pp, HB, ⟨c0, c1, c2, c3⟩, hd, hk, hT0, hT, hp1⟩ := hS hp h
 have HL := hid hl
 have K := hid hkid
 have hll := hid hcp.2
 have HCA := hid hca
 have HEA := hid hea
 have HWA := hid hwa
 have HCB := hid hcb
 have HEB := hid heb
 have HWB := hid hwb
 have HCE := hid hce
 have HEE := hid hee
 have HWE := hid hwe
 clear hca hea hwa hcb heb hwb hce hee hwe
 clear h hks hkid hcp hkr hnr hp hl
 simp only [nv, Tr.k, Tr.t, Tr.n, Tr.l, lC, lN, zA, Nat.reduceAdd] at hd hk HB pp c0 c1 c2 c3 ⊢
 clear K
 go_enter Tryz.func68, Tryz.ntmps68
 go_wp2_with (go_at_call 137; refine (m17 ihE ya yb ye B pb _ _ _ hp1.out hd.out HCA.out HEA.out HWA.out HCB.out HEB.out HWB.out HCE.out HEE.out HWE.out (lo HL.out)).mono ?_; rintro e w137 ⟨rfl, hq, z_⟩; replace ⟨pp, hp1, HB, c0, c1, c2, c3⟩ := Q5 z_ pp hq HB hne; replace ⟨hd, hk, hT⟩ := D3 z_ hpb hd hk hT)
 try simp only [Exit.inBlock, Exit.then]
 refine be rfl rfl ?_
 exact ⟨rfl, hp1.out.cast (by first | (simp; done) | (simp <;> rfl)), pp.out⟩

theorem m18 {N : Nat} (ihE : ExprP N) (ya yb : Tr) (B pb : Nat) (L : List Pc) (w : World) (v : Value) (hp : PrAt B w pb L) (h : NT B w v (.mk 18 [] 0 [ya, yb])) (hca : cnt ya < N) (hea : isE ya = true) (hwa : wt ya ≤ BW) (hcb : cnt yb < N) (heb : isE yb = true) (hwb : wt yb ≤ BW) : Pn 137 B pb w L v (qE 10 ya ++ [wd [32, 61, 32]] ++ qE 1 yb) := by
 intro hl
 have hsv := sv_list
 obtain ⟨p, c, rfl, hks, hkr, hnr, htl, hcp, hkid, hpb, hne, xw, pp, HB, ⟨c0, c1, c2, c3⟩, hd, hk, hT0, hT, hp1⟩ := hS hp h
 have HL := hid hl
 have K := hid hkid
 have hll := hid hcp.2
 have HCA := hid hca
 have HEA := hid hea
 have HWA := hid hwa
 have HCB := hid hcb
 have HEB := hid heb
 have HWB := hid hwb
 clear hca hea hwa hcb heb hwb
 clear h hks hkid hcp hkr hnr hp hl
 simp only [nv, Tr.k, Tr.t, Tr.n, Tr.l, lC, lN, zA, Nat.reduceAdd] at hd hk HB pp c0 c1 c2 c3 ⊢
 obtain ⟨g, o, s0, rfl, hgB, a0, a1, a2, a3, ha⟩ := K.out 0 (by simp)
 obtain ⟨g1, o1, s1, hgo, hgB1, b0, b1, b2, b3, hb⟩ := K.out 1 (by simp)
 simp only [Option.some.injEq, Addr.mk.injEq, and_true] at hgo
 obtain ⟨rfl, rfl⟩ := hgo
 simp only [gZ, gS, zM, oM, aZ, lC, lN, zA, Nat.reduceAdd, Nat.reduceMul] at *
 replace ⟨a0, a1, a2, a3⟩ := F4 xw a0 a1 a2 a3
 replace ha := hid ((NT.mk ha hT0.out).keepF xw)
 simp only [nv] at ha
 obtain ⟨sla, hsa, hksa, _⟩ := id ha.out.node.open
 obtain ⟨pka, cca, hva, _⟩ := hksa.kid
 obtain rfl : s0 = .slice pka ya.l.length cca := by rw [← hva]; simpa [nv] using hsa
 clear hsa hksa hva
 replace ⟨b0, b1, b2, b3⟩ := F4 xw b0 b1 b2 b3
 replace hb := hid ((NT.mk hb hT0.out).keepF xw)
 simp only [nv] at hb
 obtain ⟨slb, hsb, hksb, _⟩ := id hb.out.node.open
 obtain ⟨pkb, ccb, hvb, _⟩ := hksb.kid
 obtain rfl : s1 = .slice pkb yb.l.length ccb := by rw [← hvb]; simpa [nv] using hsb
 clear hsb hksb hvb
 clear K
 go_enter Tryz.func137, Tryz.ntmps137
 go_wp2_with ((first | (go_at_call_of 29 (sv ya.t); refine (ihE.at ya HCA.out HEA.out HWA.out 10 (by first | rfl | (simp; done) | omega) hp1.out ha.out (lo HL.out)).mono ?_; rintro e w29a ⟨rfl, hq, z_⟩) | (go_at_call 67; refine (pl [[32, 61, 32]] hp1.out (lo HL.out)).mono ?_; rintro e w67 ⟨rfl, hq, z_⟩) | (go_at_call_of 29 (sv yb.t); refine (ihE.at yb HCB.out HEB.out HWB.out 1 (by first | rfl | (simp; done) | omega) hp1.out hb.out (lo HL.out)).mono ?_; rintro e w29b ⟨rfl, hq, z_⟩)) <;> (replace ⟨pp, hp1, HB, c0, c1, c2, c3⟩ := Q5 z_ pp hq HB hne; replace ⟨a0, a1, a2, a3⟩ := P4 z_ hpb.out hgB a0 a1 a2 a3; replace ha := hid (ha.out.keepP z_ hpb.out); replace ⟨b0, b1, b2, b3⟩ := P4 z_ hpb.out hgB b0 b1 b2 b3; replace hb := hid (hb.out.keepP z_ hpb.out); replace ⟨hd, hk, hT⟩ := D3 z_ hpb hd hk hT))
 try simp only [Exit.inBlock, Exit.then]
 refine be rfl rfl ?_
 exact ⟨rfl, hp1.out.cast (by first | (simp; done) | (simp <;> rfl)), pp.out⟩

theorem b18 {N : Nat} (ihE : ExprP N) (ya yb : Tr) (B pb : Nat) (L : List Pc) (w : World) (v : Value) (hp : PrAt B w pb L) (h : NT B w v (.mk 18 [] 0 [ya, yb])) (hca : cnt ya < N) (hea : isE ya = true) (hwa : wt ya ≤ BW) (hcb : cnt yb < N) (heb : isE yb = true) (hwb : wt yb ≤ BW) : Pn 68 B pb w L v (qE 10 ya ++ [wd [32, 61, 32]] ++ qE 1 yb) := by
 intro hl
 have hsv := sv_list
 obtain ⟨p, c, rfl, hks, hkr, hnr, htl, hcp, hkid, hpb, hne, xw, pp, HB, ⟨c0, c1, c2, c3⟩, hd, hk, hT0, hT, hp1⟩ := hS hp h
 have HL := hid hl
 have K := hid hkid
 have hll := hid hcp.2
 have HCA := hid hca
 have HEA := hid hea
 have HWA := hid hwa
 have HCB := hid hcb
 have HEB := hid heb
 have HWB := hid hwb
 clear hca hea hwa hcb heb hwb
 clear h hks hkid hcp hkr hnr hp hl
 simp only [nv, Tr.k, Tr.t, Tr.n, Tr.l, lC, lN, zA, Nat.reduceAdd] at hd hk HB pp c0 c1 c2 c3 ⊢
 clear K
 go_enter Tryz.func68, Tryz.ntmps68
 go_wp2_with (go_at_call 137; refine (m18 ihE ya yb B pb _ _ _ hp1.out hd.out HCA.out HEA.out HWA.out HCB.out HEB.out HWB.out (lo HL.out)).mono ?_; rintro e w137 ⟨rfl, hq, z_⟩; replace ⟨pp, hp1, HB, c0, c1, c2, c3⟩ := Q5 z_ pp hq HB hne; replace ⟨hd, hk, hT⟩ := D3 z_ hpb hd hk hT)
 try simp only [Exit.inBlock, Exit.then]
 refine be rfl rfl ?_
 exact ⟨rfl, hp1.out.cast (by first | (simp; done) | (simp <;> rfl)), pp.out⟩

theorem m20 {N : Nat} (ihE : ExprP N) (t : Bs) (l : List Tr) (B pb : Nat) (L : List Pc) (w : World) (v : Value) (hp : PrAt B w pb L) (h : NT B w v (.mk 20 t 0 l)) (hc : cnts l < N) (hm : ∀ y ∈ l, isE y = true ∧ wt y ≤ BW) : Pn 137 B pb w L v ([wd [110, 101, 119, 32], wd t, wd [40]] ++ listP true l ++ [wd [41]]) := by
 intro hl
 have hsv := sv_list
 obtain ⟨p, c, rfl, hks, hkr, hnr, htl, hcp, hkid, hpb, hne, xw, pp, HB, ⟨c0, c1, c2, c3⟩, hd, hk, hT0, hT, hp1⟩ := hS hp h
 have HL := hid hl
 have K := hid hkid
 have hll := hid hcp.2
 have Hc := hid hc
 have Hu := hid hm
 clear hc hm
 clear h hks hkid hcp hkr hnr hp hl
 simp only [nv, Tr.k, Tr.t, Tr.n, Tr.l, lC, lN, zA, Nat.reduceAdd] at hd hk HB pp c0 c1 c2 c3 ⊢
 clear K
 go_enter Tryz.func137, Tryz.ntmps137
 go_wp2_with ((first | (go_at_call 67; (first | refine (pl [[110, 101, 119, 32], t, [40]] hp1.out (lo HL.out)).mono ?_ | refine (pl [[41]] hp1.out (lo HL.out)).mono ?_); rintro e w67 ⟨rfl, hq, z_⟩) | (go_at_call 135; refine (list_p ihE l hp1.out hk.out hT.out Hc.out Hu.out (lo HL.out)).mono ?_; rintro e w135 ⟨rfl, hq, z_⟩)) <;> (replace ⟨pp, hp1, HB, c0, c1, c2, c3⟩ := Q5 z_ pp hq HB hne; replace ⟨hd, hk, hT⟩ := D3 z_ hpb hd hk hT))
 try simp only [Exit.inBlock, Exit.then]
 refine be rfl rfl ?_
 exact ⟨rfl, hp1.out.cast (by first | (simp; done) | (simp <;> rfl)), pp.out⟩

theorem b20 {N : Nat} (ihE : ExprP N) (t : Bs) (l : List Tr) (B pb : Nat) (L : List Pc) (w : World) (v : Value) (hp : PrAt B w pb L) (h : NT B w v (.mk 20 t 0 l)) (hc : cnts l < N) (hm : ∀ y ∈ l, isE y = true ∧ wt y ≤ BW) : Pn 68 B pb w L v ([wd [110, 101, 119, 32], wd t, wd [40]] ++ listP true l ++ [wd [41]]) := by
 intro hl
 have hsv := sv_list
 obtain ⟨p, c, rfl, hks, hkr, hnr, htl, hcp, hkid, hpb, hne, xw, pp, HB, ⟨c0, c1, c2, c3⟩, hd, hk, hT0, hT, hp1⟩ := hS hp h
 have HL := hid hl
 have K := hid hkid
 have hll := hid hcp.2
 have Hc := hid hc
 have Hu := hid hm
 clear hc hm
 clear h hks hkid hcp hkr hnr hp hl
 simp only [nv, Tr.k, Tr.t, Tr.n, Tr.l, lC, lN, zA, Nat.reduceAdd] at hd hk HB pp c0 c1 c2 c3 ⊢
 clear K
 go_enter Tryz.func68, Tryz.ntmps68
 go_wp2_with (go_at_call 137; refine (m20 ihE t l B pb _ _ _ hp1.out hd.out Hc.out Hu.out (lo HL.out)).mono ?_; rintro e w137 ⟨rfl, hq, z_⟩; replace ⟨pp, hp1, HB, c0, c1, c2, c3⟩ := Q5 z_ pp hq HB hne; replace ⟨hd, hk, hT⟩ := D3 z_ hpb hd hk hT)
 try simp only [Exit.inBlock, Exit.then]
 refine be rfl rfl ?_
 exact ⟨rfl, hp1.out.cast (by first | (simp; done) | (simp <;> rfl)), pp.out⟩

theorem m21 {N : Nat} (ihE : ExprP N) (t : Bs) (ya : Tr) (B pb : Nat) (L : List Pc) (w : World) (v : Value) (hp : PrAt B w pb L) (h : NT B w v (.mk 21 t 0 [ya])) (hca : cnt ya < N) (hea : isE ya = true) (hwa : wt ya ≤ BW) : Pn 137 B pb w L v (qE 10 ya ++ [wd [46], wd t]) := by
 intro hl
 have hsv := sv_list
 obtain ⟨p, c, rfl, hks, hkr, hnr, htl, hcp, hkid, hpb, hne, xw, pp, HB, ⟨c0, c1, c2, c3⟩, hd, hk, hT0, hT, hp1⟩ := hS hp h
 have HL := hid hl
 have K := hid hkid
 have hll := hid hcp.2
 have HCA := hid hca
 have HEA := hid hea
 have HWA := hid hwa
 clear hca hea hwa
 clear h hks hkid hcp hkr hnr hp hl
 simp only [nv, Tr.k, Tr.t, Tr.n, Tr.l, lC, lN, zA, Nat.reduceAdd] at hd hk HB pp c0 c1 c2 c3 ⊢
 obtain ⟨g, o, s0, rfl, hgB, a0, a1, a2, a3, ha⟩ := K.out 0 (by simp)
 simp only [gZ, gS, zM, oM, aZ, lC, lN, zA, Nat.reduceAdd, Nat.reduceMul] at *
 replace ⟨a0, a1, a2, a3⟩ := F4 xw a0 a1 a2 a3
 replace ha := hid ((NT.mk ha hT0.out).keepF xw)
 simp only [nv] at ha
 obtain ⟨sla, hsa, hksa, _⟩ := id ha.out.node.open
 obtain ⟨pka, cca, hva, _⟩ := hksa.kid
 obtain rfl : s0 = .slice pka ya.l.length cca := by rw [← hva]; simpa [nv] using hsa
 clear hsa hksa hva
 clear K
 go_enter Tryz.func137, Tryz.ntmps137
 go_wp2_with ((first | (go_at_call_of 29 (sv ya.t); refine (ihE.at ya HCA.out HEA.out HWA.out 10 (by first | rfl | (simp; done) | omega) hp1.out ha.out (lo HL.out)).mono ?_; rintro e w29a ⟨rfl, hq, z_⟩) | (go_at_call 67; refine (pl [[46], t] hp1.out (lo HL.out)).mono ?_; rintro e w67 ⟨rfl, hq, z_⟩)) <;> (replace ⟨pp, hp1, HB, c0, c1, c2, c3⟩ := Q5 z_ pp hq HB hne; replace ⟨a0, a1, a2, a3⟩ := P4 z_ hpb.out hgB a0 a1 a2 a3; replace ha := hid (ha.out.keepP z_ hpb.out); replace ⟨hd, hk, hT⟩ := D3 z_ hpb hd hk hT))
 try simp only [Exit.inBlock, Exit.then]
 refine be rfl rfl ?_
 exact ⟨rfl, hp1.out.cast (by first | (simp; done) | (simp <;> rfl)), pp.out⟩

theorem b21 {N : Nat} (ihE : ExprP N) (t : Bs) (ya : Tr) (B pb : Nat) (L : List Pc) (w : World) (v : Value) (hp : PrAt B w pb L) (h : NT B w v (.mk 21 t 0 [ya])) (hca : cnt ya < N) (hea : isE ya = true) (hwa : wt ya ≤ BW) : Pn 68 B pb w L v (qE 10 ya ++ [wd [46], wd t]) := by
 intro hl
 have hsv := sv_list
 obtain ⟨p, c, rfl, hks, hkr, hnr, htl, hcp, hkid, hpb, hne, xw, pp, HB, ⟨c0, c1, c2, c3⟩, hd, hk, hT0, hT, hp1⟩ := hS hp h
 have HL := hid hl
 have K := hid hkid
 have hll := hid hcp.2
 have HCA := hid hca
 have HEA := hid hea
 have HWA := hid hwa
 clear hca hea hwa
 clear h hks hkid hcp hkr hnr hp hl
 simp only [nv, Tr.k, Tr.t, Tr.n, Tr.l, lC, lN, zA, Nat.reduceAdd] at hd hk HB pp c0 c1 c2 c3 ⊢
 clear K
 go_enter Tryz.func68, Tryz.ntmps68
 go_wp2_with (go_at_call 137; refine (m21 ihE t ya B pb _ _ _ hp1.out hd.out HCA.out HEA.out HWA.out (lo HL.out)).mono ?_; rintro e w137 ⟨rfl, hq, z_⟩; replace ⟨pp, hp1, HB, c0, c1, c2, c3⟩ := Q5 z_ pp hq HB hne; replace ⟨hd, hk, hT⟩ := D3 z_ hpb hd hk hT)
 try simp only [Exit.inBlock, Exit.then]
 refine be rfl rfl ?_
 exact ⟨rfl, hp1.out.cast (by first | (simp; done) | (simp <;> rfl)), pp.out⟩

theorem m22 {N : Nat} (ihE : ExprP N) (ya yb : Tr) (B pb : Nat) (L : List Pc) (w : World) (v : Value) (hp : PrAt B w pb L) (h : NT B w v (.mk 22 [] 0 [ya, yb])) (hca : cnt ya < N) (hea : isE ya = true) (hwa : wt ya ≤ BW) (hcb : cnt yb < N) (heb : isE yb = true) (hwb : wt yb ≤ BW) : Pn 137 B pb w L v (qE 10 ya ++ [wd [91]] ++ qE 1 yb ++ [wd [93]]) := by
 intro hl
 have hsv := sv_list
 obtain ⟨p, c, rfl, hks, hkr, hnr, htl, hcp, hkid, hpb, hne, xw, pp, HB, ⟨c0, c1, c2, c3⟩, hd, hk, hT0, hT, hp1⟩ := hS hp h
 have HL := hid hl
 have K := hid hkid
 have hll := hid hcp.2
 have HCA := hid hca
 have HEA := hid hea
 have HWA := hid hwa
 have HCB := hid hcb
 have HEB := hid heb
 have HWB := hid hwb
 clear hca hea hwa hcb heb hwb
 clear h hks hkid hcp hkr hnr hp hl
 simp only [nv, Tr.k, Tr.t, Tr.n, Tr.l, lC, lN, zA, Nat.reduceAdd] at hd hk HB pp c0 c1 c2 c3 ⊢
 obtain ⟨g, o, s0, rfl, hgB, a0, a1, a2, a3, ha⟩ := K.out 0 (by simp)
 obtain ⟨g1, o1, s1, hgo, hgB1, b0, b1, b2, b3, hb⟩ := K.out 1 (by simp)
 simp only [Option.some.injEq, Addr.mk.injEq, and_true] at hgo
 obtain ⟨rfl, rfl⟩ := hgo
 simp only [gZ, gS, zM, oM, aZ, lC, lN, zA, Nat.reduceAdd, Nat.reduceMul] at *
 replace ⟨a0, a1, a2, a3⟩ := F4 xw a0 a1 a2 a3
 replace ha := hid ((NT.mk ha hT0.out).keepF xw)
 simp only [nv] at ha
 obtain ⟨sla, hsa, hksa, _⟩ := id ha.out.node.open
 obtain ⟨pka, cca, hva, _⟩ := hksa.kid
 obtain rfl : s0 = .slice pka ya.l.length cca := by rw [← hva]; simpa [nv] using hsa
 clear hsa hksa hva
 replace ⟨b0, b1, b2, b3⟩ := F4 xw b0 b1 b2 b3
 replace hb := hid ((NT.mk hb hT0.out).keepF xw)
 simp only [nv] at hb
 obtain ⟨slb, hsb, hksb, _⟩ := id hb.out.node.open
 obtain ⟨pkb, ccb, hvb, _⟩ := hksb.kid
 obtain rfl : s1 = .slice pkb yb.l.length ccb := by rw [← hvb]; simpa [nv] using hsb
 clear hsb hksb hvb
 clear K
 go_enter Tryz.func137, Tryz.ntmps137
 go_wp2_with ((first | (go_at_call_of 29 (sv ya.t); refine (ihE.at ya HCA.out HEA.out HWA.out 10 (by first | rfl | (simp; done) | omega) hp1.out ha.out (lo HL.out)).mono ?_; rintro e w29a ⟨rfl, hq, z_⟩) | (go_at_call 67; (first | refine (pl [[91]] hp1.out (lo HL.out)).mono ?_ | refine (pl [[93]] hp1.out (lo HL.out)).mono ?_); rintro e w67 ⟨rfl, hq, z_⟩) | (go_at_call_of 29 (sv yb.t); refine (ihE.at yb HCB.out HEB.out HWB.out 1 (by first | rfl | (simp; done) | omega) hp1.out hb.out (lo HL.out)).mono ?_; rintro e w29b ⟨rfl, hq, z_⟩)) <;> (replace ⟨pp, hp1, HB, c0, c1, c2, c3⟩ := Q5 z_ pp hq HB hne; replace ⟨a0, a1, a2, a3⟩ := P4 z_ hpb.out hgB a0 a1 a2 a3; replace ha := hid (ha.out.keepP z_ hpb.out); replace ⟨b0, b1, b2, b3⟩ := P4 z_ hpb.out hgB b0 b1 b2 b3; replace hb := hid (hb.out.keepP z_ hpb.out); replace ⟨hd, hk, hT⟩ := D3 z_ hpb hd hk hT))
 try simp only [Exit.inBlock, Exit.then]
 refine be rfl rfl ?_
 exact ⟨rfl, hp1.out.cast (by first | (simp; done) | (simp <;> rfl)), pp.out⟩

theorem b22 {N : Nat} (ihE : ExprP N) (ya yb : Tr) (B pb : Nat) (L : List Pc) (w : World) (v : Value) (hp : PrAt B w pb L) (h : NT B w v (.mk 22 [] 0 [ya, yb])) (hca : cnt ya < N) (hea : isE ya = true) (hwa : wt ya ≤ BW) (hcb : cnt yb < N) (heb : isE yb = true) (hwb : wt yb ≤ BW) : Pn 68 B pb w L v (qE 10 ya ++ [wd [91]] ++ qE 1 yb ++ [wd [93]]) := by
 intro hl
 have hsv := sv_list
 obtain ⟨p, c, rfl, hks, hkr, hnr, htl, hcp, hkid, hpb, hne, xw, pp, HB, ⟨c0, c1, c2, c3⟩, hd, hk, hT0, hT, hp1⟩ := hS hp h
 have HL := hid hl
 have K := hid hkid
 have hll := hid hcp.2
 have HCA := hid hca
 have HEA := hid hea
 have HWA := hid hwa
 have HCB := hid hcb
 have HEB := hid heb
 have HWB := hid hwb
 clear hca hea hwa hcb heb hwb
 clear h hks hkid hcp hkr hnr hp hl
 simp only [nv, Tr.k, Tr.t, Tr.n, Tr.l, lC, lN, zA, Nat.reduceAdd] at hd hk HB pp c0 c1 c2 c3 ⊢
 clear K
 go_enter Tryz.func68, Tryz.ntmps68
 go_wp2_with (go_at_call 137; refine (m22 ihE ya yb B pb _ _ _ hp1.out hd.out HCA.out HEA.out HWA.out HCB.out HEB.out HWB.out (lo HL.out)).mono ?_; rintro e w137 ⟨rfl, hq, z_⟩; replace ⟨pp, hp1, HB, c0, c1, c2, c3⟩ := Q5 z_ pp hq HB hne; replace ⟨hd, hk, hT⟩ := D3 z_ hpb hd hk hT)
 try simp only [Exit.inBlock, Exit.then]
 refine be rfl rfl ?_
 exact ⟨rfl, hp1.out.cast (by first | (simp; done) | (simp <;> rfl)), pp.out⟩

theorem KidsAt.tail {B : Nat} {w : World} {g o c : Nat} {x : Tr} {r : List Tr} (h : KidsAt B w (.slice (some ⟨g, o, none⟩) (r.length + 1) c) (x :: r)) : KidsAt B w (.slice (some ⟨g, o + 4, none⟩) r.length (c - 1)) r := by
 obtain ⟨p, c', hv, hcp, hkid⟩ := h.kid
 simp only [Value.slice.injEq] at hv
 obtain ⟨rfl, _, rfl⟩ := hv
 simp only [lC] at hcp hkid
 obtain ⟨sl, hc, hl⟩ : ∃ sl : Nat → Value, (∀ i (hi : i < r.length), ∃ g' o', some (⟨g, o + 4, none⟩ : Addr) = some ⟨g', o', none⟩ ∧ g' < B ∧ w.cell? ⟨g', o' + i * 4, none⟩ = some (.int .i64 r[i].k) ∧ w.cell? ⟨g', o' + i * 4 + 1, none⟩ = some (.string (sv r[i].t)) ∧
    w.cell? ⟨g', o' + i * 4 + 2, none⟩ = some (.int .i64 r[i].n) ∧ w.cell? ⟨g', o' + i * 4 + 3, none⟩ = some (sl i)) ∧ ∀ i (hi : i < r.length), NodeAt B w (nv r[i] (sl i)) r[i] := by
  have H : ∀ i, ∃ s, ∀ (hi : i < r.length), (g < B ∧ w.cell? ⟨g, o + 4 + i * 4, none⟩ = some (.int .i64 r[i].k) ∧ w.cell? ⟨g, o + 4 + i * 4 + 1, none⟩ = some (.string (sv r[i].t)) ∧
    w.cell? ⟨g, o + 4 + i * 4 + 2, none⟩ = some (.int .i64 r[i].n) ∧ w.cell? ⟨g, o + 4 + i * 4 + 3, none⟩ = some s) ∧ NodeAt B w (nv r[i] s) r[i] := by
   intro i
   by_cases hi : i < r.length
   ·obtain ⟨g', o', s, hp, hg, q0, q1, q2, q3, hn⟩ := hkid (i + 1) (by simpa using hi)
    simp only [Option.some.injEq, Addr.mk.injEq, and_true] at hp
    obtain ⟨rfl, rfl⟩ := hp
    simp only [gS] at q0 q1 q2 hn
    have e : o + (i + 1) * 4 = o + 4 + i * 4 := by omega
    rw [e] at q0 q1 q2 q3
    exact ⟨s, fun _ => ⟨⟨hg, q0, q1, q2, q3⟩, hn⟩⟩
   ·exact ⟨undef, fun h => absurd h hi⟩
  refine ⟨fun i => Classical.choose (H i), fun i hi => ?_, fun i hi => (Classical.choose_spec (H i) hi).2⟩
  obtain ⟨⟨a0, a1, a2, a3, a4⟩, _⟩ := Classical.choose_spec (H i) hi
  exact ⟨g, o + 4, rfl, a0, a1, a2, a3, a4⟩
 exact ⟨_, _, rfl, by omega, sl, hc, hl⟩

theorem kids_nil (B : Nat) (w : World) (p : Option Addr) (c : Nat) : KidsAt B w (.slice p 0 c) [] := ⟨p, c, rfl, ⟨Nat.zero_le _, by simp⟩, fun _ => undef, fun i h => by simp at h, fun i h => by simp at h⟩

theorem m19_1 {N : Nat} (ihE : ExprP N) (ya : Tr) (rr : List Tr) (B pb : Nat) (L : List Pc) (w : World) (v : Value) (hp : PrAt B w pb L) (h : NT B w v (.mk 19 [] 0 (ya :: rr))) (hca : cnt ya < N) (hea : isE ya = true) (hwa : wt ya ≤ BW) (hcr : cnts rr < N) (hmr : ∀ y ∈ rr, isE y = true ∧ wt y ≤ BW) (hpos : 0 < rr.length) : Pn 137 B pb w L v (qE 10 ya ++ [wd [40]] ++ listP true rr ++ [wd [41]]) := by
 intro hl
 have hsv := sv_list
 obtain ⟨p, c, rfl, hks, hkr, hnr, htl, hcp, hkid, hpb, hne, xw, pp, HB, ⟨c0, c1, c2, c3⟩, hd, hk, hT0, hT, hp1⟩ := hS hp h
 have HL := hid hl
 have K := hid hkid
 have hll := hid hcp.2
 have HCA := hid hca
 have HEA := hid hea
 have HWA := hid hwa
 clear hca hea hwa
 have Hc := hid hcr
 have Hu := hid hmr
 clear hcr hmr
 have h1l : (1 : Int) ≤ ((rr.length : Int) + 1) := by omega
 have hc1 : ¬ c = 1 := by have := hcp.1; simp only [lC] at this; omega
 have hc1b : ¬ c - 1 = 0 := by have := hcp.1; simp only [lC] at this; omega
 clear hpos
 clear h hks hkid hcp hkr hnr hp hl
 simp only [nv, Tr.k, Tr.t, Tr.n, Tr.l, lC, lN, zA, Nat.reduceAdd] at hd hk HB pp c0 c1 c2 c3 ⊢
 obtain ⟨g, o, s0, rfl, hgB, a0, a1, a2, a3, ha⟩ := K.out 0 (by simp)
 simp only [gZ, gS, zM, oM, aZ, lC, lN, zA, Nat.reduceAdd, Nat.reduceMul] at *
 replace ⟨a0, a1, a2, a3⟩ := F4 xw a0 a1 a2 a3
 replace ha := hid ((NT.mk ha hT0.out).keepF xw)
 simp only [nv] at ha
 obtain ⟨sla, hsa, hksa, _⟩ := id ha.out.node.open
 obtain ⟨pka, cca, hva, _⟩ := hksa.kid
 obtain rfl : s0 = .slice pka ya.l.length cca := by rw [← hva]; simpa [nv] using hsa
 clear hsa hksa hva
 clear K
 go_enter Tryz.func137, Tryz.ntmps137
 go_wp2_with ((first | (go_at_call_of 29 (sv ya.t); refine (ihE.at ya HCA.out HEA.out HWA.out 10 (by first | rfl | (simp; done) | omega) hp1.out ha.out (lo HL.out)).mono ?_; rintro e w29a ⟨rfl, hq, z_⟩) | (go_at_call 67; (first | refine (pl [[40]] hp1.out (lo HL.out)).mono ?_ | refine (pl [[41]] hp1.out (lo HL.out)).mono ?_); rintro e w67 ⟨rfl, hq, z_⟩) | (go_at_call 135; refine (list_p ihE rr hp1.out (KidsAt.tail hk.out) hT.out Hc.out Hu.out (lo HL.out)).mono ?_; rintro e w135 ⟨rfl, hq, z_⟩)) <;> (replace ⟨pp, hp1, HB, c0, c1, c2, c3⟩ := Q5 z_ pp hq HB hne; replace ⟨a0, a1, a2, a3⟩ := P4 z_ hpb.out hgB a0 a1 a2 a3; replace ha := hid (ha.out.keepP z_ hpb.out); replace ⟨hd, hk, hT⟩ := D3 z_ hpb hd hk hT))
 all_goals
  try simp only [Exit.inBlock, Exit.then]
  refine be rfl rfl ?_
  exact ⟨rfl, hp1.out.cast (by simp), pp.out⟩

theorem m19_0 {N : Nat} (ihE : ExprP N) (ya : Tr) (B pb : Nat) (L : List Pc) (w : World) (v : Value) (hp : PrAt B w pb L) (h : NT B w v (.mk 19 [] 0 [ya])) (hca : cnt ya < N) (hea : isE ya = true) (hwa : wt ya ≤ BW) (hcr : cnts [] < N) : Pn 137 B pb w L v (qE 10 ya ++ [wd [40]] ++ listP true [] ++ [wd [41]]) := by
 intro hl
 have hsv := sv_list
 obtain ⟨p, c, rfl, hks, hkr, hnr, htl, hcp, hkid, hpb, hne, xw, pp, HB, ⟨c0, c1, c2, c3⟩, hd, hk, hT0, hT, hp1⟩ := hS hp h
 have HL := hid hl
 have K := hid hkid
 have hll := hid hcp.2
 have HCA := hid hca
 have HEA := hid hea
 have HWA := hid hwa
 clear hca hea hwa
 have Hc := hid hcr
 clear hcr
 clear h hks hkid hcp hkr hnr hp hl
 simp only [nv, Tr.k, Tr.t, Tr.n, Tr.l, lC, lN, zA, Nat.reduceAdd] at hd hk HB pp c0 c1 c2 c3 ⊢
 obtain ⟨g, o, s0, rfl, hgB, a0, a1, a2, a3, ha⟩ := K.out 0 (by simp)
 simp only [gZ, gS, zM, oM, aZ, lC, lN, zA, Nat.reduceAdd, Nat.reduceMul] at *
 replace ⟨a0, a1, a2, a3⟩ := F4 xw a0 a1 a2 a3
 replace ha := hid ((NT.mk ha hT0.out).keepF xw)
 simp only [nv] at ha
 obtain ⟨sla, hsa, hksa, _⟩ := id ha.out.node.open
 obtain ⟨pka, cca, hva, _⟩ := hksa.kid
 obtain rfl : s0 = .slice pka ya.l.length cca := by rw [← hva]; simpa [nv] using hsa
 clear hsa hksa hva
 clear K
 go_enter Tryz.func137, Tryz.ntmps137
 go_wp2_with ((first | (go_at_call_of 29 (sv ya.t); refine (ihE.at ya HCA.out HEA.out HWA.out 10 (by first | rfl | (simp; done) | omega) hp1.out ha.out (lo HL.out)).mono ?_; rintro e w29a ⟨rfl, hq, z_⟩) | (go_at_call 67; (first | refine (pl [[40]] hp1.out (lo HL.out)).mono ?_ | refine (pl [[41]] hp1.out (lo HL.out)).mono ?_); rintro e w67 ⟨rfl, hq, z_⟩) | (go_at_call 135; refine (list_p ihE [] hp1.out (kids_nil _ _ _ _) hT.out Hc.out (fun y hy => by cases hy) (lo HL.out)).mono ?_; rintro e w135 ⟨rfl, hq, z_⟩)) <;> (replace ⟨pp, hp1, HB, c0, c1, c2, c3⟩ := Q5 z_ pp hq HB hne; replace ⟨a0, a1, a2, a3⟩ := P4 z_ hpb.out hgB a0 a1 a2 a3; replace ha := hid (ha.out.keepP z_ hpb.out); replace ⟨hd, hk, hT⟩ := D3 z_ hpb hd hk hT))
 all_goals
  try simp only [Exit.inBlock, Exit.then]
  refine be rfl rfl ?_
  exact ⟨rfl, hp1.out.cast (by simp), pp.out⟩

theorem m19 {N : Nat} (ihE : ExprP N) (ya : Tr) (rr : List Tr) (B pb : Nat) (L : List Pc) (w : World) (v : Value) (hp : PrAt B w pb L) (h : NT B w v (.mk 19 [] 0 (ya :: rr))) (hca : cnt ya < N) (hea : isE ya = true) (hwa : wt ya ≤ BW) (hcr : cnts rr < N) (hmr : ∀ y ∈ rr, isE y = true ∧ wt y ≤ BW)
  : Pn 137 B pb w L v (qE 10 ya ++ [wd [40]] ++ listP true rr ++ [wd [41]]) := by
 intro hl
 cases rr with
 | nil => exact m19_0 ihE ya B pb L w v hp h hca hea hwa hcr hl
 | cons z m => exact m19_1 ihE ya (z :: m) B pb L w v hp h hca hea hwa hcr hmr (by simp) hl

theorem b19 {N : Nat} (ihE : ExprP N) (ya : Tr) (rr : List Tr) (B pb : Nat) (L : List Pc) (w : World) (v : Value) (hp : PrAt B w pb L) (h : NT B w v (.mk 19 [] 0 (ya :: rr))) (hca : cnt ya < N) (hea : isE ya = true) (hwa : wt ya ≤ BW) (hcr : cnts rr < N) (hmr : ∀ y ∈ rr, isE y = true ∧ wt y ≤ BW) : Pn 68 B pb w L v (qE 10 ya ++ [wd [40]] ++ listP true rr ++ [wd [41]]) := by
 intro hl
 have hsv := sv_list
 obtain ⟨p, c, rfl, hks, hkr, hnr, htl, hcp, hkid, hpb, hne, xw, pp, HB, ⟨c0, c1, c2, c3⟩, hd, hk, hT0, hT, hp1⟩ := hS hp h
 have HL := hid hl
 have K := hid hkid
 have hll := hid hcp.2
 have HCA := hid hca
 have HEA := hid hea
 have HWA := hid hwa
 clear hca hea hwa
 have Hc := hid hcr
 have Hu := hid hmr
 clear hcr hmr
 clear h hks hkid hcp hkr hnr hp hl
 simp only [nv, Tr.k, Tr.t, Tr.n, Tr.l, lC, lN, zA, Nat.reduceAdd] at hd hk HB pp c0 c1 c2 c3 ⊢
 clear K
 go_enter Tryz.func68, Tryz.ntmps68
 go_wp2_with (go_at_call 137; refine (m19 ihE ya rr B pb _ _ _ hp1.out hd.out HCA.out HEA.out HWA.out Hc.out Hu.out (lo HL.out)).mono ?_; rintro e w137 ⟨rfl, hq, z_⟩; replace ⟨pp, hp1, HB, c0, c1, c2, c3⟩ := Q5 z_ pp hq HB hne; replace ⟨hd, hk, hT⟩ := D3 z_ hpb hd hk hT)
 try simp only [Exit.inBlock, Exit.then]
 refine be rfl rfl ?_
 exact ⟨rfl, hp1.out.cast (by first | (simp; done) | (simp <;> rfl)), pp.out⟩

end Go.Proofs.YtpmlmpibpmoclaaGreatDoor
