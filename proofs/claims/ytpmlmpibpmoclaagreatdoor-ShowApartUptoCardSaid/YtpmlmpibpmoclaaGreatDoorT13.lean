/-
  The program's own tests on trees: classes.
-/
import Derived.Test.YtpmlmpibpmoclaaGreatDoorT12
namespace Go.Proofs.YtpmlmpibpmoclaaGreatDoor
set_option linter.all false
set_option maxRecDepth 20000
set_option maxHeartbeats 8000000
open Go.RowKit

/-! ### a slice of trees that the call owns -/

def c4 (d : Tr × Value) : List Value := [.int .i64 d.1.k, .string (sv d.1.t), .int .i64 d.1.n, d.2]
def flat (D : List (Tr × Value)) : List Value := D.flatMap c4
theorem flat_len (D : List (Tr × Value)) : (flat D).length = D.length * 4 := by
 induction D with
 | nil => rfl
 | cons d r ih => simp only [flat, List.flatMap_cons, lA] at ih ⊢; rw [ih]; simp [c4]; omega
theorem flat_get (D : List (Tr × Value)) (i : Nat) (h : i < D.length) : (flat D)[i * 4]? = some (.int .i64 D[i].1.k) ∧ (flat D)[i * 4 + 1]? = some (.string (sv D[i].1.t)) ∧ (flat D)[i * 4 + 2]? = some (.int .i64 D[i].1.n) ∧ (flat D)[i * 4 + 3]? = some D[i].2 := by
 induction D generalizing i with
 | nil => simp at h
 | cons d r ih =>
  cases i with
  | zero => exact ⟨rfl, rfl, rfl, rfl⟩
  | succ i =>
   have hr := ih i (by simpa using h)
   have e : ∀ m, (flat (d :: r))[m + 4]? = (flat r)[m]? := fun m => rfl
   simp only [gS]
   refine ⟨?_, ?_, ?_, ?_⟩
   ·rw [show (i + 1) * 4 = i * 4 + 4 by omega, e]; exact hr.1
   ·rw [show (i + 1) * 4 + 1 = i * 4 + 1 + 4 by omega, e]; exact hr.2.1
   ·rw [show (i + 1) * 4 + 2 = i * 4 + 2 + 4 by omega, e]; exact hr.2.2.1
   ·rw [show (i + 1) * 4 + 3 = i * 4 + 3 + 4 by omega, e]; exact hr.2.2.2

def OwnN (base : Nat) (w : World) (v : Value) (D : List (Tr × Value)) : Prop := w.ownsRow base 24 4 v D.length (flat D)
theorem OwnN.nil (base : Nat) (w : World) : OwnN base w (.slice none 0 0) [] := ⟨rfl, .inl ⟨rfl, rfl⟩⟩
theorem OwnN.keepF {base : Nat} {w w' : World} {v : Value} {D : List (Tr × Value)} (h : OwnN base w v D) (hx : Ext (fun _ => False) w w') : OwnN base w' v D := own_keepF h hx

theorem NodeAt.monoB {B B' : Nat} {w : World} {v : Value} {x : Tr} (h : NodeAt B w v x) (hB : B ≤ B') : NodeAt B' w v x := by
 induction h with
 | mk k t n l p c sl hk hn ht hcp hc hl ih =>
  refine .mk k t n l p c sl hk hn ht hcp (fun i h => ?_) ih
  obtain ⟨g, o, hp, hg, r⟩ := hc i h
  exact ⟨g, o, hp, by omega, r⟩

theorem OwnN.kids {base : Nat} {w : World} {v : Value} {D : List (Tr × Value)} (h : OwnN base w v D) {B B' : Nat} (hn : ∀ d ∈ D, NodeAt B w (nv d.1 d.2) d.1) (hl : D.length ≤ 4398046511104) (hB : B ≤ B') (hs : w.heap.size ≤ B') : KidsAt B' w v (D.map (·.1)) := by
 rcases h.2 with ⟨rfl, h0⟩ | ⟨g, cap, cur, rfl, hb, hg, hc, _, hsz, ht⟩
 ·obtain rfl := List.length_eq_zero_iff.1 h0
  exact ⟨none, 0, rfl, ⟨Nat.le_refl _, by simp⟩, fun _ => undef, fun i h => by simp at h, fun i h => by simp at h⟩
 ·have hgl := (Array.getElem?_eq_some_iff.1 hg).1
  have hcell : ∀ m u, (flat D)[m]? = some u → w.cell? ⟨g, m, none⟩ = some u := by
   intro m u hu
   rw [← ht, List.getElem?_take] at hu
   split at hu
   ·simp only [World.cell?, hg]
    simpa using hu
   ·cases hu
  refine ⟨some ⟨g, 0, none⟩, cap, by simp, by simp; omega, fun i => (D[i]?.map (·.2)).getD undef, fun i hi => ?_, fun i hi => ?_⟩
  ·have hi' : i < D.length := by simpa using hi
   obtain ⟨f0, f1, f2, f3⟩ := flat_get D i hi'
   refine ⟨g, 0, rfl, by omega, ?_, ?_, ?_, ?_⟩
   ·rw [Nat.zero_add]; simpa using hcell _ _ f0
   ·rw [Nat.zero_add]; simpa using hcell _ _ f1
   ·rw [Nat.zero_add]; simpa using hcell _ _ f2
   ·rw [Nat.zero_add]; simpa [List.getElem?_eq_getElem hi'] using hcell _ _ f3
  ·have hi' : i < D.length := by simpa using hi
   have := (hn D[i] (List.getElem_mem hi')).monoB hB
   simpa [List.getElem?_eq_getElem hi'] using this

theorem info24 : (Tryz.prog.info? 24).map (fun i => (i.zero, i.size, i.bytes)) = some (some (.agg #[.int .i64 0, .string ByteArray.empty, .int .i64 0, .slice none 0 0]), 4, 56) := by kernel_rfl
theorem infoN {i : Option TypeInfo} {z : Value} {s b : Nat} (h : i.map (fun i => (i.zero, i.size, i.bytes)) = some (some z, s, b)) : ∃ j, i = some j ∧ j.zero = some z ∧ j.size = s ∧ j.bytes = b := by
 cases i with
 | none => cases h
 | some j => simp only [Option.map_some, Option.some.injEq, Prod.mk.injEq] at h; exact ⟨j, rfl, h.1, h.2.1, h.2.2⟩

section
variable {P : Program} {w : World}
theorem wpList_append_nd {ops : Array Oper} {rest : List Oper} {o : Oper} {a : Act} {Q : Exit → Act → World → Prop} (hgd : o.guard = none) (s x : Operand) (t : TypeId)
  (ho : o.op = .call { callee := .builtin .append, args := #[s, x], argTypes := #[t, t] }) (base : Nat) (i : TypeInfo) (z : Value) (ht : P.underlying t = some (.slice 24)) (hi : P.info? 24 = some i)
  (hz : i.zero = some z) (hs : i.size = 4) (hby : i.bytes = 56) (hzs : z.cells.size = 4) (d : Value) (D : List (Tr × Value)) (g : Nat) (c : Nat) (b : Tr × Value) (hsd : a.eval s = d) (hsx : a.eval x = .slice (some ⟨g, 0, none⟩) 1 c)
  (hown : OwnN base w d D) (h0 : w.cell? ⟨g, 0, none⟩ = some (.int .i64 b.1.k)) (h1 : w.cell? ⟨g, 1, none⟩ = some (.string (sv b.1.t))) (h2 : w.cell? ⟨g, 2, none⟩ = some (.int .i64 b.1.n)) (h3 : w.cell? ⟨g, 3, none⟩ = some b.2) (hb : b.2.oneCell' = true)
  (hlen : D.length ≤ 1099511627776) (hbase : base ≤ w.heap.size)
  (h : ∀ p n c w', OwnN base w' (.slice p n c) (D ++ [b]) → n = D.length + 1 → Ext (fun k => base ≤ k) w w' → wpList P ops Q rest (a.put o.dst (.slice p n c)) w') : wpList P ops Q (o :: rest) a w := by
 refine wpList_append_own w hgd s x t ho base 24 i z 4 56 ht hi hz hs hby hzs (by decide) d D.length (flat D) hsd hown ⟨g, 0, none⟩ 1 c (c4 b) hsx rfl (fun j u hj => ?_) (fun u hu => ?_) (by unfold maxLen; omega) (by omega) hbase (fun v' w' k2 k3 _ => ?_)
 ·match j with
  | 0 => simp [c4] at hj; subst hj; simpa [Addr.add] using h0
  | 1 => simp [c4] at hj; subst hj; simpa [Addr.add] using h1
  | 2 => simp [c4] at hj; subst hj; simpa [Addr.add] using h2
  | 3 => simp [c4] at hj; subst hj; simpa [Addr.add] using h3
  | j + 4 => simp [c4] at hj
 ·simp [c4] at hu
  rcases hu with rfl | rfl | rfl | rfl
  ·rfl
  ·rfl
  ·rfl
  ·exact hb
 ·have e : flat D ++ c4 b = flat (D ++ [b]) := by simp [flat]
  have e2 : D.length + 1 = (D ++ [b]).length := by simp
  rw [e, e2] at k2
  rcases k2.2 with ⟨rfl, k0⟩ | ⟨g', cap, cur, rfl, _⟩
  ·simp at k0
  ·exact h _ _ _ w' k2 e2.symm (Ext.grown k3 fun k hk _ => (own_ge hown hk).1)
end

/-! ### classes -/

theorem tmems_43 {st : Nat} {names : List Bs} {t : Bs} {n : Int} {m r : List Tr} (h : memsOk st names (.mk 43 t n m :: r) = true) : st = 0 ∧ n = 0 ∧ signs t = true ∧ (∃ ty e, m = [ty, e] ∧ isTyOr ty = true ∧ isE e = true) ∧ ¬ t ∈ names ∧ ¬ t = [99, 111, 110, 115, 116, 114, 117, 99, 116, 111, 114] ∧ memsOk 0 (t :: names) r = true := by
 rcases m with _ | ⟨ty, _ | ⟨e, _ | ⟨z, m⟩⟩⟩ <;> simp [memsOk] at h
 obtain ⟨⟨⟨⟨⟨h1, h2, h3⟩, h4⟩, h5⟩, h6, h7⟩, h8⟩ := h
 exact ⟨h5, h4, h1, ⟨ty, e, rfl, h2, h3⟩, h6, h7, h8⟩
theorem tmems_44 {st : Nat} {names : List Bs} {t : Bs} {n : Int} {m r : List Tr} (h : memsOk st names (.mk 44 t n m :: r) = true) : st = 0 ∧ n = 0 ∧ t = [] ∧ (∃ p b, m = [p, b] ∧ isPms false p = true ∧ isBlk b = true) ∧ memsOk 1 names r = true := by
 rcases m with _ | ⟨p, _ | ⟨b, _ | ⟨z, m⟩⟩⟩ <;> simp [memsOk] at h
 obtain ⟨⟨⟨⟨⟨h1, h1'⟩, h2, h3⟩, h4⟩, h5⟩, h6⟩ := h
 exact ⟨by omega, h4, h1, ⟨p, b, rfl, h2, h3⟩, h6⟩
theorem tmems_45 {st : Nat} {names : List Bs} {t : Bs} {n : Int} {m r : List Tr} (h : memsOk st names (.mk 45 t n m :: r) = true) : st ≤ 2 ∧ n = 0 ∧ signs t = true ∧ (∃ p ty b, m = [p, ty, b] ∧ isPms false p = true ∧ isTyOr ty = true ∧ isBlk b = true) ∧ ¬ t ∈ names ∧ ¬ t = [99, 111, 110, 115, 116, 114, 117, 99, 116, 111, 114] ∧ memsOk 2 (t :: names) r = true := by
 rcases m with _ | ⟨p, _ | ⟨ty, _ | ⟨b, _ | ⟨z, m⟩⟩⟩⟩ <;> simp [memsOk, isBody] at h
 obtain ⟨⟨⟨⟨⟨h1, h2, h3⟩, h4⟩, h5⟩, h6, h7⟩, h8⟩ := h
 exact ⟨h5, h4, h1, ⟨p, ty, b, rfl, h2.1, h2.2, h3⟩, h6, h7, h8⟩
theorem mems_kind {st : Nat} {names : List Bs} {x : Tr} {r : List Tr} (h : memsOk st names (x :: r) = true) : x.k = 43 ∨ x.k = 44 ∨ x.k = 45 := by
 obtain ⟨k, t, n, m⟩ := x
 simp only [Tr.k]
 by_cases h43 : k = 43
 ·exact .inl h43
 by_cases h44 : k = 44
 ·exact .inr (.inl h44)
 by_cases h45 : k = 45
 ·exact .inr (.inr h45)
 ·simp [memsOk, h43, h44, h45] at h

/-- The kind that stood last. -/
def stK (st : Nat) : Int := if st = 0 then 43 else if st = 1 then 44 else 45

theorem class_rounds (t : Bs) (ht : isId t = true) (l : List Tr) (hm : memsOk 0 [] l = true) (hl9 : l.length ≤ 1099511627776) (B : Nat) (v : Value) (w : World) (h : NT B w v (.mk 42 t 0 l)) : Calls Tryz.prog 62 #[v] w (Ans true w) := by
 obtain ⟨ii, hi, hz0, hz1, hz2⟩ := infoN info24
 have Hid1 := hid ht
 have Hm := hid hm
 have HL9 := hid hl9
 clear ht hm hl9
 have hsv := sv_list
 obtain ⟨p, c, rfl, hks, hkr, hnr, htl, hcp, hkid, xw, C, _, _, hT⟩ := hT_ h
 obtain ⟨c0, c1, c2, c3⟩ := C.out
 have K := hid hkid
 have hll := hid hcp.2
 have HT := hid h.tab
 clear h hks hkid hcp hkr hnr
 simp only [nv, Tr.k, Tr.t, Tr.n, Tr.l]
 have hBs := hid HT.out.le
 go_enter Tryz.func62, Tryz.ntmps62
 go_wp2_with (go_at_call 108; refine (id_t t htl Hid1.out B _ hT.out).mono ?_; rintro e w108 ⟨rfl, x108⟩; replace ⟨c0, c1, c2, c3⟩ := F4 x108 c0 c1 c2 c3)
 clear c0 c1 c2 c3
 go_loopw [3, 4, 25] (fun last nm i wr => ∃ (j : Nat) (D : List (Tr × Value)) (st : Nat), j ≤ l.length ∧ Hid (D.length ≤ j) ∧ i = .int .i64 j ∧ last = .int .i64 (stK st) ∧ Hid (OwnN (w.heap.size + 1) wr nm D) ∧ Hid (memsOk st (D.map (fun d => d.1.t)).reverse (l.drop j) = true) ∧ Hid ((D.map (fun d => d.1.t)).Nodup) ∧ Hid (∀ d ∈ D, NodeAt B wr (nv d.1 d.2) d.1) ∧ Fx (w.alloc (.cells #[.int .i64 42, .string (sv t), .int .i64 0, .slice p l.length c] 24)) wr) (fun _ _ i _ => l.length - (intOf i).toNat)
 case atStart => exact ⟨0, [], 0, Nat.zero_le _, hid (Nat.le_refl _), rfl, rfl, hid (OwnN.nil _ _), hid (by simpa using Hm.out), hid (by simp), hid (by simp), x108⟩
 case round =>
  obtain ⟨j, D, st, hj, hDj, rfl, rfl, hown, hmm, hnd, hDn, x2⟩ := hrel
  have xx := xw.of_eq x2
  have hj4 : (j : Int) ≤ 4398046511104 := by have := hll.out; omega
  have hDl := hid (show D.length ≤ 1099511627776 from by have := hDj.out; have := HL9.out; omega)
  by_cases hlt : j < l.length
  ·have hdr := List.drop_eq_getElem_cons hlt
   have hmx := hmm.out
   rw [hdr] at hmx
   clear hdr hmm
   have hkk := mems_kind hmx
   obtain ⟨y, hyj⟩ : ∃ y, l[j] = y := ⟨_, rfl⟩
   rw [hyj] at hmx hkk
   obtain ⟨yk, kt, yn, yl⟩ := y
   simp only [Tr.k] at hkk
   rcases hkk with rfl | rfl | rfl
   ·obtain ⟨rfl, rfl, hs, ⟨ty, em, rfl, h1, h2⟩, hnn, hct, hm2⟩ := tmems_43 hmx
    simp only [show stK 0 = 43 from rfl]
    have Hs := hid hs
    have H1 := hid h1
    have H2 := hid h2
    have Hnn := hid hnn
    have hct2 : (kt == [99, 111, 110, 115, 116, 114, 117, 99, 116, 111, 114]) = false := by simpa using hct
    replace hm2 := hid hm2
    clear hmx hs h1 h2 hnn hct
    obtain ⟨g, off, s, rfl, hgB, e0, e1, e2, e3, hy⟩ := K.out j hlt
    rw [hyj] at e0 e1 e2 hy
    simp only [Tr.k, Tr.t, Tr.n] at e0 e1 e2
    obtain ⟨sl', hs', hks', hkr', hnr', htl'⟩ := id hy.open
    obtain rfl : s = sl' := by simpa [nv, Tr.k, Tr.t, Tr.n] using hs'
    simp only [Tr.k, Tr.t, Tr.n, Tr.l] at hks' htl'
    obtain ⟨p', c', rfl, _, _⟩ := hks'.kid
    have HY := hid hy
    clear hs' hks' hkr' hnr' hyj hy
    replace ⟨e0, e1, e2, e3⟩ := F4 xx e0 e1 e2 e3
    simp only [lC, lN, zA, Nat.reduceAdd] at *
    have xb : Fx wr (wr.alloc (.cells #[.int .i64 43, .string (sv kt), .int .i64 0, .slice p' 2 c'] 24)) := Ext.alloc _ _ _
    obtain ⟨d0, d1, d2, d3⟩ := nd_cells wr 43 0 (sv kt) (.slice p' 2 c')
    have hd' := hid ((NT.mk HY.out HT.out).keepF (xx.of_eq xb))
    simp only [nv, Tr.k, Tr.t, Tr.n, Tr.l, lC, lN, zA, Nat.reduceAdd] at hd'
    replace hown := hid (hown.out.keepF xb)
    have xl := x2.trans (Ext.mono xb (fun _ _ h => h.elim))
    replace xx := xx.of_eq xb
    go_wp2_with (first
     | (go_at_call 109; refine (row_115_64 _ _ _ ty em B _ _ hd'.out (typeOr_t ty H1.out B) (expr_t em H2.out B) _ _ _ (alloc_size _ _)).mono ?_; rintro e w109 ⟨rfl, x109⟩; replace xx := xx.of_eq x109; replace xl := xl.of_eq x109; replace ⟨d0, d1, d2, d3⟩ := F4 x109 d0 d1 d2 d3; replace hd' := hid (hd'.out.keepF x109); replace hown := hid (hown.out.keepF x109))
     | (go_at_call 120; refine (prop_t kt htl' Hs.out B _ hd'.out.tab).mono ?_; rintro e w120 ⟨rfl, x120⟩; replace xx := xx.of_eq x120; replace xl := xl.of_eq x120; replace ⟨d0, d1, d2, d3⟩ := F4 x120 d0 d1 d2 d3; replace hd' := hid (hd'.out.keepF x120); replace hown := hid (hown.out.keepF x120))
     | (at_builtin; refine wpList_append_nd rfl (.tmp 85) (.tmp 87) 22 rfl (w.heap.size + 1) ii _ Tryz.underlying22 hi hz0 hz1 hz2 rfl _ D _ _ (.mk 43 kt 0 [ty, em], .slice p' 2 c') rfl rfl (hown.out.keepF (Ext.alloc _ _ _)) (cell_alloc _ _ _ 0 _ rfl) (cell_alloc _ _ _ 1 _ rfl) (cell_alloc _ _ _ 2 _ rfl) (cell_alloc _ _ _ 3 _ rfl) rfl hDl.out (by have q1 := xl.size; rw [alloc_size] at q1 ⊢; omega) ?_; intro p7 n7 c7 w7 hown7 hn7 hx7; replace hown7 := hid hown7; replace hx7 := hid hx7; subst hn7))
    go_roundw
    case rel =>
     have xf : Fx w120 w7 ∨ True := .inr trivial
     have hgr : Ext (fun k => w.heap.size + 1 ≤ k) w120 w7 := Ext.trans (Ext.alloc _ _ _) (hx7.out.mono fun k _ hk => .inl hk)
     refine ⟨j + 1, D ++ [(.mk 43 kt 0 [ty, em], .slice p' 2 c')], 0, by omega, hid (by have := hDj.out; simp; omega), by go_num, rfl, hid hown7.out, hid ?_, hid ?_, hid ?_, xl.trans (hgr.mono fun k _ hk => .inr (by rw [alloc_size]; exact hk))⟩
     ·rw [List.map_append, List.reverse_append]; exact hm2.out
     ·rw [List.map_append, List.nodup_append]
      refine ⟨hnd.out, by simp, ?_⟩
      intro a ha b hb e
      simp [Tr.t] at hb
      subst hb
      subst e
      exact Hnn.out (by simpa using ha)
     ·intro d hd
      have hB9 := hBs.out
      rcases List.mem_append.1 hd with h9 | h9
      ·exact ((hDn.out d h9).keepF (xb.of_eq (x109.of_eq x120))).keep hgr (fun g hg => by omega)
      ·simp at h9
       subst h9
       have := (HY.out.keepF xx).keep hgr (fun g hg => by omega)
       simpa [nv, Tr.k, Tr.t, Tr.n] using this
    case measure => simp [intOf]; omega
   ·obtain ⟨rfl, rfl, rfl, ⟨pm, bm, rfl, h1, h2⟩, hm2⟩ := tmems_44 hmx
    simp only [show stK 0 = 43 from rfl]
    have H1 := hid h1
    have H2 := hid h2
    replace hm2 := hid hm2
    clear hmx h1 h2
    obtain ⟨g, off, s, rfl, hgB, e0, e1, e2, e3, hy⟩ := K.out j hlt
    rw [hyj] at e0 e1 e2 hy
    simp only [Tr.k, Tr.t, Tr.n] at e0 e1 e2
    obtain ⟨sl', hs', hks', hkr', hnr', htl'⟩ := id hy.open
    obtain rfl : s = sl' := by simpa [nv, Tr.k, Tr.t, Tr.n] using hs'
    simp only [Tr.k, Tr.t, Tr.n, Tr.l] at hks' htl'
    obtain ⟨p', c', rfl, _, _⟩ := hks'.kid
    have HY := hid hy
    clear hs' hks' hkr' hnr' hyj hy
    replace ⟨e0, e1, e2, e3⟩ := F4 xx e0 e1 e2 e3
    simp only [lC, lN, zA, Nat.reduceAdd] at *
    have xb : Fx wr (wr.alloc (.cells #[.int .i64 44, .string (sv []), .int .i64 0, .slice p' 2 c'] 24)) := Ext.alloc _ _ _
    obtain ⟨d0, d1, d2, d3⟩ := nd_cells wr 44 0 (sv []) (.slice p' 2 c')
    have hd' := hid ((NT.mk HY.out HT.out).keepF (xx.of_eq xb))
    simp only [nv, Tr.k, Tr.t, Tr.n, Tr.l, lC, lN, zA, Nat.reduceAdd] at hd'
    replace hown := hid (hown.out.keepF xb)
    have xl := x2.trans (Ext.mono xb (fun _ _ h => h.elim))
    replace xx := xx.of_eq xb
    go_wp2_with (go_at_call 109; refine (row_116_117 _ _ _ pm bm B _ _ hd'.out (params_t pm H1.out B) (blk_t bm H2.out B) _ _ _ (alloc_size _ _)).mono ?_; rintro e w109 ⟨rfl, x109⟩; replace xx := xx.of_eq x109; replace xl := xl.of_eq x109; replace ⟨d0, d1, d2, d3⟩ := F4 x109 d0 d1 d2 d3; replace hd' := hid (hd'.out.keepF x109); replace hown := hid (hown.out.keepF x109))
    go_roundw
    case rel => exact ⟨j + 1, D, 1, by omega, hid (by have := hDj.out; omega), by go_num, rfl, hid hown.out, hid (by exact hm2.out), hnd, hid (fun d hd => (hDn.out d hd).keepF (xb.of_eq x109)), xl⟩
    case measure => simp [intOf]; omega
   ·obtain ⟨hst, rfl, hs, ⟨pm, ty, bm, rfl, h1, h2, h3⟩, hnn, hct, hm2⟩ := tmems_45 hmx
    have Hs := hid hs
    have H1 := hid h1
    have H2 := hid h2
    have H3 := hid h3
    have Hnn := hid hnn
    have hct2 : (kt == [99, 111, 110, 115, 116, 114, 117, 99, 116, 111, 114]) = false := by simpa using hct
    replace hm2 := hid hm2
    clear hmx hs h1 h2 h3 hnn hct
    have hst3 : st = 0 ∨ st = 1 ∨ st = 2 := by omega
    clear hst
    rcases hst3 with rfl | rfl | rfl
    ·simp only [show stK 0 = 43 from rfl]
     obtain ⟨g, off, s, rfl, hgB, e0, e1, e2, e3, hy⟩ := K.out j hlt
     rw [hyj] at e0 e1 e2 hy
     simp only [Tr.k, Tr.t, Tr.n] at e0 e1 e2
     obtain ⟨sl', hs', hks', hkr', hnr', htl'⟩ := id hy.open
     obtain rfl : s = sl' := by simpa [nv, Tr.k, Tr.t, Tr.n] using hs'
     simp only [Tr.k, Tr.t, Tr.n, Tr.l] at hks' htl'
     obtain ⟨p', c', rfl, _, _⟩ := hks'.kid
     have HY := hid hy
     clear hs' hks' hkr' hnr' hyj hy
     replace ⟨e0, e1, e2, e3⟩ := F4 xx e0 e1 e2 e3
     simp only [lC, lN, zA, Nat.reduceAdd] at *
     have xb : Fx wr (wr.alloc (.cells #[.int .i64 45, .string (sv kt), .int .i64 0, .slice p' 3 c'] 24)) := Ext.alloc _ _ _
     obtain ⟨d0, d1, d2, d3⟩ := nd_cells wr 45 0 (sv kt) (.slice p' 3 c')
     have hd' := hid ((NT.mk HY.out HT.out).keepF (xx.of_eq xb))
     simp only [nv, Tr.k, Tr.t, Tr.n, Tr.l, lC, lN, zA, Nat.reduceAdd] at hd'
     replace hown := hid (hown.out.keepF xb)
     have xl := x2.trans (Ext.mono xb (fun _ _ h => h.elim))
     replace xx := xx.of_eq xb
     go_wp2_with (first
      | (go_at_call 109; refine (row_116_115_117 _ _ _ pm ty bm B _ _ hd'.out (params_t pm H1.out B) (typeOr_t ty H2.out B) (blk_t bm H3.out B) _ _ _ (alloc_size _ _)).mono ?_; rintro e w109 ⟨rfl, x109⟩; replace xx := xx.of_eq x109; replace xl := xl.of_eq x109; replace ⟨d0, d1, d2, d3⟩ := F4 x109 d0 d1 d2 d3; replace hd' := hid (hd'.out.keepF x109); replace hown := hid (hown.out.keepF x109))
      | (go_at_call 120; refine (prop_t kt htl' Hs.out B _ hd'.out.tab).mono ?_; rintro e w120 ⟨rfl, x120⟩; replace xx := xx.of_eq x120; replace xl := xl.of_eq x120; replace ⟨d0, d1, d2, d3⟩ := F4 x120 d0 d1 d2 d3; replace hd' := hid (hd'.out.keepF x120); replace hown := hid (hown.out.keepF x120))
      | (at_builtin; refine wpList_append_nd rfl (.tmp 85) (.tmp 87) 22 rfl (w.heap.size + 1) ii _ Tryz.underlying22 hi hz0 hz1 hz2 rfl _ D _ _ (.mk 45 kt 0 [pm, ty, bm], .slice p' 3 c') rfl rfl (hown.out.keepF (Ext.alloc _ _ _)) (cell_alloc _ _ _ 0 _ rfl) (cell_alloc _ _ _ 1 _ rfl) (cell_alloc _ _ _ 2 _ rfl) (cell_alloc _ _ _ 3 _ rfl) rfl hDl.out (by have q1 := xl.size; rw [alloc_size] at q1 ⊢; omega) ?_; intro p7 n7 c7 w7 hown7 hn7 hx7; replace hown7 := hid hown7; replace hx7 := hid hx7; subst hn7))
     go_roundw
     case rel =>
      have xf : Fx w120 w7 ∨ True := .inr trivial
      have hgr : Ext (fun k => w.heap.size + 1 ≤ k) w120 w7 := Ext.trans (Ext.alloc _ _ _) (hx7.out.mono fun k _ hk => .inl hk)
      refine ⟨j + 1, D ++ [(.mk 45 kt 0 [pm, ty, bm], .slice p' 3 c')], 2, by omega, hid (by have := hDj.out; simp; omega), by go_num, rfl, hid hown7.out, hid ?_, hid ?_, hid ?_, xl.trans (hgr.mono fun k _ hk => .inr (by rw [alloc_size]; exact hk))⟩
      ·rw [List.map_append, List.reverse_append]; exact hm2.out
      ·rw [List.map_append, List.nodup_append]
       refine ⟨hnd.out, by simp, ?_⟩
       intro a ha b hb e
       simp [Tr.t] at hb
       subst hb
       subst e
       exact Hnn.out (by simpa using ha)
      ·intro d hd
       have hB9 := hBs.out
       rcases List.mem_append.1 hd with h9 | h9
       ·exact ((hDn.out d h9).keepF (xb.of_eq (x109.of_eq x120))).keep hgr (fun g hg => by omega)
       ·simp at h9
        subst h9
        have := (HY.out.keepF xx).keep hgr (fun g hg => by omega)
        simpa [nv, Tr.k, Tr.t, Tr.n] using this
     case measure => simp [intOf]; omega
    ·simp only [show stK 1 = 44 from rfl]
     obtain ⟨g, off, s, rfl, hgB, e0, e1, e2, e3, hy⟩ := K.out j hlt
     rw [hyj] at e0 e1 e2 hy
     simp only [Tr.k, Tr.t, Tr.n] at e0 e1 e2
     obtain ⟨sl', hs', hks', hkr', hnr', htl'⟩ := id hy.open
     obtain rfl : s = sl' := by simpa [nv, Tr.k, Tr.t, Tr.n] using hs'
     simp only [Tr.k, Tr.t, Tr.n, Tr.l] at hks' htl'
     obtain ⟨p', c', rfl, _, _⟩ := hks'.kid
     have HY := hid hy
     clear hs' hks' hkr' hnr' hyj hy
     replace ⟨e0, e1, e2, e3⟩ := F4 xx e0 e1 e2 e3
     simp only [lC, lN, zA, Nat.reduceAdd] at *
     have xb : Fx wr (wr.alloc (.cells #[.int .i64 45, .string (sv kt), .int .i64 0, .slice p' 3 c'] 24)) := Ext.alloc _ _ _
     obtain ⟨d0, d1, d2, d3⟩ := nd_cells wr 45 0 (sv kt) (.slice p' 3 c')
     have hd' := hid ((NT.mk HY.out HT.out).keepF (xx.of_eq xb))
     simp only [nv, Tr.k, Tr.t, Tr.n, Tr.l, lC, lN, zA, Nat.reduceAdd] at hd'
     replace hown := hid (hown.out.keepF xb)
     have xl := x2.trans (Ext.mono xb (fun _ _ h => h.elim))
     replace xx := xx.of_eq xb
     go_wp2_with (first
      | (go_at_call 109; refine (row_116_115_117 _ _ _ pm ty bm B _ _ hd'.out (params_t pm H1.out B) (typeOr_t ty H2.out B) (blk_t bm H3.out B) _ _ _ (alloc_size _ _)).mono ?_; rintro e w109 ⟨rfl, x109⟩; replace xx := xx.of_eq x109; replace xl := xl.of_eq x109; replace ⟨d0, d1, d2, d3⟩ := F4 x109 d0 d1 d2 d3; replace hd' := hid (hd'.out.keepF x109); replace hown := hid (hown.out.keepF x109))
      | (go_at_call 120; refine (prop_t kt htl' Hs.out B _ hd'.out.tab).mono ?_; rintro e w120 ⟨rfl, x120⟩; replace xx := xx.of_eq x120; replace xl := xl.of_eq x120; replace ⟨d0, d1, d2, d3⟩ := F4 x120 d0 d1 d2 d3; replace hd' := hid (hd'.out.keepF x120); replace hown := hid (hown.out.keepF x120))
      | (at_builtin; refine wpList_append_nd rfl (.tmp 85) (.tmp 87) 22 rfl (w.heap.size + 1) ii _ Tryz.underlying22 hi hz0 hz1 hz2 rfl _ D _ _ (.mk 45 kt 0 [pm, ty, bm], .slice p' 3 c') rfl rfl (hown.out.keepF (Ext.alloc _ _ _)) (cell_alloc _ _ _ 0 _ rfl) (cell_alloc _ _ _ 1 _ rfl) (cell_alloc _ _ _ 2 _ rfl) (cell_alloc _ _ _ 3 _ rfl) rfl hDl.out (by have q1 := xl.size; rw [alloc_size] at q1 ⊢; omega) ?_; intro p7 n7 c7 w7 hown7 hn7 hx7; replace hown7 := hid hown7; replace hx7 := hid hx7; subst hn7))
     go_roundw
     case rel =>
      have xf : Fx w120 w7 ∨ True := .inr trivial
      have hgr : Ext (fun k => w.heap.size + 1 ≤ k) w120 w7 := Ext.trans (Ext.alloc _ _ _) (hx7.out.mono fun k _ hk => .inl hk)
      refine ⟨j + 1, D ++ [(.mk 45 kt 0 [pm, ty, bm], .slice p' 3 c')], 2, by omega, hid (by have := hDj.out; simp; omega), by go_num, rfl, hid hown7.out, hid ?_, hid ?_, hid ?_, xl.trans (hgr.mono fun k _ hk => .inr (by rw [alloc_size]; exact hk))⟩
      ·rw [List.map_append, List.reverse_append]; exact hm2.out
      ·rw [List.map_append, List.nodup_append]
       refine ⟨hnd.out, by simp, ?_⟩
       intro a ha b hb e
       simp [Tr.t] at hb
       subst hb
       subst e
       exact Hnn.out (by simpa using ha)
      ·intro d hd
       have hB9 := hBs.out
       rcases List.mem_append.1 hd with h9 | h9
       ·exact ((hDn.out d h9).keepF (xb.of_eq (x109.of_eq x120))).keep hgr (fun g hg => by omega)
       ·simp at h9
        subst h9
        have := (HY.out.keepF xx).keep hgr (fun g hg => by omega)
        simpa [nv, Tr.k, Tr.t, Tr.n] using this
     case measure => simp [intOf]; omega
    ·simp only [show stK 2 = 45 from rfl]
     obtain ⟨g, off, s, rfl, hgB, e0, e1, e2, e3, hy⟩ := K.out j hlt
     rw [hyj] at e0 e1 e2 hy
     simp only [Tr.k, Tr.t, Tr.n] at e0 e1 e2
     obtain ⟨sl', hs', hks', hkr', hnr', htl'⟩ := id hy.open
     obtain rfl : s = sl' := by simpa [nv, Tr.k, Tr.t, Tr.n] using hs'
     simp only [Tr.k, Tr.t, Tr.n, Tr.l] at hks' htl'
     obtain ⟨p', c', rfl, _, _⟩ := hks'.kid
     have HY := hid hy
     clear hs' hks' hkr' hnr' hyj hy
     replace ⟨e0, e1, e2, e3⟩ := F4 xx e0 e1 e2 e3
     simp only [lC, lN, zA, Nat.reduceAdd] at *
     have xb : Fx wr (wr.alloc (.cells #[.int .i64 45, .string (sv kt), .int .i64 0, .slice p' 3 c'] 24)) := Ext.alloc _ _ _
     obtain ⟨d0, d1, d2, d3⟩ := nd_cells wr 45 0 (sv kt) (.slice p' 3 c')
     have hd' := hid ((NT.mk HY.out HT.out).keepF (xx.of_eq xb))
     simp only [nv, Tr.k, Tr.t, Tr.n, Tr.l, lC, lN, zA, Nat.reduceAdd] at hd'
     replace hown := hid (hown.out.keepF xb)
     have xl := x2.trans (Ext.mono xb (fun _ _ h => h.elim))
     replace xx := xx.of_eq xb
     go_wp2_with (first
      | (go_at_call 109; refine (row_116_115_117 _ _ _ pm ty bm B _ _ hd'.out (params_t pm H1.out B) (typeOr_t ty H2.out B) (blk_t bm H3.out B) _ _ _ (alloc_size _ _)).mono ?_; rintro e w109 ⟨rfl, x109⟩; replace xx := xx.of_eq x109; replace xl := xl.of_eq x109; replace ⟨d0, d1, d2, d3⟩ := F4 x109 d0 d1 d2 d3; replace hd' := hid (hd'.out.keepF x109); replace hown := hid (hown.out.keepF x109))
      | (go_at_call 120; refine (prop_t kt htl' Hs.out B _ hd'.out.tab).mono ?_; rintro e w120 ⟨rfl, x120⟩; replace xx := xx.of_eq x120; replace xl := xl.of_eq x120; replace ⟨d0, d1, d2, d3⟩ := F4 x120 d0 d1 d2 d3; replace hd' := hid (hd'.out.keepF x120); replace hown := hid (hown.out.keepF x120))
      | (at_builtin; refine wpList_append_nd rfl (.tmp 85) (.tmp 87) 22 rfl (w.heap.size + 1) ii _ Tryz.underlying22 hi hz0 hz1 hz2 rfl _ D _ _ (.mk 45 kt 0 [pm, ty, bm], .slice p' 3 c') rfl rfl (hown.out.keepF (Ext.alloc _ _ _)) (cell_alloc _ _ _ 0 _ rfl) (cell_alloc _ _ _ 1 _ rfl) (cell_alloc _ _ _ 2 _ rfl) (cell_alloc _ _ _ 3 _ rfl) rfl hDl.out (by have q1 := xl.size; rw [alloc_size] at q1 ⊢; omega) ?_; intro p7 n7 c7 w7 hown7 hn7 hx7; replace hown7 := hid hown7; replace hx7 := hid hx7; subst hn7))
     go_roundw
     case rel =>
      have xf : Fx w120 w7 ∨ True := .inr trivial
      have hgr : Ext (fun k => w.heap.size + 1 ≤ k) w120 w7 := Ext.trans (Ext.alloc _ _ _) (hx7.out.mono fun k _ hk => .inl hk)
      refine ⟨j + 1, D ++ [(.mk 45 kt 0 [pm, ty, bm], .slice p' 3 c')], 2, by omega, hid (by have := hDj.out; simp; omega), by go_num, rfl, hid hown7.out, hid ?_, hid ?_, hid ?_, xl.trans (hgr.mono fun k _ hk => .inr (by rw [alloc_size]; exact hk))⟩
      ·rw [List.map_append, List.reverse_append]; exact hm2.out
      ·rw [List.map_append, List.nodup_append]
       refine ⟨hnd.out, by simp, ?_⟩
       intro a ha b hb e
       simp [Tr.t] at hb
       subst hb
       subst e
       exact Hnn.out (by simpa using ha)
      ·intro d hd
       have hB9 := hBs.out
       rcases List.mem_append.1 hd with h9 | h9
       ·exact ((hDn.out d h9).keepF (xb.of_eq (x109.of_eq x120))).keep hgr (fun g hg => by omega)
       ·simp at h9
        subst h9
        have := (HY.out.keepF xx).keep hgr (fun g hg => by omega)
        simpa [nv, Tr.k, Tr.t, Tr.n] using this
     case measure => simp [intOf]; omega
  ·have hks := hown.out.kids (B := B) (B' := wr.heap.size) hDn.out (by have := hDl.out; omega) (by have := hBs.out; have := xx.size; omega) (Nat.le_refl _)
   have hnd2 := hid (show ((D.map (·.1)).map Tr.t).Nodup from by rw [List.map_map]; exact hnd.out)
   replace hks := hid hks
   clear hown hnd hmm hDn
   go_wp2_with (go_at_call 121; refine (unlike_t _ hnd2.out _ _ _ hks.out).mono ?_; rintro e w121 ⟨rfl, x121⟩)
   go_ret
   exact .mk rfl (xx.of_eq x121)

theorem class_t (x : Tr) (hx : isClass x = true) (hl : x.l.length ≤ 1099511627776) (B : Nat) (v : Value) (w : World) (h : NT B w v x) : Calls Tryz.prog 62 #[v] w (Ans true w) := by
 obtain ⟨k, t, n, l⟩ := x
 simp [isClass, Tr.k, Tr.t, Tr.n, Tr.l] at hx hl
 obtain ⟨⟨⟨rfl, h1⟩, rfl⟩, h2⟩ := hx
 exact class_rounds t h1 l h2 hl B v w h

end Go.Proofs.YtpmlmpibpmoclaaGreatDoor
