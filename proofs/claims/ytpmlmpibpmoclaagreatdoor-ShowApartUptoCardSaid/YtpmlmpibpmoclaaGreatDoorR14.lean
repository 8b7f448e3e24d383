/-
  The document's answer on trees: are two the same?
-/
import Derived.Test.YtpmlmpibpmoclaaGreatDoorR1
import Derived.StillTailTactics
namespace Go.Proofs.YtpmlmpibpmoclaaGreatDoor
set_option linter.all false
set_option maxRecDepth 20000
set_option maxHeartbeats 8000000
open Go.RowKit

/-- What Same answers. -/
def SameP (a b : Tr) (w : World) (e : Ending) (w' : World) : Prop := ∃ r : Bool, e = .returned (.bool r) ∧ (r = true ↔ a = b) ∧ Fx w w'
theorem SameP.no {a b : Tr} {w w' : World} (h : a ≠ b) (x : Fx w w') : SameP a b w (.returned (.bool false)) w' := ⟨false, rfl, by simpa using h, x⟩
theorem SameP.yes {a b : Tr} {w w' : World} (h : a = b) (x : Fx w w') : SameP a b w (.returned (.bool true)) w' := ⟨true, rfl, by simpa using h, x⟩
def SameC (N : Nat) : Prop := ∀ a b : Tr, cnt a < N → ∀ B va vb w, NodeAt B w va a → NodeAt B w vb b → Calls Tryz.prog 10 #[va, vb] w (SameP a b w)

theorem take_eq_step {la lb : List Tr} {j : Nat} (ha : j < la.length) (hb : j < lb.length) (h : la.take j = lb.take j) (he : la[j] = lb[j]) : la.take (j + 1) = lb.take (j + 1) := by
 rw [List.take_succ_eq_append_getElem ha, List.take_succ_eq_append_getElem hb, h, he]
theorem mk_ne {ak bk : Int} {at' bt : Bs} {an bn : Int} {al bl : List Tr} (h : ak ≠ bk ∨ at' ≠ bt ∨ an ≠ bn ∨ al ≠ bl) : Tr.mk ak at' an al ≠ Tr.mk bk bt bn bl := by
 intro e
 injection e with e1 e2 e3 e4
 rcases h with h | h | h | h <;> exact h (by assumption)

theorem same_body {N : Nat} (ih : SameC N) (ak : Int) (at' : Bs) (an : Int) (al : List Tr) (bk : Int) (bt : Bs) (bn : Int) (bl : List Tr) (hx : cnts al < N) (B : Nat) (va vb : Value) (w : World)
  (ha : NodeAt B w va (.mk ak at' an al)) (hb : NodeAt B w vb (.mk bk bt bn bl)) : Calls Tryz.prog 10 #[va, vb] w (SameP (.mk ak at' an al) (.mk bk bt bn bl) w) := by
 have hsv := sv_list
 obtain ⟨sa, rfl, hka, hkr, hnr, hta⟩ := id ha.open
 obtain ⟨sb, rfl, hkb, hkr', hnr', htb⟩ := id hb.open
 clear hkr hnr hkr' hnr'
 simp only [Tr.l, Tr.t] at hka hkb hta htb
 obtain ⟨ap, ac, rfl, hcpa, hkida⟩ := hka.kid
 obtain ⟨bp, bc, rfl, hcpb, hkidb⟩ := hkb.kid
 have KA := hid hkida
 have KB := hid hkidb
 have hlla := hid hcpa.2
 have hcn := hid hx
 have xw : Fx w ((w.alloc (.cells #[.int .i64 ak, .string (sv at'), .int .i64 an, .slice ap al.length ac] 24)).alloc (.cells #[.int .i64 bk, .string (sv bt), .int .i64 bn, .slice bp bl.length bc] 24)) := (Ext.alloc _ _ _).of_eq (Ext.alloc _ _ _)
 obtain ⟨d0, d1, d2, d3⟩ := nd_cells w ak an (sv at') (.slice ap al.length ac)
 obtain ⟨f0, f1, f2, f3⟩ := nd_cells (w.alloc (.cells #[.int .i64 ak, .string (sv at'), .int .i64 an, .slice ap al.length ac] 24)) bk bn (sv bt) (.slice bp bl.length bc)
 replace d0 := (Ext.alloc (fun _ => False) (w.alloc (.cells #[.int .i64 ak, .string (sv at'), .int .i64 an, .slice ap al.length ac] 24)) (.cells #[.int .i64 bk, .string (sv bt), .int .i64 bn, .slice bp bl.length bc] 24)).cellF d0
 replace d1 := (Ext.alloc (fun _ => False) (w.alloc (.cells #[.int .i64 ak, .string (sv at'), .int .i64 an, .slice ap al.length ac] 24)) (.cells #[.int .i64 bk, .string (sv bt), .int .i64 bn, .slice bp bl.length bc] 24)).cellF d1
 replace d2 := (Ext.alloc (fun _ => False) (w.alloc (.cells #[.int .i64 ak, .string (sv at'), .int .i64 an, .slice ap al.length ac] 24)) (.cells #[.int .i64 bk, .string (sv bt), .int .i64 bn, .slice bp bl.length bc] 24)).cellF d2
 replace d3 := (Ext.alloc (fun _ => False) (w.alloc (.cells #[.int .i64 ak, .string (sv at'), .int .i64 an, .slice ap al.length ac] 24)) (.cells #[.int .i64 bk, .string (sv bt), .int .i64 bn, .slice bp bl.length bc] 24)).cellF d3
 rw [alloc_size] at f0 f1 f2 f3
 have C := hid (And.intro d3 f3)
 clear ha hb hka hkb hkida hkidb hcpa hcpb hx
 simp only [nv, Tr.k, Tr.t, Tr.n]
 by_cases h1 : ¬ ak = bk
 ·have hne := hid (mk_ne (at' := at') (bt := bt) (an := an) (bn := bn) (al := al) (bl := bl) (.inl h1))
  have h2 : (ak != bk) = true := by simpa using h1
  go_enter Tryz.func10, Tryz.ntmps10
  go_wp2
  go_ret
  exact .no hne.out xw
 replace h1 := Decidable.not_not.1 h1
 subst h1
 by_cases h2 : ¬ at' = bt
 ·have hne := hid (mk_ne (ak := ak) (bk := ak) (an := an) (bn := bn) (al := al) (bl := bl) (.inr (.inl h2)))
  have h3 : (at' != bt) = true := by simpa using h2
  go_enter Tryz.func10, Tryz.ntmps10
  go_wp2
  go_ret
  exact .no hne.out xw
 replace h2 := Decidable.not_not.1 h2
 subst h2
 by_cases h3 : ¬ an = bn
 ·have hne := hid (mk_ne (ak := ak) (bk := ak) (at' := at') (bt := at') (al := al) (bl := bl) (.inr (.inr (.inl h3))))
  have h4 : (an != bn) = true := by simpa using h3
  go_enter Tryz.func10, Tryz.ntmps10
  go_wp2
  go_ret
  exact .no hne.out xw
 replace h3 := Decidable.not_not.1 h3
 subst h3
 by_cases h4 : ¬ al.length = bl.length
 ·have hne := hid (mk_ne (ak := ak) (bk := ak) (at' := at') (bt := at') (an := an) (bn := an) (.inr (.inr (.inr (fun e => h4 (congrArg List.length e))))))
  have h5 : ((al.length : Int) != (bl.length : Int)) = true := by simp; omega
  have h6 : ¬ (al.length : Int) = (bl.length : Int) := by omega
  clear h4
  go_enter Tryz.func10, Tryz.ntmps10
  go_wp2
  go_ret
  exact .no hne.out xw
 replace h4 := Decidable.not_not.1 h4
 have hlen := hid h4
 have h5 : ((al.length : Int) != (bl.length : Int)) = false := by simp; omega
 clear h4
 go_enter Tryz.func10, Tryz.ntmps10
 go_wp2
 clear d0 d1 d2 d3 f0 f1 f2 f3
 go_loopw [5] (fun i wr => ∃ j : Nat, j ≤ al.length ∧ i = .int .i64 j ∧ Hid (al.take j = bl.take j) ∧ Fx ((w.alloc (.cells #[.int .i64 ak, .string (sv at'), .int .i64 an, .slice ap al.length ac] 24)).alloc (.cells #[.int .i64 ak, .string (sv at'), .int .i64 an, .slice bp bl.length bc] 24)) wr) (fun i _ => al.length - (intOf i).toNat)
 case atStart => exact ⟨0, Nat.zero_le _, rfl, hid rfl, Ext.refl _ _⟩
 case round =>
  obtain ⟨j, hj, rfl, hinv, x2⟩ := hrel
  have d3 := x2.cellF C.out.1
  have f3 := x2.cellF C.out.2
  have xx := xw.of_eq x2
  have hj4 : (j : Int) ≤ 4398046511104 := by have := hlla.out; omega
  by_cases hlt : j < al.length
  ·have hltb : j < bl.length := by have := hlen.out; omega
   obtain ⟨ga, oa, sa, rfl, hgA, a0, a1, a2, a3, hya⟩ := KA.out j hlt
   obtain ⟨gb, ob, sb, rfl, hgB, b0, b1, b2, b3, hyb⟩ := KB.out j hltb
   have hcy := hid (show cnt al[j] < N from by have := cnt_get hlt; have := hcn.out; omega)
   have hstep := hid (take_eq_step hlt hltb hinv.out)
   have hneq := hid (show al[j] ≠ bl[j] → al ≠ bl from fun h e => by subst e; exact h rfl)
   clear hinv
   generalize al[j] = ya at *
   generalize bl[j] = yb at *
   have hltb' : (j : Int) < bl.length := by omega
   go_wp2
   have xd := Ext.drew (fun _ => False) wr
   replace x2 := x2.of_eq xd
   replace xx := xx.of_eq xd
   replace d3 := xd.cellF d3
   replace f3 := xd.cellF f3
   replace ⟨a0, a1, a2, a3⟩ := F4 xx a0 a1 a2 a3
   replace ⟨b0, b1, b2, b3⟩ := F4 xx b0 b1 b2 b3
   replace hya := hid (hya.keepF xx)
   replace hyb := hid (hyb.keepF xx)
   simp only [nv] at hya hyb
   clear xd
   go_still_tail 10, (by kernel_rfl)
   change wpList _ _ _ _ _ wr.drew
   generalize wr.drew = w2 at *
   go_wp2_with (go_at_call 10; refine (ih ya yb hcy.out B _ _ _ hya.out hyb.out).mono ?_; rintro e w10 ⟨_ | _, rfl, hb10, z_⟩ <;> replace hb10 := hid hb10 <;> (replace xx := xx.of_eq z_; replace x2 := x2.of_eq z_))
   all_goals first
    | (go_ret; exact .no (mk_ne (.inr (.inr (.inr (hneq.out (fun e => by have := hb10.out; simp [e] at this)))))) xx)
    | skip
   all_goals
    have hnext := hid (hstep.out (by have := hb10.out; simpa using this))
    go_roundw
    case rel => exact ⟨j + 1, by omega, by go_num, hnext, x2⟩
    case measure => simp [intOf]; omega
  ·have hfin := hid (show al = bl from by have h1 := hinv.out; have h2 := hlen.out; rwa [List.take_of_length_le (by omega), List.take_of_length_le (by omega)] at h1)
   clear hinv
   go_wp2
   go_ret
   exact .yes (by rw [hfin.out]) xx

theorem same_c : ∀ N, SameC N := by
 intro N
 induction N with
 | zero => intro x y hx; omega
 | succ N ih =>
  intro x y hx B va vb w ha hb
  obtain ⟨ak, at', an, al⟩ := x
  obtain ⟨bk, bt, bn, bl⟩ := y
  exact same_body ih ak at' an al bk bt bn bl (by simp [cnt] at hx; omega) B va vb w ha hb
theorem same_any (a b : Tr) (B : Nat) (va vb : Value) (w : World) (ha : NodeAt B w va a) (hb : NodeAt B w vb b) : Calls Tryz.prog 10 #[va, vb] w (SameP a b w) := same_c (cnt a + 1) a b (by omega) B va vb w ha hb

end Go.Proofs.YtpmlmpibpmoclaaGreatDoor
