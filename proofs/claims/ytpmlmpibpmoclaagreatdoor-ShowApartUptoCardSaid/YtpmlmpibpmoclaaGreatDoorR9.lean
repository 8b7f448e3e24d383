/-
  The document's answer on trees: dollars, classes.
-/
import Derived.Test.YtpmlmpibpmoclaaGreatDoorR8
namespace Go.Proofs.YtpmlmpibpmoclaaGreatDoor
set_option linter.all false
set_option maxRecDepth 20000
set_option maxHeartbeats 8000000
open Go.RowKit

/-- The call answers a bool, and if it is false then P. -/
def Nay (P : Prop) (w : World) (e : Ending) (w' : World) : Prop := ∃ b : Bool, e = .returned (.bool b) ∧ (b = false → P) ∧ Ext (fun _ => False) w w'
theorem Nay.yes {P : Prop} {w w' : World} (h : Ext (fun _ => False) w w') : Nay P w (.returned (.bool true)) w' := ⟨true, rfl, by simp, h⟩
theorem Nay.no {P : Prop} {w w' : World} (hp : P) (h : Ext (fun _ => False) w w') : Nay P w (.returned (.bool false)) w' := ⟨false, rfl, fun _ => hp, h⟩
def DollarC (N : Nat) : Prop := ∀ x : Tr, cnt x < N → ∀ B v w, NodeAt B w v x → Calls Tryz.prog 23 #[v] w (Nay (dollar x = false) w)

theorem dollars_step {y : Tr} {r : List Tr} (h1 : dollar y = false) (h : dollars r = false) : dollars (y :: r) = false := by simp [dollars, h1, h]
theorem dollar_of {k : Int} {t : Bs} {n : Int} {l : List Tr} (h1 : (k = 2 ∨ k = 60 ∨ k = 64) ∨ ∀ m (h : m < t.length), t[m] ≠ 36) (h2 : dollars l = false) : dollar (.mk k t n l) = false := by
 unfold dollar
 rw [h2, Bool.or_false]
 rcases h1 with h | h
 ·rcases h with rfl | rfl | rfl <;> rfl
 ·have : t.contains 36 = false := by
   simp only [List.contains_eq_mem, decide_eq_false_iff_not]
   intro hm
   obtain ⟨m, hm, he⟩ := List.getElem_of_mem hm
   exact h m hm he
  rw [this, Bool.and_false]

theorem dollar_body {N : Nat} (ih : DollarC N) (k : Int) (t : Bs) (n : Int) (l : List Tr) (hx : cnts l < N) (B : Nat) (v : Value) (w : World) (h : NodeAt B w v (.mk k t n l)) : Calls Tryz.prog 23 #[v] w (Nay (dollar (.mk k t n l) = false) w) := by
 obtain ⟨p, c, rfl, hks, hkr, hnr, htl, hcp, hkid, xw, C, _, _⟩ := hR h
 obtain ⟨c0, c1, c2, c3⟩ := C.out
 have K := hid hkid
 have hll := hid hcp.2
 have hcn := hid hx
 clear h hks hkid hcp hkr hnr hx
 simp only [nv, Tr.k, Tr.t, Tr.n]
 by_cases hk : k = 2 ∨ k = 60 ∨ k = 64
 ·obtain ⟨kk, hkk⟩ : ∃ kk, kk = k := ⟨_, rfl⟩
  have hkd : ∀ {P : Prop}, P → P := fun h => h
  have hres := hid (show (k = 2 ∨ k = 60 ∨ k = 64) ∨ ∀ m (h : m < t.length), t[m] ≠ 36 from .inl hk)
  have hfinal := hid (fun (h2 : dollars l = false) => dollar_of (n := n) hres.out h2)
  clear hkk hkd hres kk
  rcases hk with rfl | rfl | rfl
  ·go_enter Tryz.func23, Tryz.ntmps23
   go_wp2
   go_loop [4] (fun i => i = .int .i64 0) (fun i => (intOf i).toNat)
   case atStart => rfl
   case round =>
    obtain rfl := hrel
    go_wp2
    all_goals
     go_loopw [5] (fun i wr => ∃ j : Nat, j ≤ l.length ∧ i = .int .i64 j ∧ Hid (dollars (l.drop j) = false → dollars l = false) ∧ Fx (w.alloc (.cells #[.int .i64 2, .string (sv t), .int .i64 n, .slice p l.length c] 24)) wr) (fun i _ => l.length - (intOf i).toNat)
     case atStart => exact ⟨0, Nat.zero_le _, rfl, hid (fun h => h), Ext.refl _ _⟩
     case round =>
      obtain ⟨jj, hjj, rfl, hinv, x2⟩ := hrel
      replace c3 := x2.cellF C.out.2.2.2
      have xx := xw.of_eq x2
      have hjj4 : (jj : Int) ≤ 4398046511104 := by have := hll.out; omega
      by_cases hlt : jj < l.length
      ·obtain ⟨g, o, s, rfl, hgB, e0, e1, e2, e3, hy⟩ := K.out jj hlt
       have hcy := hid (show cnt l[jj] < N from by have := cnt_get hlt; have := hcn.out; omega)
       have hdr := hid (List.drop_eq_getElem_cons hlt)
       generalize l[jj] = y at *
       replace ⟨e0, e1, e2, e3⟩ := F4 xx e0 e1 e2 e3
       replace hy := hid (hy.keepF xx)
       simp only [nv] at hy
       go_wp2_with (go_at_call 23; refine (ih y hcy.out B _ _ hy.out).mono ?_; rintro e w23 ⟨_ | _, rfl, hb23, x23⟩ <;> (replace hb23 := hid hb23; replace xx := xx.of_eq x23))
       all_goals first
        | (go_ret; exact .yes xx)
        | skip
       all_goals
        have hstep := hid (fun hr : dollars (l.drop (jj + 1)) = false => hinv.out (by rw [hdr.out]; exact dollars_step (hb23.out (by trivial)) hr))
        go_roundw
        case rel => exact ⟨jj + 1, by omega, by go_num, hstep, x2.of_eq x23⟩
        case measure => simp [intOf]; omega
      ·have hfin := hid (show dollars l = false from hinv.out (by rw [List.drop_of_length_le (by omega)]; rfl))
       clear hinv
       go_wp2
       go_ret
       exact .no (hfinal.out hfin.out) xx
  ·go_enter Tryz.func23, Tryz.ntmps23
   go_wp2
   go_loop [4] (fun i => i = .int .i64 0) (fun i => (intOf i).toNat)
   case atStart => rfl
   case round =>
    obtain rfl := hrel
    go_wp2
    all_goals
     go_loopw [5] (fun i wr => ∃ j : Nat, j ≤ l.length ∧ i = .int .i64 j ∧ Hid (dollars (l.drop j) = false → dollars l = false) ∧ Fx (w.alloc (.cells #[.int .i64 60, .string (sv t), .int .i64 n, .slice p l.length c] 24)) wr) (fun i _ => l.length - (intOf i).toNat)
     case atStart => exact ⟨0, Nat.zero_le _, rfl, hid (fun h => h), Ext.refl _ _⟩
     case round =>
      obtain ⟨jj, hjj, rfl, hinv, x2⟩ := hrel
      replace c3 := x2.cellF C.out.2.2.2
      have xx := xw.of_eq x2
      have hjj4 : (jj : Int) ≤ 4398046511104 := by have := hll.out; omega
      by_cases hlt : jj < l.length
      ·obtain ⟨g, o, s, rfl, hgB, e0, e1, e2, e3, hy⟩ := K.out jj hlt
       have hcy := hid (show cnt l[jj] < N from by have := cnt_get hlt; have := hcn.out; omega)
       have hdr := hid (List.drop_eq_getElem_cons hlt)
       generalize l[jj] = y at *
       replace ⟨e0, e1, e2, e3⟩ := F4 xx e0 e1 e2 e3
       replace hy := hid (hy.keepF xx)
       simp only [nv] at hy
       go_wp2_with (go_at_call 23; refine (ih y hcy.out B _ _ hy.out).mono ?_; rintro e w23 ⟨_ | _, rfl, hb23, x23⟩ <;> (replace hb23 := hid hb23; replace xx := xx.of_eq x23))
       all_goals first
        | (go_ret; exact .yes xx)
        | skip
       all_goals
        have hstep := hid (fun hr : dollars (l.drop (jj + 1)) = false => hinv.out (by rw [hdr.out]; exact dollars_step (hb23.out (by trivial)) hr))
        go_roundw
        case rel => exact ⟨jj + 1, by omega, by go_num, hstep, x2.of_eq x23⟩
        case measure => simp [intOf]; omega
      ·have hfin := hid (show dollars l = false from hinv.out (by rw [List.drop_of_length_le (by omega)]; rfl))
       clear hinv
       go_wp2
       go_ret
       exact .no (hfinal.out hfin.out) xx
  ·go_enter Tryz.func23, Tryz.ntmps23
   go_wp2
   go_loop [4] (fun i => i = .int .i64 0) (fun i => (intOf i).toNat)
   case atStart => rfl
   case round =>
    obtain rfl := hrel
    go_wp2
    all_goals
     go_loopw [5] (fun i wr => ∃ j : Nat, j ≤ l.length ∧ i = .int .i64 j ∧ Hid (dollars (l.drop j) = false → dollars l = false) ∧ Fx (w.alloc (.cells #[.int .i64 64, .string (sv t), .int .i64 n, .slice p l.length c] 24)) wr) (fun i _ => l.length - (intOf i).toNat)
     case atStart => exact ⟨0, Nat.zero_le _, rfl, hid (fun h => h), Ext.refl _ _⟩
     case round =>
      obtain ⟨jj, hjj, rfl, hinv, x2⟩ := hrel
      replace c3 := x2.cellF C.out.2.2.2
      have xx := xw.of_eq x2
      have hjj4 : (jj : Int) ≤ 4398046511104 := by have := hll.out; omega
      by_cases hlt : jj < l.length
      ·obtain ⟨g, o, s, rfl, hgB, e0, e1, e2, e3, hy⟩ := K.out jj hlt
       have hcy := hid (show cnt l[jj] < N from by have := cnt_get hlt; have := hcn.out; omega)
       have hdr := hid (List.drop_eq_getElem_cons hlt)
       generalize l[jj] = y at *
       replace ⟨e0, e1, e2, e3⟩ := F4 xx e0 e1 e2 e3
       replace hy := hid (hy.keepF xx)
       simp only [nv] at hy
       go_wp2_with (go_at_call 23; refine (ih y hcy.out B _ _ hy.out).mono ?_; rintro e w23 ⟨_ | _, rfl, hb23, x23⟩ <;> (replace hb23 := hid hb23; replace xx := xx.of_eq x23))
       all_goals first
        | (go_ret; exact .yes xx)
        | skip
       all_goals
        have hstep := hid (fun hr : dollars (l.drop (jj + 1)) = false => hinv.out (by rw [hdr.out]; exact dollars_step (hb23.out (by trivial)) hr))
        go_roundw
        case rel => exact ⟨jj + 1, by omega, by go_num, hstep, x2.of_eq x23⟩
        case measure => simp [intOf]; omega
      ·have hfin := hid (show dollars l = false from hinv.out (by rw [List.drop_of_length_le (by omega)]; rfl))
       clear hinv
       go_wp2
       go_ret
       exact .no (hfinal.out hfin.out) xx
 ·have hk1 : ¬ k = 2 := fun h => hk (.inl h)
  have hk2 : ¬ k = 60 := fun h => hk (.inr (.inl h))
  have hk3 : ¬ k = 64 := fun h => hk (.inr (.inr h))
  have hk4 : (k != 2) = true := by simpa using hk1
  have hk5 : (k != 60) = true := by simpa using hk2
  have hk6 : (k != 64) = true := by simpa using hk3
  clear hk
  go_enter Tryz.func23, Tryz.ntmps23
  go_wp2
  go_loop [4] (fun i => ∃ j : Nat, j ≤ t.length ∧ i = .int .i64 j ∧ Hid (∀ m (h : m < t.length), m < j → t[m] ≠ 36)) (fun i => t.length - (intOf i).toNat)
  case atStart => exact ⟨0, Nat.zero_le _, rfl, hid (fun m _ h => by omega)⟩
  case round =>
   obtain ⟨j, hj, rfl, hno⟩ := hrel
   have hj4 : (j : Int) ≤ 4398046511104 := by omega
   by_cases hlt : j < t.length
   ·have hji : j < (sv t).size := by rw [sv_size]; exact hlt
    have hji' : (j : Int) < ((sv t).size : Int) := by omega
    have hbj : (sv t)[j]'hji = t[j] := sv_get _ _ _
    have hno' := hid (fun (hc : t[j] ≠ 36) m (hm : m < t.length) (hmj : m < j + 1) => if e : m = j then (by subst e; exact hc : t[m] ≠ 36) else hno.out m hm (by omega))
    generalize t[j] = cc at *
    clear hno hlt
    by_cases h36 : cc = 36
    ·have h361 : ((cc.toNat : Int) == 36) = true := by subst h36; rfl
     have h362 : (cc.toNat : Int) = 36 := by subst h36; rfl
     clear h36 hno'
     go_wp2
     go_ret
     exact .yes xw
    ·have h36' := hid (hno'.out h36)
     have h361 : ¬ (cc.toNat : Int) = 36 := fun h => h36 (UInt8.toNat.inj (by show cc.toNat = 36; omega))
     have h362 : ((cc.toNat : Int) == 36) = false := by simpa using h361
     clear hno'
     go_wp2
     go_round
     case rel => exact ⟨j + 1, by rw [sv_size] at hji; omega, by go_num, h36'⟩
     case measure => rw [sv_size] at hji; simp [intOf]; omega
   ·have hnt : ¬ (j : Int) < ((sv t).size : Int) := by rw [sv_size]; omega
    have hres := hid (show (k = 2 ∨ k = 60 ∨ k = 64) ∨ ∀ m (h : m < t.length), t[m] ≠ 36 from .inr fun m hm => hno.out m hm (by omega))
    clear hno hlt
    go_wp2
    all_goals
     go_loopw [5] (fun i wr => ∃ j : Nat, j ≤ l.length ∧ i = .int .i64 j ∧ Hid (dollars (l.drop j) = false → dollars l = false) ∧ Fx (w.alloc (.cells #[.int .i64 k, .string (sv t), .int .i64 n, .slice p l.length c] 24)) wr) (fun i _ => l.length - (intOf i).toNat)
     case atStart => exact ⟨0, Nat.zero_le _, rfl, hid (fun h => h), Ext.refl _ _⟩
     case round =>
      obtain ⟨jj, hjj, rfl, hinv, x2⟩ := hrel
      replace c3 := x2.cellF C.out.2.2.2
      have xx := xw.of_eq x2
      have hjj4 : (jj : Int) ≤ 4398046511104 := by have := hll.out; omega
      by_cases hlt : jj < l.length
      ·obtain ⟨g, o, s, rfl, hgB, e0, e1, e2, e3, hy⟩ := K.out jj hlt
       have hcy := hid (show cnt l[jj] < N from by have := cnt_get hlt; have := hcn.out; omega)
       have hdr := hid (List.drop_eq_getElem_cons hlt)
       generalize l[jj] = y at *
       replace ⟨e0, e1, e2, e3⟩ := F4 xx e0 e1 e2 e3
       replace hy := hid (hy.keepF xx)
       simp only [nv] at hy
       go_wp2_with (go_at_call 23; refine (ih y hcy.out B _ _ hy.out).mono ?_; rintro e w23 ⟨_ | _, rfl, hb23, x23⟩ <;> (replace hb23 := hid hb23; replace xx := xx.of_eq x23))
       all_goals first
        | (go_ret; exact .yes xx)
        | skip
       all_goals
        have hstep := hid (fun hr : dollars (l.drop (jj + 1)) = false => hinv.out (by rw [hdr.out]; exact dollars_step (hb23.out (by trivial)) hr))
        go_roundw
        case rel => exact ⟨jj + 1, by omega, by go_num, hstep, x2.of_eq x23⟩
        case measure => simp [intOf]; omega
      ·have hfin := hid (show dollars l = false from hinv.out (by rw [List.drop_of_length_le (by omega)]; rfl))
       clear hinv
       go_wp2
       go_ret
       exact .no (dollar_of hres.out hfin.out) xx

theorem dollar_c : ∀ N, DollarC N := by
 intro N
 induction N with
 | zero => intro x hx; omega
 | succ N ih =>
  intro x hx B v w h
  obtain ⟨k, t, n, l⟩ := x
  exact dollar_body ih k t n l (by simp [cnt] at hx; omega) B v w h
theorem dollar_all (x : Tr) (B : Nat) (v : Value) (w : World) (h : NodeAt B w v x) : Calls Tryz.prog 23 #[v] w (Nay (dollar x = false) w) := dollar_c (cnt x + 1) x (by omega) B v w h

theorem mems_43 {st : Nat} {S : List Bs} {t : Bs} {a b : Tr} {r : List Tr} (h1 : signs t = true) (h2 : isTyOr a = true) (h3 : isE b = true) (h4 : st ≤ 0) (h5 : has S t = false) (h6 : t ≠ [99, 111, 110, 115, 116, 114, 117, 99, 116, 111, 114])
  (h : memsOk 0 (S ++ [t]).reverse r = true) : memsOk st S.reverse (.mk 43 t 0 [a, b] :: r) = true := by
 rw [List.reverse_append, List.reverse_singleton, List.singleton_append] at h
 have h8 : S.reverse.contains t = false := by
  simp only [has, List.contains_eq_mem, decide_eq_false_iff_not] at h5 ⊢
  simpa using h5
 obtain rfl : st = 0 := by omega
 unfold memsOk
 simp only [h1, h2, h3, h8]
 simp [h, h6]
theorem mems_44 {st : Nat} {S : List Bs} {a b : Tr} {r : List Tr} (h2 : isPms false a = true) (h3 : isBlk b = true) (h4 : st < 1)
  (h : memsOk 1 S.reverse r = true) : memsOk st S.reverse (.mk 44 [] 0 [a, b] :: r) = true := by
 obtain rfl : st = 0 := by omega
 unfold memsOk
 simp [h, h2, h3]
theorem mems_45 {st : Nat} {S : List Bs} {t : Bs} {l r : List Tr} (h1 : signs t = true) (h2 : isBody l = true) (h4 : st ≤ 2) (h5 : has S t = false) (h6 : t ≠ [99, 111, 110, 115, 116, 114, 117, 99, 116, 111, 114])
  (h : memsOk 2 (S ++ [t]).reverse r = true) : memsOk st S.reverse (.mk 45 t 0 l :: r) = true := by
 rw [List.reverse_append, List.reverse_singleton, List.singleton_append] at h
 have h8 : S.reverse.contains t = false := by
  simp only [has, List.contains_eq_mem, decide_eq_false_iff_not] at h5 ⊢
  simpa using h5
 unfold memsOk
 simp only [h1, h2, h8]
 simp [h, h6, h4]
theorem isClass_of {t : Bs} {l : List Tr} (h1 : isId t = true) (h2 : memsOk 0 [] l = true) : isClass (.mk 42 t 0 l) = true := by
 unfold isClass
 simp only [Tr.k, Tr.n, Tr.t, Tr.l, h1, h2]
 rfl

theorem class_42 (t : Bs) (l : List Tr) (B : Nat) (v : Value) (w : World) (h : NodeAt B w v (.mk 42 t 0 l)) : Calls Tryz.prog 24 #[v] w (Snd (isClass (.mk 42 t 0 l) = true) w) := by
 obtain ⟨ii, hi, hz0, hz1, hz2⟩ := info_parts info9
 have hsv := sv_list
 obtain ⟨p, c, rfl, hks, hkr, hnr, htl, hcp, hkid, xw, C, _, _⟩ := hR h
 have xx := xw
 obtain ⟨c0, c1, c2, c3⟩ := C.out
 have K := hid hkid
 have hll := hid hcp.2
 clear h hks hkid hcp hkr hnr
 simp only [nv, Tr.k, Tr.t, Tr.n]
 go_enter Tryz.func24, Tryz.ntmps24
 go_wp2_with (go_at_call 44; refine (id_any t _ htl).mono ?_; rintro e w44 ⟨_ | _, rfl, hb44, x44⟩ <;> (replace hb44 := hid hb44; replace xx := xx.of_eq x44; replace ⟨c0, c1, c2, c3⟩ := F4 x44 c0 c1 c2 c3))
 all_goals first
  | (go_ret; exact .no xx)
  | skip
 clear c0 c1 c2 c3 xx
 go_loopw [3, 4, 5] (fun nm sg i wr => ∃ (j : Nat) (S : List Bs) (st : Nat), j ≤ l.length ∧ Hid (S.length ≤ j) ∧ sg = .int .i64 st ∧ i = .int .i64 j ∧ st ≤ 2 ∧ Hid (OwnS (w.heap.size + 1) wr nm S) ∧ Hid (memsOk st S.reverse (l.drop j) = true → memsOk 0 [] l = true) ∧ Fx (w.alloc (.cells #[.int .i64 42, .string (sv t), .int .i64 0, .slice p l.length c] 24)) wr) (fun _ _ i _ => l.length - (intOf i).toNat)
 case atStart => exact ⟨0, [], 0, Nat.zero_le _, hid (Nat.le_refl _), rfl, rfl, by omega, hid (OwnS.nil _ _), hid (fun h => h), x44⟩
 case round =>
  obtain ⟨j, S, st, hj, hSj, rfl, rfl, hst, hown, hinv, x2⟩ := hrel
  have c3 := x2.cellF C.out.2.2.2
  have xx := xw.of_eq x2
  have hj4 : (j : Int) ≤ 4398046511104 := by have := hll.out; omega
  by_cases hlt : j < l.length
  ·have hSl := hid (show S.length ≤ 4398046511104 from by have := hSj.out; have := hll.out; omega)
   obtain ⟨g, o, s, rfl, hgB, a0, a1, a2, a3, ha⟩ := K.out j hlt
   have hdr := hid (List.drop_eq_getElem_cons hlt)
   generalize l[j] = y at *
   obtain ⟨sl', hs', hks, hkr, hnr, htl'⟩ := id ha.open
   obtain rfl : s = sl' := by simpa [nv] using hs'
   clear hs' hkr hnr
   obtain ⟨k', t', n', l'⟩ := y
   simp only [Tr.k, Tr.t, Tr.n, Tr.l] at hks htl' a0 a1 a2
   obtain ⟨p', c', rfl, hcp', hkid'⟩ := hks.kid
   replace ⟨a0, a1, a2, a3⟩ := F4 xx a0 a1 a2 a3
   have K' := hid hkid'
   have HK := hid hks
   replace hcp' := hid hcp'
   clear hks hkid' ha
   have xa := xx.of_eq (Ext.alloc _ wr (.cells #[.int .i64 k', .string (sv t'), .int .i64 n', .slice p' l'.length c'] 24))
   have xb := x2.of_eq (Ext.alloc _ wr (.cells #[.int .i64 k', .string (sv t'), .int .i64 n', .slice p' l'.length c'] 24))
   obtain ⟨d0, d1, d2, d3⟩ := nd_cells wr k' n' (sv t') (.slice p' l'.length c')
   by_cases hk3 : k' = 43
   ·subst hk3
    have xc := xb
    replace hown := hid (hown.out.keepF (Ext.alloc _ wr (.cells #[.int .i64 43, .string (sv t'), .int .i64 n', .slice p' l'.length c'] 24)))
    by_cases hct' : t' = [99, 111, 110, 115, 116, 114, 117, 99, 116, 111, 114]
    ·by_cases hl1 : l'.length = 2
     ·skip
      obtain ⟨a, b, rfl⟩ := kid_two hl1
      obtain ⟨g', o', s', rfl, hgB', f0, f1, f2, f3, hza⟩ := K'.out 0 (by simp)
      obtain ⟨g2, o2, s2, hgo, hgB2, j0, j1, j2, j3, hzb⟩ := K'.out 1 (by simp)
      simp only [Option.some.injEq, Addr.mk.injEq, and_true] at hgo
      obtain ⟨rfl, rfl⟩ := hgo
      simp only [gZ, gS, zM, oM, aZ, lC, lN, zA, Nat.reduceAdd] at *
      replace ⟨f0, f1, f2, f3⟩ := F4 xa f0 f1 f2 f3
      replace ⟨j0, j1, j2, j3⟩ := F4 xa j0 j1 j2 j3
      replace hza := hid (hza.keepF xa)
      replace hzb := hid (hzb.keepF xa)
      simp only [nv] at hza hzb
      clear hl1 K' HK
      subst hct'
      go_wp2_with (first
       | ((first | (go_at_call 46; refine (prop_any _ _ htl').mono ?_; rintro e w46 ⟨_ | _, rfl, hb46, z_⟩ <;> replace hb46 := hid hb46) | (go_at_call 50; refine (typeOr_all a B _ _ hza.out).mono ?_; rintro e w50 ⟨_ | _, rfl, hb50, z_⟩ <;> replace hb50 := hid hb50) | (go_at_call 18; refine (expr_all b B _ _ hzb.out).mono ?_; rintro e w18 ⟨_ | _, rfl, hb18, z_⟩ <;> replace hb18 := hid hb18)) <;> (replace xa := xa.of_eq z_; replace xc := xc.of_eq z_; replace ⟨d0, d1, d2, d3⟩ := F4 z_ d0 d1 d2 d3; replace ⟨f0, f1, f2, f3⟩ := F4 z_ f0 f1 f2 f3; replace ⟨j0, j1, j2, j3⟩ := F4 z_ j0 j1 j2 j3; replace hza := hid (hza.out.keepF z_); replace hzb := hid (hzb.out.keepF z_); replace hown := hid (hown.out.keepF z_)))
       | (go_at_call 48; refine (in_any _ S _ _ hown.out.sl hSl.out).mono ?_; rintro e w48 ⟨rfl, rfl⟩)
       | (at_builtin; refine wpList_append_str rfl (.tmp 133) (.tmp 136) 68 rfl (w.heap.size + 1) ii _ Tryz.underlying68 hi hz0 hz1 hz2 rfl _ S _ _ t' rfl rfl (hown.out.keepF (Ext.alloc _ _ _)) (cell_alloc _ _ _ 0 _ rfl) hSl.out (by rw [alloc_size]; have q1 := xc.size; rw [alloc_size] at q1; omega) ?_; intro p7 n7 c7 w7 hown7 hn7 hx7; subst hn7))
      all_goals first
       | (go_ret; exact .no xa)
       | skip
     ·skip
      have hl2 : ¬ (l'.length : Int) = 2 := by omega
      have hl3 : ((l'.length : Int) == 2) = false := by simpa using hl2
      clear hl1
      subst hct'
      go_wp2_with (first
       | (go_at_call 46; refine (prop_any _ _ htl').mono ?_; rintro e w46 ⟨_ | _, rfl, hb46, z_⟩ <;> replace hb46 := hid hb46 <;> (replace xa := xa.of_eq z_; replace xc := xc.of_eq z_; replace ⟨d0, d1, d2, d3⟩ := F4 z_ d0 d1 d2 d3; replace hown := hid (hown.out.keepF z_)))
       | (go_at_call 48; refine (in_any _ S _ _ hown.out.sl hSl.out).mono ?_; rintro e w48 ⟨rfl, rfl⟩))
      all_goals first
       | (go_ret; exact .no xa)
       | skip
    ·have hct := hid hct'
     by_cases hl1 : l'.length = 2
     ·skip
      obtain ⟨a, b, rfl⟩ := kid_two hl1
      obtain ⟨g', o', s', rfl, hgB', f0, f1, f2, f3, hza⟩ := K'.out 0 (by simp)
      obtain ⟨g2, o2, s2, hgo, hgB2, j0, j1, j2, j3, hzb⟩ := K'.out 1 (by simp)
      simp only [Option.some.injEq, Addr.mk.injEq, and_true] at hgo
      obtain ⟨rfl, rfl⟩ := hgo
      simp only [gZ, gS, zM, oM, aZ, lC, lN, zA, Nat.reduceAdd] at *
      replace ⟨f0, f1, f2, f3⟩ := F4 xa f0 f1 f2 f3
      replace ⟨j0, j1, j2, j3⟩ := F4 xa j0 j1 j2 j3
      replace hza := hid (hza.keepF xa)
      replace hzb := hid (hzb.keepF xa)
      simp only [nv] at hza hzb
      clear hl1 K' HK
      by_cases hn' : n' = 0
      ·subst hn'
       go_wp2_with (first
        | ((first | (go_at_call 46; refine (prop_any t' _ htl').mono ?_; rintro e w46 ⟨_ | _, rfl, hb46, z_⟩ <;> replace hb46 := hid hb46) | (go_at_call 50; refine (typeOr_all a B _ _ hza.out).mono ?_; rintro e w50 ⟨_ | _, rfl, hb50, z_⟩ <;> replace hb50 := hid hb50) | (go_at_call 18; refine (expr_all b B _ _ hzb.out).mono ?_; rintro e w18 ⟨_ | _, rfl, hb18, z_⟩ <;> replace hb18 := hid hb18)) <;> (replace xa := xa.of_eq z_; replace xc := xc.of_eq z_; replace ⟨d0, d1, d2, d3⟩ := F4 z_ d0 d1 d2 d3; replace ⟨f0, f1, f2, f3⟩ := F4 z_ f0 f1 f2 f3; replace ⟨j0, j1, j2, j3⟩ := F4 z_ j0 j1 j2 j3; replace hza := hid (hza.out.keepF z_); replace hzb := hid (hzb.out.keepF z_); replace hown := hid (hown.out.keepF z_)))
        | (go_at_call 48; refine (in_any t' S _ _ hown.out.sl hSl.out).mono ?_; rintro e w48 ⟨rfl, rfl⟩)
        | (at_builtin; refine wpList_append_str rfl (.tmp 133) (.tmp 136) 68 rfl (w.heap.size + 1) ii _ Tryz.underlying68 hi hz0 hz1 hz2 rfl _ S _ _ t' rfl rfl (hown.out.keepF (Ext.alloc _ _ _)) (cell_alloc _ _ _ 0 _ rfl) hSl.out (by rw [alloc_size]; have q1 := xc.size; rw [alloc_size] at q1; omega) ?_; intro p7 n7 c7 w7 hown7 hn7 hx7; subst hn7))
       all_goals first
        | (go_ret; exact .no xa)
        | skip
       all_goals
        have hstep := hid (fun hr : memsOk 0 (S ++ [t']).reverse (l.drop (j + 1)) = true => hinv.out (by
         rw [hdr.out]
         exact mems_43 (hb46.out (by trivial)) (hb50.out (by trivial)) (hb18.out (by trivial)) (by omega) (by first | assumption | exact Bool.eq_false_iff.2 (by assumption)) hct.out hr))
        go_roundw
        case rel => exact ⟨j + 1, S ++ [t'], 0, by omega, hid (by have := hSj.out; simp; omega), rfl, by go_num, by omega, hid hown7, hstep, (xc.of_eq (Ext.alloc _ _ _)).trans (hx7.mono fun k _ hk => .inr (by rw [alloc_size]; exact hk))⟩
        case measure => simp [intOf]; omega
      ·skip
       go_wp2_with (first
        | ((first | (go_at_call 46; refine (prop_any t' _ htl').mono ?_; rintro e w46 ⟨_ | _, rfl, hb46, z_⟩ <;> replace hb46 := hid hb46) | (go_at_call 50; refine (typeOr_all a B _ _ hza.out).mono ?_; rintro e w50 ⟨_ | _, rfl, hb50, z_⟩ <;> replace hb50 := hid hb50) | (go_at_call 18; refine (expr_all b B _ _ hzb.out).mono ?_; rintro e w18 ⟨_ | _, rfl, hb18, z_⟩ <;> replace hb18 := hid hb18)) <;> (replace xa := xa.of_eq z_; replace xc := xc.of_eq z_; replace ⟨d0, d1, d2, d3⟩ := F4 z_ d0 d1 d2 d3; replace ⟨f0, f1, f2, f3⟩ := F4 z_ f0 f1 f2 f3; replace ⟨j0, j1, j2, j3⟩ := F4 z_ j0 j1 j2 j3; replace hza := hid (hza.out.keepF z_); replace hzb := hid (hzb.out.keepF z_); replace hown := hid (hown.out.keepF z_)))
        | (go_at_call 48; refine (in_any t' S _ _ hown.out.sl hSl.out).mono ?_; rintro e w48 ⟨rfl, rfl⟩)
        | (at_builtin; refine wpList_append_str rfl (.tmp 133) (.tmp 136) 68 rfl (w.heap.size + 1) ii _ Tryz.underlying68 hi hz0 hz1 hz2 rfl _ S _ _ t' rfl rfl (hown.out.keepF (Ext.alloc _ _ _)) (cell_alloc _ _ _ 0 _ rfl) hSl.out (by rw [alloc_size]; have q1 := xc.size; rw [alloc_size] at q1; omega) ?_; intro p7 n7 c7 w7 hown7 hn7 hx7; subst hn7))
       all_goals first
        | (go_ret; exact .no xa)
        | skip
     ·skip
      have hl2 : ¬ (l'.length : Int) = 2 := by omega
      have hl3 : ((l'.length : Int) == 2) = false := by simpa using hl2
      clear hl1
      go_wp2_with (first
       | (go_at_call 46; refine (prop_any t' _ htl').mono ?_; rintro e w46 ⟨_ | _, rfl, hb46, z_⟩ <;> replace hb46 := hid hb46 <;> (replace xa := xa.of_eq z_; replace xc := xc.of_eq z_; replace ⟨d0, d1, d2, d3⟩ := F4 z_ d0 d1 d2 d3; replace hown := hid (hown.out.keepF z_)))
       | (go_at_call 48; refine (in_any t' S _ _ hown.out.sl hSl.out).mono ?_; rintro e w48 ⟨rfl, rfl⟩))
      all_goals first
       | (go_ret; exact .no xa)
       | skip
   by_cases hk4 : k' = 44
   ·subst hk4
    have xc := xb
    replace hown := hid (hown.out.keepF (Ext.alloc _ wr (.cells #[.int .i64 44, .string (sv t'), .int .i64 n', .slice p' l'.length c'] 24)))
    by_cases ht' : t' = []
    ·subst ht'
     by_cases hl1 : l'.length = 2
     ·skip
      obtain ⟨a, b, rfl⟩ := kid_two hl1
      obtain ⟨g', o', s', rfl, hgB', f0, f1, f2, f3, hza⟩ := K'.out 0 (by simp)
      obtain ⟨g2, o2, s2, hgo, hgB2, j0, j1, j2, j3, hzb⟩ := K'.out 1 (by simp)
      simp only [Option.some.injEq, Addr.mk.injEq, and_true] at hgo
      obtain ⟨rfl, rfl⟩ := hgo
      simp only [gZ, gS, zM, oM, aZ, lC, lN, zA, Nat.reduceAdd] at *
      replace ⟨f0, f1, f2, f3⟩ := F4 xa f0 f1 f2 f3
      replace ⟨j0, j1, j2, j3⟩ := F4 xa j0 j1 j2 j3
      replace hza := hid (hza.keepF xa)
      replace hzb := hid (hzb.keepF xa)
      simp only [nv] at hza hzb
      clear hl1 K' HK
      by_cases hn' : n' = 0
      ·subst hn'
       go_wp2_with ((first | (go_at_call 49; refine (params_all false a B _ _ hza.out).mono ?_; rintro e w49 ⟨_ | _, rfl, hb49, z_⟩ <;> replace hb49 := hid hb49) | (go_at_call 51; refine (block_all b B _ _ hzb.out).mono ?_; rintro e w51 ⟨_ | _, rfl, hb51, z_⟩ <;> replace hb51 := hid hb51)) <;> (replace xa := xa.of_eq z_; replace xc := xc.of_eq z_; replace ⟨d0, d1, d2, d3⟩ := F4 z_ d0 d1 d2 d3; replace ⟨j0, j1, j2, j3⟩ := F4 z_ j0 j1 j2 j3; replace hzb := hid (hzb.out.keepF z_); replace hown := hid (hown.out.keepF z_)))
       all_goals first
        | (go_ret; exact .no xa)
        | skip
       all_goals
        have hstep := hid (fun hr : memsOk 1 S.reverse (l.drop (j + 1)) = true => hinv.out (by
         rw [hdr.out]
         exact mems_44 (hb49.out (by trivial)) (hb51.out (by trivial)) (by omega) hr))
        go_roundw
        case rel => exact ⟨j + 1, S, 1, by omega, hid (by have := hSj.out; omega), rfl, by go_num, by omega, hown, hstep, xc⟩
        case measure => simp [intOf]; omega
      ·skip
       go_wp2_with ((first | (go_at_call 49; refine (params_all false a B _ _ hza.out).mono ?_; rintro e w49 ⟨_ | _, rfl, hb49, z_⟩ <;> replace hb49 := hid hb49) | (go_at_call 51; refine (block_all b B _ _ hzb.out).mono ?_; rintro e w51 ⟨_ | _, rfl, hb51, z_⟩ <;> replace hb51 := hid hb51)) <;> (replace xa := xa.of_eq z_; replace xc := xc.of_eq z_; replace ⟨d0, d1, d2, d3⟩ := F4 z_ d0 d1 d2 d3; replace ⟨j0, j1, j2, j3⟩ := F4 z_ j0 j1 j2 j3; replace hzb := hid (hzb.out.keepF z_); replace hown := hid (hown.out.keepF z_)))
       all_goals first
        | (go_ret; exact .no xa)
        | skip
     ·skip
      have hl2 : ¬ (l'.length : Int) = 2 := by omega
      have hl3 : ((l'.length : Int) == 2) = false := by simpa using hl2
      clear hl1
      go_wp2
      all_goals
       go_ret
       exact .no xa
    ·go_wp2
     all_goals
      go_ret
      exact .no xa
   by_cases hk5 : k' = 45
   ·subst hk5
    have xc := xb
    replace hown := hid (hown.out.keepF (Ext.alloc _ wr (.cells #[.int .i64 45, .string (sv t'), .int .i64 n', .slice p' l'.length c'] 24)))
    have HKa := hid (HK.out.keepF xa)
    by_cases hct' : t' = [99, 111, 110, 115, 116, 114, 117, 99, 116, 111, 114]
    ·subst hct'
     go_wp2_with (first
      | ((first | (go_at_call 46; refine (prop_any _ _ htl').mono ?_; rintro e w46 ⟨_ | _, rfl, hb46, z_⟩ <;> replace hb46 := hid hb46) | (go_at_call 47; refine (body_all l' B _ _ HKa.out).mono ?_; rintro e w47 ⟨_ | _, rfl, hb47, z_⟩ <;> replace hb47 := hid hb47)) <;> (replace xa := xa.of_eq z_; replace xc := xc.of_eq z_; replace ⟨d0, d1, d2, d3⟩ := F4 z_ d0 d1 d2 d3; replace HKa := hid (HKa.out.keepF z_); replace hown := hid (hown.out.keepF z_)))
      | (go_at_call 48; refine (in_any _ S _ _ hown.out.sl hSl.out).mono ?_; rintro e w48 ⟨rfl, rfl⟩)
      | (at_builtin; refine wpList_append_str rfl (.tmp 133) (.tmp 136) 68 rfl (w.heap.size + 1) ii _ Tryz.underlying68 hi hz0 hz1 hz2 rfl _ S _ _ t' rfl rfl (hown.out.keepF (Ext.alloc _ _ _)) (cell_alloc _ _ _ 0 _ rfl) hSl.out (by rw [alloc_size]; have q1 := xc.size; rw [alloc_size] at q1; omega) ?_; intro p7 n7 c7 w7 hown7 hn7 hx7; subst hn7))
     all_goals first
      | (go_ret; exact .no xa)
      | skip
    ·have hct := hid hct'
     by_cases hn' : n' = 0
     ·subst hn'
      go_wp2_with (first
       | ((first | (go_at_call 46; refine (prop_any t' _ htl').mono ?_; rintro e w46 ⟨_ | _, rfl, hb46, z_⟩ <;> replace hb46 := hid hb46) | (go_at_call 47; refine (body_all l' B _ _ HKa.out).mono ?_; rintro e w47 ⟨_ | _, rfl, hb47, z_⟩ <;> replace hb47 := hid hb47)) <;> (replace xa := xa.of_eq z_; replace xc := xc.of_eq z_; replace ⟨d0, d1, d2, d3⟩ := F4 z_ d0 d1 d2 d3; replace HKa := hid (HKa.out.keepF z_); replace hown := hid (hown.out.keepF z_)))
       | (go_at_call 48; refine (in_any t' S _ _ hown.out.sl hSl.out).mono ?_; rintro e w48 ⟨rfl, rfl⟩)
       | (at_builtin; refine wpList_append_str rfl (.tmp 133) (.tmp 136) 68 rfl (w.heap.size + 1) ii _ Tryz.underlying68 hi hz0 hz1 hz2 rfl _ S _ _ t' rfl rfl (hown.out.keepF (Ext.alloc _ _ _)) (cell_alloc _ _ _ 0 _ rfl) hSl.out (by rw [alloc_size]; have q1 := xc.size; rw [alloc_size] at q1; omega) ?_; intro p7 n7 c7 w7 hown7 hn7 hx7; subst hn7))
      all_goals first
       | (go_ret; exact .no xa)
       | skip
      all_goals
       have hstep := hid (fun hr : memsOk 2 (S ++ [t']).reverse (l.drop (j + 1)) = true => hinv.out (by
        rw [hdr.out]
        exact mems_45 (hb46.out (by trivial)) (hb47.out (by trivial)) (by omega) (by first | assumption | exact Bool.eq_false_iff.2 (by assumption)) hct.out hr))
       go_roundw
       case rel => exact ⟨j + 1, S ++ [t'], 2, by omega, hid (by have := hSj.out; simp; omega), rfl, by go_num, by omega, hid hown7, hstep, (xc.of_eq (Ext.alloc _ _ _)).trans (hx7.mono fun k _ hk => .inr (by rw [alloc_size]; exact hk))⟩
       case measure => simp [intOf]; omega
     ·skip
      go_wp2_with (first
       | ((first | (go_at_call 46; refine (prop_any t' _ htl').mono ?_; rintro e w46 ⟨_ | _, rfl, hb46, z_⟩ <;> replace hb46 := hid hb46) | (go_at_call 47; refine (body_all l' B _ _ HKa.out).mono ?_; rintro e w47 ⟨_ | _, rfl, hb47, z_⟩ <;> replace hb47 := hid hb47)) <;> (replace xa := xa.of_eq z_; replace xc := xc.of_eq z_; replace ⟨d0, d1, d2, d3⟩ := F4 z_ d0 d1 d2 d3; replace HKa := hid (HKa.out.keepF z_); replace hown := hid (hown.out.keepF z_)))
       | (go_at_call 48; refine (in_any t' S _ _ hown.out.sl hSl.out).mono ?_; rintro e w48 ⟨rfl, rfl⟩)
       | (at_builtin; refine wpList_append_str rfl (.tmp 133) (.tmp 136) 68 rfl (w.heap.size + 1) ii _ Tryz.underlying68 hi hz0 hz1 hz2 rfl _ S _ _ t' rfl rfl (hown.out.keepF (Ext.alloc _ _ _)) (cell_alloc _ _ _ 0 _ rfl) hSl.out (by rw [alloc_size]; have q1 := xc.size; rw [alloc_size] at q1; omega) ?_; intro p7 n7 c7 w7 hown7 hn7 hx7; subst hn7))
      all_goals first
       | (go_ret; exact .no xa)
       | skip
   ·go_wp2
    all_goals
     go_ret
     exact .no xa
  ·have hfin := hid (show memsOk 0 [] l = true from hinv.out (by rw [List.drop_of_length_le (by omega)]; rfl))
   clear hinv
   go_wp2
   go_ret
   exact .yes (isClass_of (hb44.out (by trivial)) hfin.out) xx

end Go.Proofs.YtpmlmpibpmoclaaGreatDoor
