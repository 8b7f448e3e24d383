/-
  The document's answer on trees: the small tests.
-/
import Derived.Test.YtpmlmpibpmoclaaGreatDoorBase
namespace Go.Proofs.YtpmlmpibpmoclaaGreatDoor
set_option linter.all false
open Go.RowKit

theorem nd_cells (w : World) (k n : Int) (t : ByteArray) (sl : Value) :
  let w' := w.alloc (.cells #[.int .i64 k, .string t, .int .i64 n, sl] 24)
  w'.cell? ⟨w.heap.size, 0, none⟩ = some (.int .i64 k) ∧ w'.cell? ⟨w.heap.size, 1, none⟩ = some (.string t) ∧ w'.cell? ⟨w.heap.size, 2, none⟩ = some (.int .i64 n) ∧ w'.cell? ⟨w.heap.size, 3, none⟩ = some sl :=
 ⟨cell_alloc _ _ _ 0 _ rfl, cell_alloc _ _ _ 1 _ rfl, cell_alloc _ _ _ 2 _ rfl, cell_alloc _ _ _ 3 _ rfl⟩

theorem plain_any (B : Nat) (x : Tr) (v : Value) (w : World) (h : NodeAt B w v x) :
  Calls Tryz.prog 22 #[v] w fun e w' => e = .returned (.bool (plainT x)) ∧ Ext (fun _ => False) w w' := by
 obtain ⟨sl, rfl, _⟩ := h.open
 obtain ⟨k, t, n, l⟩ := x
 obtain ⟨c0, c1, c2, c3⟩ := nd_cells w k n (sv t) sl
 have xa : Ext (fun _ => False) w (w.alloc (.cells #[.int .i64 k, .string (sv t), .int .i64 n, sl] 24)) := Ext.alloc _ _ _
 simp only [nv, Tr.k, Tr.t, Tr.n]
 go_enter Tryz.func22, Tryz.ntmps22
 go_wp2
 all_goals
  go_ret
  refine ⟨?_, xa⟩
  simp_all [plainT, Tr.t, Tr.n, sv_list]

theorem bare_any (B : Nat) (x : Tr) (v : Value) (w : World) (h : NodeAt B w v x) :
  Calls Tryz.prog 42 #[v] w fun e w' => e = .returned (.bool (bare x)) ∧ Ext (fun _ => False) w w' := by
 obtain ⟨sl, rfl, ⟨p, c, rfl, _, _⟩, _⟩ := h.open
 obtain ⟨k, t, n, l⟩ := x
 obtain ⟨c0, c1, c2, c3⟩ := nd_cells w k n (sv t) (.slice p l.length c)
 have xa : Ext (fun _ => False) w (w.alloc (.cells #[.int .i64 k, .string (sv t), .int .i64 n, .slice p l.length c] 24)) := Ext.alloc _ _ _
 simp only [nv, Tr.k, Tr.t, Tr.n, Tr.l]
 go_enter Tryz.func42, Tryz.ntmps42
 go_wp2
 all_goals
  go_ret
  refine ⟨?_, xa⟩
  cases l <;> simp_all [bare, Tr.l]
  try omega

theorem none_any (B : Nat) (x : Tr) (v : Value) (w : World) (h : NodeAt B w v x) :
  Calls Tryz.prog 52 #[v] w fun e w' => e = .returned (.bool (isNone x)) ∧ Ext (fun _ => False) w w' := by
 obtain ⟨sl, rfl, _⟩ := id h.open
 obtain ⟨k, t, n, l⟩ := x
 have xa : Ext (fun _ => False) w (w.alloc (.cells #[.int .i64 k, .string (sv t), .int .i64 n, sl] 24)) := Ext.alloc _ _ _
 obtain ⟨c0, c1, c2, c3⟩ := nd_cells w k n (sv t) sl
 have hd := hid (h.keepF xa)
 clear h
 simp only [nv, Tr.k, Tr.t, Tr.n] at hd ⊢
 by_cases hk : k = 14
 ·subst hk
  go_enter Tryz.func52, Tryz.ntmps52
  go_wp2_with (first
   | (go_at_call 22; refine (plain_any B _ _ _ hd.out).mono ?_; rintro e w1 ⟨rfl, x1⟩; have d0 := x1.cellF c0; have d1 := x1.cellF c1; have d2 := x1.cellF c2; have d3 := x1.cellF c3; have h1 := hid (hd.out.keepF x1))
   | (go_at_call 42; refine (bare_any B _ _ _ h1.out).mono ?_; rintro e w2 ⟨rfl, x2⟩))
  all_goals
   go_ret
   refine ⟨?_, by first | exact (xa.of_eq x1).of_eq x2 | exact xa.of_eq x1 | exact xa⟩
   simp_all [isNone, Tr.k]
 ·go_enter Tryz.func52, Tryz.ntmps52
  go_wp2
  go_ret
  refine ⟨?_, xa⟩
  simp [isNone, Tr.k, hk]

/-- A tree that comes in, boxed. -/
theorem hR {B : Nat} {w : World} {v : Value} {k n : Int} {t : Bs} {l : List Tr} (h : NodeAt B w v (.mk k t n l)) : ∃ p c, v = nv (.mk k t n l) (.slice p l.length c) ∧ KidsAt B w (.slice p l.length c) l ∧ (-9223372036854775808 ≤ k ∧ k ≤ 9223372036854775807) ∧ (-9223372036854775808 ≤ n ∧ n ≤ 9223372036854775807) ∧ t.length ≤ 4398046511104 ∧ (l.length ≤ c ∧ l.length ≤ 4398046511104) ∧ (∀ i (hi : i < l.length), ∃ g o s, p = some ⟨g, o, none⟩ ∧ g < B ∧
  w.cell? ⟨g, o + i * 4, none⟩ = some (.int .i64 l[i].k) ∧ w.cell? ⟨g, o + i * 4 + 1, none⟩ = some (.string (sv l[i].t)) ∧
  w.cell? ⟨g, o + i * 4 + 2, none⟩ = some (.int .i64 l[i].n) ∧ w.cell? ⟨g, o + i * 4 + 3, none⟩ = some s ∧ NodeAt B w (nv l[i] s) l[i]) ∧
  Ext (fun _ => False) w (w.alloc (.cells #[.int .i64 k, .string (sv t), .int .i64 n, .slice p l.length c] 24)) ∧ Hid ((w.alloc (.cells #[.int .i64 k, .string (sv t), .int .i64 n, .slice p l.length c] 24)).cell? ⟨w.heap.size, 0, none⟩ = some (.int .i64 k) ∧ (w.alloc (.cells #[.int .i64 k, .string (sv t), .int .i64 n, .slice p l.length c] 24)).cell? ⟨w.heap.size, 1, none⟩ = some (.string (sv t)) ∧ (w.alloc (.cells #[.int .i64 k, .string (sv t), .int .i64 n, .slice p l.length c] 24)).cell? ⟨w.heap.size, 2, none⟩ = some (.int .i64 n) ∧ (w.alloc (.cells #[.int .i64 k, .string (sv t), .int .i64 n, .slice p l.length c] 24)).cell? ⟨w.heap.size, 3, none⟩ = some (.slice p l.length c)) ∧ Hid (NodeAt B (w.alloc (.cells #[.int .i64 k, .string (sv t), .int .i64 n, .slice p l.length c] 24)) (nv (.mk k t n l) (.slice p l.length c)) (.mk k t n l)) ∧ Hid (KidsAt B (w.alloc (.cells #[.int .i64 k, .string (sv t), .int .i64 n, .slice p l.length c] 24)) (.slice p l.length c) l) := by
 obtain ⟨sl, rfl, hks, hkr, hnr, htl⟩ := id h.open
 simp only [Tr.t, Tr.l] at hks htl
 obtain ⟨p, c, rfl, hcp, hkid⟩ := hks.kid
 have xw : Ext (fun _ => False) w (w.alloc (.cells #[.int .i64 k, .string (sv t), .int .i64 n, .slice p l.length c] 24)) := Ext.alloc _ _ _
 exact ⟨p, c, rfl, hks, hkr, hnr, htl, hcp, hkid, xw, nd_cells w k n (sv t) (.slice p l.length c), h.keepF xw, hks.keepF xw⟩


theorem own_keep {w w' : World} {base : Nat} {e : TypeId} {size : Nat} {v : Value} {n : Nat} {xs : List Value} (h : w.ownsRow base e size v n xs) {X : Nat → Prop} (hx : Ext X w w') (hX : ∀ g, v.ownBlock = some g → ¬ X g) : w'.ownsRow base e size v n xs := by
 refine ⟨h.1, ?_⟩
 rcases h.2 with h0 | ⟨g, cap, cur, rfl, hb, hg, hr⟩
 ·exact .inl h0
 ·exact .inr ⟨g, cap, cur, rfl, hb, (hx.block g (Array.getElem?_eq_some_iff.1 hg).1 (hX g rfl)).trans hg, hr⟩

theorem own_keepF {w w' : World} {base : Nat} {e : TypeId} {size : Nat} {v : Value} {n : Nat} {xs : List Value} (h : w.ownsRow base e size v n xs) (hx : Ext (fun _ => False) w w') : w'.ownsRow base e size v n xs := own_keep h hx fun _ _ h => h

theorem own_ge {w : World} {base : Nat} {e : TypeId} {size : Nat} {v : Value} {n : Nat} {xs : List Value} (h : w.ownsRow base e size v n xs) {g : Nat} (hg : v.ownBlock = some g) : base ≤ g ∧ g < w.heap.size := by
 rcases h.2 with ⟨rfl, _⟩ | ⟨g', cap, cur, rfl, hb, hk, _⟩
 ·cases hg
 ·simp [Value.ownBlock] at hg
  subst hg
  exact ⟨hb, (Array.getElem?_eq_some_iff.1 hk).1⟩

/-- v is a slice of the strings S. -/
def SlS (w : World) (v : Value) (S : List Bs) : Prop := ∃ p c, v = .slice p S.length c ∧ ∀ i (h : i < S.length), ∃ g o, p = some ⟨g, o, none⟩ ∧ w.cell? ⟨g, o + i, none⟩ = some (.string (sv S[i]))

theorem SlS.keepF {w w' : World} {v : Value} {S : List Bs} (h : SlS w v S) (hx : Ext (fun _ => False) w w') : SlS w' v S := by
 obtain ⟨p, c, hv, hc⟩ := h
 refine ⟨p, c, hv, fun i h => ?_⟩
 obtain ⟨g, o, hp, hg⟩ := hc i h
 exact ⟨g, o, hp, hx.cellF hg⟩

/-- The call's own strings. -/
def strs (S : List Bs) : List Value := S.map fun s => .string (sv s)
def OwnS (base : Nat) (w : World) (v : Value) (S : List Bs) : Prop := w.ownsRow base 9 1 v S.length (strs S)

theorem OwnS.nil (base : Nat) (w : World) : OwnS base w (.slice none 0 0) [] := ⟨rfl, .inl ⟨rfl, rfl⟩⟩
theorem OwnS.keepF {base : Nat} {w w' : World} {v : Value} {S : List Bs} (h : OwnS base w v S) (hx : Ext (fun _ => False) w w') : OwnS base w' v S := own_keepF h hx

theorem OwnS.sl {base : Nat} {w : World} {v : Value} {S : List Bs} (h : OwnS base w v S) : SlS w v S := by
 rcases h.2 with ⟨rfl, h0⟩ | ⟨g, cap, cur, rfl, hb, hg, hc, _, hs, ht⟩
 ·obtain rfl := List.length_eq_zero_iff.1 h0
  exact ⟨none, 0, rfl, fun i h => by simp at h⟩
 ·refine ⟨some ⟨g, 0, none⟩, cap, rfl, fun i hi => ⟨g, 0, rfl, ?_⟩⟩
  have h1 : (strs S)[i]? = some (.string (sv S[i])) := by simp [strs, List.getElem?_map, List.getElem?_eq_getElem hi]
  rw [← ht, List.getElem?_take] at h1
  split at h1
  ·simp only [World.cell?, hg, zA]
   simpa using h1
  ·cases h1

theorem OwnS.val {base : Nat} {w : World} {v : Value} {S : List Bs} (h : OwnS base w v S) : ∃ p c, v = .slice p S.length c := by
 obtain ⟨p, c, hv, _⟩ := h.sl
 exact ⟨p, c, hv⟩

section
variable {P : Program} {w : World}

/-- 'append(d, s)' at the operation. -/
theorem wpList_append_str {ops : Array Oper} {rest : List Oper} {o : Oper} {a : Act} {Q : Exit → Act → World → Prop} (hgd : o.guard = none) (s x : Operand) (t : TypeId)
  (ho : o.op = .call { callee := .builtin .append, args := #[s, x], argTypes := #[t, t] }) (base : Nat) (i : TypeInfo) (z : Value) (ht : P.underlying t = some (.slice 9)) (hi : P.info? 9 = some i)
  (hz : i.zero = some z) (hs : i.size = 1) (hby : i.bytes = 16) (hzs : z.cells.size = 1) (d : Value) (D : List Bs) (g : Nat) (c : Nat) (b : Bs) (hsd : a.eval s = d) (hsx : a.eval x = .slice (some ⟨g, 0, none⟩) 1 c)
  (hown : OwnS base w d D) (hsl : w.cell? ⟨g, 0, none⟩ = some (.string (sv b))) (hlen : D.length ≤ 4398046511104) (hbase : base ≤ w.heap.size)
  (h : ∀ p n c w', OwnS base w' (.slice p n c) (D ++ [b]) → n = D.length + 1 → Ext (fun k => base ≤ k) w w' → wpList P ops Q rest (a.put o.dst (.slice p n c)) w') : wpList P ops Q (o :: rest) a w := by
 refine wpList_append_own w hgd s x t ho base 9 i z 1 16 ht hi hz hs hby hzs (by decide) d D.length (strs D) hsd hown ⟨g, 0, none⟩ 1 c [.string (sv b)] hsx rfl (fun j u hj => ?_) (fun u hu => ?_) (by unfold maxLen; omega) (by omega) hbase (fun v' w' h2 h3 _ => ?_)
 ·cases j with
  | zero => simp at hj; subst hj; simpa [Addr.add] using hsl
  | succ j => simp at hj
 ·simp at hu; subst hu; rfl
 ·have e : strs D ++ [.string (sv b)] = strs (D ++ [b]) := by simp [strs]
  have e2 : D.length + 1 = (D ++ [b]).length := by simp
  rw [e, e2] at h2
  obtain ⟨p, c, hv⟩ := OwnS.val h2
  subst hv
  refine h p (D ++ [b]).length c w' h2 e2.symm (Ext.grown h3 fun k hk _ => ?_)
  exact (own_ge hown hk).1

end


/-- Is a text among some? -/
def has (S : List Bs) (s : Bs) : Bool := S.contains s
/-- The call answers that bool and touches nothing. -/
def Tells (b : Bool) (w : World) (e : Ending) (w' : World) : Prop := e = .returned (.bool b) ∧ w' = w
theorem Tells.mk {b c : Bool} {w : World} (h : b = c) : Tells b w (.returned (.bool c)) w := by subst h; exact ⟨rfl, rfl⟩

theorem has_take_no {S : List Bs} {s : Bs} {j : Nat} (h : j < S.length) (hn : has (S.take j) s = false) (hq : S[j] ≠ s) : has (S.take (j + 1)) s = false := by
 unfold has at *
 rw [List.take_succ_eq_append_getElem h]
 simp only [List.contains_eq_mem, decide_eq_false_iff_not] at hn ⊢
 intro hm
 rcases List.mem_append.1 hm with h1 | h1
 ·exact hn h1
 ·simp at h1; exact hq h1.symm
theorem has_at {S : List Bs} {s : Bs} {j : Nat} (h : j < S.length) (hq : S[j] = s) : has S s = true := by
 unfold has; simp [← hq]
theorem ne_list {a b : Bs} (h : a ≠ b) : ((sv a).toList == (sv b).toList) = false := by simpa [sv_list] using h

theorem in_any (s : Bs) (S : List Bs) (v : Value) (w : World) (h : SlS w v S) (hl : S.length ≤ 4398046511104) :
  Calls Tryz.prog 48 #[.string (sv s), v] w (Tells (has S s) w) := by
 obtain ⟨p, c, rfl, hcell⟩ := h
 have H := hid hcell
 clear hcell
 go_enter Tryz.func48, Tryz.ntmps48
 go_wp2
 go_loop [5] (fun i => ∃ j : Nat, j ≤ S.length ∧ i = .int .i64 j ∧ Hid (has (S.take j) s = false)) (fun i => S.length - (intOf i).toNat)
 case atStart => exact ⟨0, Nat.zero_le _, rfl, hid (by simp [has])⟩
 case round =>
  obtain ⟨j, hj, rfl, hno⟩ := hrel
  by_cases hlt : j < S.length
  ·obtain ⟨g, o, rfl, hc⟩ := H.out j hlt
   have hts := hid (fun hq => has_take_no hlt hno.out (s := s) hq)
   have hct := hid (has_at (s := s) hlt)
   generalize S[j] = q at *
   by_cases hq : q = s
   ·have hres := hid (hct.out hq)
    subst hq
    clear hct hts hno H
    go_wp2
    go_ret
    exact .mk hres.out
   ·have hnq := ne_list hq
    have hno2 := hid (hts.out hq)
    clear hct hts hno hq
    go_wp2
    go_round
    case rel => exact ⟨j + 1, by omega, by go_num, hno2⟩
    case measure => simp [intOf]; omega
  ·have hall := hid (show has S s = false by have := hno.out; rwa [List.take_of_length_le (by omega)] at this)
   clear hno
   go_wp2
   go_ret
   exact .mk hall.out

end Go.Proofs.YtpmlmpibpmoclaaGreatDoor
