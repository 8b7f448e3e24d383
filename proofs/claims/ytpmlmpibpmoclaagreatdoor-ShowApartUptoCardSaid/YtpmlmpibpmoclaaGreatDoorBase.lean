/-
  What the walks of this seat stand on: worlds that differ in new memory alone, strings, trees in memory.
-/
import Derived.Test.YtpmlmpibpmoclaaGreatDoorRd8
import Derived.Test.YtpmlmpibpmoclaaGreatDoorUt
import Derived.Test.YtpmlmpibpmoclaaGreatDoorPc
import Derived.Test.YtpmlmpibpmoclaaGreatDoorChecked
import Derived.WalkKit
import Derived.BigQuiet
import Derived.Deep.QuietTactic
import Derived.Deep.RegionWith
import Derived.Deep.RegionHeld3
import Derived.BigRegion
import Derived.Below
import Derived.Lib.Strings
import Derived.Lib.Hide
namespace Go.Proofs.YtpmlmpibpmoclaaGreatDoor
set_option linter.all false
open Go.RowKit

/-- From w to w' only blocks in X (of those that were there) may have turned; new blocks may have come. -/
structure Ext (X : Nat → Prop) (w w' : World) : Prop where
 os : w'.os = w.os
 tape : w'.tape = w.tape
 output : w'.output = w.output
 size : w.heap.size ≤ w'.heap.size
 block : ∀ k, k < w.heap.size → ¬ X k → w'.heap[k]? = w.heap[k]?

theorem Ext.refl (X : Nat → Prop) (w : World) : Ext X w w := ⟨rfl, rfl, rfl, Nat.le_refl _, fun _ _ _ => rfl⟩

theorem Ext.mono {X Y : Nat → Prop} {a b : World} (h : Ext X a b) (hXY : ∀ k, k < a.heap.size → X k → Y k) : Ext Y a b :=
 ⟨h.os, h.tape, h.output, h.size, fun k hk hn => h.block k hk fun hx => hn (hXY k hk hx)⟩

theorem Ext.trans {X : Nat → Prop} {a b c : World} (h : Ext X a b) (k : Ext (fun i => X i ∨ a.heap.size ≤ i) b c) : Ext X a c :=
 ⟨k.os.trans h.os, k.tape.trans h.tape, k.output.trans h.output, Nat.le_trans h.size k.size, fun i hi hn =>
  (k.block i (Nat.lt_of_lt_of_le hi h.size) (fun hx => hx.elim hn (fun hx => by omega))).trans (h.block i hi hn)⟩

theorem Ext.of_eq {X : Nat → Prop} {a b c : World} (h : Ext X a b) (k : Ext (fun _ => False) b c) : Ext X a c :=
 h.trans (k.mono fun _ _ hx => hx.elim)

theorem Ext.alloc (X : Nat → Prop) (w : World) (o : Obj) : Ext X w (w.alloc o) :=
 ⟨rfl, rfl, rfl, by simp, fun k hk _ => Below.heap_alloc _ _ _ hk⟩

theorem Ext.drew (X : Nat → Prop) (w : World) : Ext X w w.drew := ⟨rfl, rfl, rfl, Nat.le_refl _, fun _ _ _ => rfl⟩
theorem Ext.drewN (X : Nat → Prop) (w : World) (n : Nat) : Ext X w (w.drewN n) := ⟨rfl, rfl, rfl, Nat.le_refl _, fun _ _ _ => rfl⟩

theorem Ext.setCell {X : Nat → Prop} (w : World) (a : Addr) (u : Value) (hX : a.block < w.heap.size → X a.block) : Ext X w (w.setCell a u) :=
 ⟨rfl, rfl, rfl, by simp [World.setCell], fun k hk hn => Below.heap_setCell _ _ _ _ (fun e => hn (e ▸ hX (e ▸ hk)))⟩

theorem Ext.grown {X : Nat → Prop} {w w' : World} {row : Option Nat} (h : w.grownBy w' row) (hX : ∀ k, row = some k → k < w.heap.size → X k) : Ext X w w' :=
 ⟨h.os, h.tape, h.output, h.size, fun k hk hn => h.block k hk (fun e => hn (hX k e.symm hk))⟩

theorem Ext.below {X : Nat → Prop} {w w' : World} (h : Ext X w w') {B : Nat} (hB : B ≤ w.heap.size) (hX : ∀ k, k < w.heap.size → X k → B ≤ k) : Below B w w' :=
 ⟨h.os, h.tape, h.output, h.size, fun k hk => h.block k (by omega) fun hx => by have := hX k (by omega) hx; omega⟩

theorem Ext.F {X : Nat → Prop} {w w' : World} (hx : Ext (fun _ => False) w w') : Ext X w w' := hx.mono fun _ _ h => h.elim

theorem hid {p : Prop} (h : p) : Hid p := h

theorem cell_lt {w : World} {a : Addr} {v : Value} (h : w.cell? a = some v) : a.block < w.heap.size := by
 rcases Nat.lt_or_ge a.block w.heap.size with h1 | h1
 ·exact h1
 ·have : w.heap[a.block]? = none := Array.getElem?_eq_none h1
  simp [World.cell?, this] at h

theorem Ext.cellX {X : Nat → Prop} {w w' : World} (hx : Ext X w w') {a : Addr} {v : Value} (hb : ¬ X a.block) (h : w.cell? a = some v) : w'.cell? a = some v := by
 rw [World.cell?_of_block (w := w) (hx.block _ (cell_lt h) hb)]; exact h
theorem Ext.cellF {w w' : World} (hx : Ext (fun _ => False) w w') {a : Addr} {v : Value} (h : w.cell? a = some v) : w'.cell? a = some v := hx.cellX id h

/-- The cells of a new block. -/
theorem cell_alloc (w : World) (cs : Array Value) (t : TypeId) (i : Nat) (v : Value) (h : cs[i]? = some v) : (w.alloc (.cells cs t)).cell? ⟨w.heap.size, i, none⟩ = some v := by
 have hb : (w.alloc (.cells cs t)).heap[w.heap.size]? = some (.cells cs t) := by show (w.heap.push _)[w.heap.size]? = _; simp
 simp only [World.cell?, hb]; simpa using h

/-! ### trees in memory -/

/-- A tree's value, its kids being that slice. -/
def nv (x : Tr) (sl : Value) : Value := .agg #[.int .i64 x.k, .string (sv x.t), .int .i64 x.n, sl]

/-- The value v is the tree x; all its memory is in blocks below B. -/
inductive NodeAt (B : Nat) (w : World) : Value → Tr → Prop where
 | mk (k : Int) (t : Bs) (n : Int) (l : List Tr) (p : Option Addr) (c : Nat) (sl : Nat → Value) (hk : -9223372036854775808 ≤ k ∧ k ≤ 9223372036854775807) (hn : -9223372036854775808 ≤ n ∧ n ≤ 9223372036854775807)
   (ht : t.length ≤ 4398046511104) (hcp : l.length ≤ c ∧ l.length ≤ 4398046511104)
   (hc : ∀ i (h : i < l.length), ∃ g o, p = some ⟨g, o, none⟩ ∧ g < B ∧ w.cell? ⟨g, o + i * 4, none⟩ = some (.int .i64 l[i].k) ∧ w.cell? ⟨g, o + i * 4 + 1, none⟩ = some (.string (sv l[i].t)) ∧
    w.cell? ⟨g, o + i * 4 + 2, none⟩ = some (.int .i64 l[i].n) ∧ w.cell? ⟨g, o + i * 4 + 3, none⟩ = some (sl i))
   (hl : ∀ i (h : i < l.length), NodeAt B w (nv l[i] (sl i)) l[i]) : NodeAt B w (.agg #[.int .i64 k, .string (sv t), .int .i64 n, .slice p l.length c]) (.mk k t n l)

/-- A slice of trees. -/
def KidsAt (B : Nat) (w : World) (v : Value) (l : List Tr) : Prop :=
 ∃ p c, v = .slice p l.length c ∧ (l.length ≤ c ∧ l.length ≤ 4398046511104) ∧ ∃ sl : Nat → Value, (∀ i (h : i < l.length), ∃ g o, p = some ⟨g, o, none⟩ ∧ g < B ∧ w.cell? ⟨g, o + i * 4, none⟩ = some (.int .i64 l[i].k) ∧ w.cell? ⟨g, o + i * 4 + 1, none⟩ = some (.string (sv l[i].t)) ∧
    w.cell? ⟨g, o + i * 4 + 2, none⟩ = some (.int .i64 l[i].n) ∧ w.cell? ⟨g, o + i * 4 + 3, none⟩ = some (sl i)) ∧ ∀ i (h : i < l.length), NodeAt B w (nv l[i] (sl i)) l[i]

theorem NodeAt.open {B : Nat} {w : World} {v : Value} {x : Tr} (h : NodeAt B w v x) :
  ∃ sl, v = nv x sl ∧ KidsAt B w sl x.l ∧ (-9223372036854775808 ≤ x.k ∧ x.k ≤ 9223372036854775807) ∧ (-9223372036854775808 ≤ x.n ∧ x.n ≤ 9223372036854775807) ∧ x.t.length ≤ 4398046511104 := by
 cases h with
 | mk k t n l p c sl hk hn ht hcp hc hl => exact ⟨.slice p l.length c, rfl, ⟨p, c, rfl, hcp, sl, hc, hl⟩, hk, hn, ht⟩

theorem NodeAt.shut {B : Nat} {w : World} {sl : Value} {x : Tr} (hs : KidsAt B w sl x.l) (hk : -9223372036854775808 ≤ x.k ∧ x.k ≤ 9223372036854775807) (hn : -9223372036854775808 ≤ x.n ∧ x.n ≤ 9223372036854775807) (ht : x.t.length ≤ 4398046511104) : NodeAt B w (nv x sl) x := by
 obtain ⟨k, t, n, l⟩ := x
 obtain ⟨p, c, rfl, hcp, s, hc, hl⟩ := hs
 exact .mk k t n l p c s hk hn ht hcp hc hl

theorem NodeAt.keep {B : Nat} {w w' : World} {v : Value} {x : Tr} {X : Nat → Prop} (h : NodeAt B w v x) (hx : Ext X w w') (hX : ∀ g, X g → B ≤ g) : NodeAt B w' v x := by
 induction h with
 | mk k t n l p c sl hk hn ht hcp hc hl ih =>
  refine .mk k t n l p c sl hk hn ht hcp (fun i h => ?_) ih
  obtain ⟨g, o, hp, hg, h0, h1, h2, h3⟩ := hc i h
  have hng : ¬ X g := fun e => by have := hX g e; omega
  exact ⟨g, o, hp, hg, hx.cellX hng h0, hx.cellX hng h1, hx.cellX hng h2, hx.cellX hng h3⟩

theorem KidsAt.keep {B : Nat} {w w' : World} {v : Value} {l : List Tr} {X : Nat → Prop} (h : KidsAt B w v l) (hx : Ext X w w') (hX : ∀ g, X g → B ≤ g) : KidsAt B w' v l := by
 obtain ⟨p, c, hv, hcp, sl, hc, hl⟩ := h
 refine ⟨p, c, hv, hcp, sl, fun i h => ?_, fun i h => (hl i h).keep hx hX⟩
 obtain ⟨g, o, hp, hg, h0, h1, h2, h3⟩ := hc i h
 have hng : ¬ X g := fun e => by have := hX g e; omega
 exact ⟨g, o, hp, hg, hx.cellX hng h0, hx.cellX hng h1, hx.cellX hng h2, hx.cellX hng h3⟩

theorem NodeAt.keepF {B : Nat} {w w' : World} {v : Value} {x : Tr} (h : NodeAt B w v x) (hx : Ext (fun _ => False) w w') : NodeAt B w' v x := h.keep hx fun _ h => h.elim
theorem KidsAt.keepF {B : Nat} {w w' : World} {v : Value} {l : List Tr} (h : KidsAt B w v l) (hx : Ext (fun _ => False) w w') : KidsAt B w' v l := h.keep hx fun _ h => h.elim

/-- What a place of a slice of trees holds. -/
theorem KidsAt.kid {B : Nat} {w : World} {v : Value} {l : List Tr} (h : KidsAt B w v l) : ∃ p c, v = .slice p l.length c ∧ (l.length ≤ c ∧ l.length ≤ 4398046511104) ∧ ∀ i (hi : i < l.length), ∃ g o s, p = some ⟨g, o, none⟩ ∧ g < B ∧
  w.cell? ⟨g, o + i * 4, none⟩ = some (.int .i64 l[i].k) ∧ w.cell? ⟨g, o + i * 4 + 1, none⟩ = some (.string (sv l[i].t)) ∧
  w.cell? ⟨g, o + i * 4 + 2, none⟩ = some (.int .i64 l[i].n) ∧ w.cell? ⟨g, o + i * 4 + 3, none⟩ = some s ∧ NodeAt B w (nv l[i] s) l[i] := by
 obtain ⟨p, c, hv, hcp, sl, hc, hl⟩ := h
 refine ⟨p, c, hv, hcp, fun i hi => ?_⟩
 obtain ⟨g, o, hp, hg, h0, h1, h2, h3⟩ := hc i hi
 exact ⟨g, o, sl i, hp, hg, h0, h1, h2, h3, hl i hi⟩

/-- The call answers a bool, and if it is true then P. -/
def Snd (P : Prop) (w : World) (e : Ending) (w' : World) : Prop := ∃ b : Bool, e = .returned (.bool b) ∧ (b = true → P) ∧ Ext (fun _ => False) w w'
theorem Snd.no {P : Prop} {w w' : World} (h : Ext (fun _ => False) w w') : Snd P w (.returned (.bool false)) w' := ⟨false, rfl, by simp, h⟩
theorem Snd.yes {P : Prop} {w w' : World} (hp : P) (h : Ext (fun _ => False) w w') : Snd P w (.returned (.bool true)) w' := ⟨true, rfl, fun _ => hp, h⟩
/-- The call answers that bool. -/
def Ans (b : Bool) (w : World) (e : Ending) (w' : World) : Prop := e = .returned (.bool b) ∧ Ext (fun _ => False) w w'

theorem be {P : Program} {fn : Func} {R : Ending → World → Prop} {x : Exit} {a : Act} {w : World} (hn : fn.results = #[]) (hd : a.defers = []) (h : R (.returned (.tuple #[])) w) (hx : x = .normal ∨ x = .ret := by first | exact .inl rfl | exact .inr rfl) : bodyPost P fn R x a w := by
 rcases hx with rfl | rfl
 ·exact bodyPost_end (results_none hn _ _ _) hd h
 ·exact bodyPost_ret (results_none hn _ _ _) hd h
theorem F4 {w w' : World} (hx : Ext (fun _ => False) w w') {a b c d : Addr} {u v x y : Value} (h0 : w.cell? a = some u) (h1 : w.cell? b = some v) (h2 : w.cell? c = some x) (h3 : w.cell? d = some y) :
  w'.cell? a = some u ∧ w'.cell? b = some v ∧ w'.cell? c = some x ∧ w'.cell? d = some y := ⟨hx.cellF h0, hx.cellF h1, hx.cellF h2, hx.cellF h3⟩
theorem K4 {w w' : World} (hx : Ext (fun _ => False) w w') {p : Option Addr} {B : Nat} {l : List Tr} (h : ∀ i (hi : i < l.length), ∃ g o s, p = some ⟨g, o, none⟩ ∧ g < B ∧
  w.cell? ⟨g, o + i * 4, none⟩ = some (.int .i64 l[i].k) ∧ w.cell? ⟨g, o + i * 4 + 1, none⟩ = some (.string (sv l[i].t)) ∧
  w.cell? ⟨g, o + i * 4 + 2, none⟩ = some (.int .i64 l[i].n) ∧ w.cell? ⟨g, o + i * 4 + 3, none⟩ = some s ∧ NodeAt B w (nv l[i] s) l[i]) : ∀ i (hi : i < l.length), ∃ g o s, p = some ⟨g, o, none⟩ ∧ g < B ∧
  w'.cell? ⟨g, o + i * 4, none⟩ = some (.int .i64 l[i].k) ∧ w'.cell? ⟨g, o + i * 4 + 1, none⟩ = some (.string (sv l[i].t)) ∧
  w'.cell? ⟨g, o + i * 4 + 2, none⟩ = some (.int .i64 l[i].n) ∧ w'.cell? ⟨g, o + i * 4 + 3, none⟩ = some s ∧ NodeAt B w' (nv l[i] s) l[i] := fun i hi => by
 obtain ⟨g, o, s, a, b, c, d, e, f, k⟩ := h i hi
 exact ⟨g, o, s, a, b, hx.cellF c, hx.cellF d, hx.cellF e, hx.cellF f, k.keepF hx⟩

end Go.Proofs.YtpmlmpibpmoclaaGreatDoor
