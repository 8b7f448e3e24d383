/-
  The printer in memory: what it has gathered; what a call of its methods leaves.
-/
import Derived.Test.YtpmlmpibpmoclaaGreatDoorT0
import Derived.Test.YtpmlmpibpmoclaaGreatDoorPp
import Derived.OneCell
import Derived.Lib.ItoaNum
import Derived.Lib.LaidTab
import Derived.Lib.SmallJoins
namespace Go.Proofs.YtpmlmpibpmoclaaGreatDoor
set_option linter.all false
set_option maxRecDepth 20000
set_option maxHeartbeats 2000000
open Go.RowKit

def pcv : Pc → Value
 | .word s => .iface 77 (.string (sv s))
 | .opn => .iface 79 (.agg #[])
 | .line => .iface 80 (.agg #[])
 | .shut => .iface 82 (.agg #[])
def pcs (L : List Pc) : List Value := L.map pcv

/-- Block k is a row of pieces. -/
def Row76 (w : World) (k : Nat) : Prop := ∃ cs fr, w.heap[k]? = some (.cells cs 76 fr)
/-- What a call may turn: the printer's block and rows of pieces, from B on. -/
def P76 (B pb : Nat) (w : World) (k : Nat) : Prop := k = pb ∨ (B ≤ k ∧ Row76 w k)
def Px (B pb : Nat) (w w' : World) : Prop := Ext (P76 B pb w) w w'

theorem Px.trans {B pb : Nat} {a b c : World} (h : Px B pb a b) (k : Px B pb b c) : Px B pb a c := by
 refine Ext.trans h (Ext.mono k fun i hi hx => ?_)
 rcases hx with rfl | ⟨hB, hr⟩
 ·exact .inl (.inl rfl)
 rcases Nat.lt_or_ge i a.heap.size with h1 | h1
 ·rcases Classical.em (P76 B pb a i) with h2 | h2
  ·exact .inl h2
  ·exfalso
   obtain ⟨cs, fr, hc⟩ := hr
   exact h2 (.inr ⟨hB, cs, fr, (h.block i h1 h2).symm.trans hc⟩)
 ·exact .inr h1
theorem Px.of {B pb : Nat} {w w' : World} (h : Fx w w') : Px B pb w w' := h.mono fun _ _ h => h.elim
theorem Px.refl (B pb : Nat) (w : World) : Px B pb w w := Px.of (Ext.refl _ _)
theorem Px.fx {B pb : Nat} {a b c : World} (h : Px B pb a b) (k : Fx b c) : Px B pb a c := h.trans (Px.of k)

theorem Px.loc {B pb : Nat} {w w' : World} (hx : Px B pb w w') {b : Nat} {cs : Array Value} {t : TypeId} {fr : Nat × Nat} (h : w.heap[b]? = some (.cells cs t fr)) (hb : b ≠ pb) (ht : t ≠ 76) : w'.heap[b]? = some (.cells cs t fr) := by
 refine (hx.block b (Array.getElem?_eq_some_iff.1 h).1 ?_).trans h
 rintro (rfl | ⟨_, cs', fr', h2⟩)
 ·exact hb rfl
 ·rw [h] at h2
  simp only [Option.some.injEq, Obj.cells.injEq] at h2
  exact ht h2.2.1
theorem Px.cellB {B pb : Nat} {w w' : World} (hx : Px B pb w w') (hb : B ≤ pb) {a : Addr} {v : Value} (ha : a.block < B) (h : w.cell? a = some v) : w'.cell? a = some v :=
 Ext.cellX hx (fun hp => by rcases hp with h1 | ⟨h1, _⟩ <;> omega) h

/-- The library's table of tens, as start-up laid it; it lies below B. -/
structure Pow (B : Nat) (w : World) : Prop where
 le : B ≤ w.heap.size
 all : ∀ w', Below B w w' → Lib.TabIs Tryz.prog w' "internal/strconv.uint64pow10" .u64 Lib.pow10Tab
theorem Pow.keep {B : Nat} {w w' : World} {X : Nat → Prop} (h : Pow B w) (hx : Ext X w w') (hX : ∀ g, X g → B ≤ g) : Pow B w' :=
 ⟨Nat.le_trans h.le hx.size, fun w'' hb => h.all w'' ((hx.below h.le fun k _ hk => hX k hk).trans hb)⟩
theorem Pow.keepF {B : Nat} {w w' : World} (h : Pow B w) (hx : Fx w w') : Pow B w' := h.keep hx fun _ h => h.elim
theorem Pow.keepP {B pb : Nat} {w w' : World} (h : Pow B w) (hx : Px B pb w w') (hb : B ≤ pb) : Pow B w' := h.keep hx fun g hg => by rcases hg with h1 | ⟨h1, _⟩ <;> omega
theorem Pow.now {B : Nat} {w : World} (h : Pow B w) : Lib.TabIs Tryz.prog w "internal/strconv.uint64pow10" .u64 Lib.pow10Tab := h.all w (Below.refl _ _)

/-- Block pb is a printer that has gathered the pieces L. -/
structure PrAt (B : Nat) (w : World) (pb : Nat) (L : List Pc) : Prop where
 val : ∃ v, w.heap[pb]? = some (.cells #[v] 43 (0, 0)) ∧ w.ownsRow B 76 1 v L.length (pcs L)
 le : B ≤ pb
 pow : Pow B w

theorem PrAt.lt {B : Nat} {w : World} {pb : Nat} {L : List Pc} (h : PrAt B w pb L) : pb < w.heap.size := by
 obtain ⟨v, hv, _⟩ := h.val
 exact (Array.getElem?_eq_some_iff.1 hv).1
theorem PrAt.keepF {B : Nat} {w w' : World} {pb : Nat} {L : List Pc} (h : PrAt B w pb L) (hx : Fx w w') : PrAt B w' pb L := by
 have hlt := h.lt
 obtain ⟨v, hv, ho⟩ := h.val
 exact ⟨⟨v, (hx.block pb hlt id).trans hv, own_keepF ho hx⟩, h.le, h.pow.keepF hx⟩
theorem PrAt.cast {B : Nat} {w : World} {pb : Nat} {L L' : List Pc} (h : PrAt B w pb L) (e : L = L') : PrAt B w pb L' := e ▸ h

theorem NT.keepP {B pb : Nat} {w w' : World} {v : Value} {x : Tr} (h : NT B w v x) (hx : Px B pb w w') (hb : B ≤ pb) : NT B w' v x :=
 have hX : ∀ g, P76 B pb w g → B ≤ g := fun g hg => by rcases hg with h1 | ⟨h1, _⟩ <;> omega
 ⟨h.node.keep hx hX, h.tab.keep hx hX⟩
theorem KidsAt.keepP {B pb : Nat} {w w' : World} {v : Value} {l : List Tr} (h : KidsAt B w v l) (hx : Px B pb w w') (hb : B ≤ pb) : KidsAt B w' v l :=
 h.keep hx fun g hg => by rcases hg with h1 | ⟨h1, _⟩ <;> omega
theorem Tabs.keepP {B pb : Nat} {w w' : World} (h : Tabs B w) (hx : Px B pb w w') (hb : B ≤ pb) : Tabs B w' :=
 h.keep hx fun g hg => by rcases hg with h1 | ⟨h1, _⟩ <;> omega

/-- A call of the printer's: behind it it has gathered L'. -/
def Pts (B pb : Nat) (w : World) (L' : List Pc) (e : Ending) (w' : World) : Prop := e = .returned (.tuple #[]) ∧ PrAt B w' pb L' ∧ Px B pb w w'

theorem info76 : (Tryz.prog.info? 76).map (fun i => (i.zero, i.size, i.bytes)) = some (some .nilIface, 1, 16) := by kernel_rfl

theorem pcv_one (p : Pc) : (pcv p).oneCell' = true := by cases p <;> rfl

theorem info_at {i : Option TypeInfo} {z : Value} {s b : Nat} (h : i.map (fun i => (i.zero, i.size, i.bytes)) = some (some z, s, b)) : ∃ j, i = some j ∧ j.zero = some z ∧ j.size = s ∧ j.bytes = b := by
 cases i with
 | none => cases h
 | some j => simp only [Option.map_some, Option.some.injEq, Prod.mk.injEq] at h; exact ⟨j, rfl, h.1, h.2.1, h.2.2⟩

section
variable {P : Program} {w : World}
/-- 'append(p.l, x)' at the operation. -/
theorem wpList_append_pc {ops : Array Oper} {rest : List Oper} {o : Oper} {a : Act} {Q : Exit → Act → World → Prop} (hgd : o.guard = none) (s x : Operand) (t : TypeId)
  (ho : o.op = .call { callee := .builtin .append, args := #[s, x], argTypes := #[t, t] }) (base : Nat) (i : TypeInfo) (z : Value) (ht : P.underlying t = some (.slice 76)) (hi : P.info? 76 = some i)
  (hz : i.zero = some z) (hs : i.size = 1) (hby : i.bytes = 16) (hzs : z.cells.size = 1) (d : Value) (D : List Pc) (g : Nat) (c : Nat) (b : Pc) (hsd : a.eval s = d) (hsx : a.eval x = .slice (some ⟨g, 0, none⟩) 1 c)
  (hown : w.ownsRow base 76 1 d D.length (pcs D)) (hsl : w.cell? ⟨g, 0, none⟩ = some (pcv b)) (hlen : D.length ≤ 4398046511104) (hbase : base ≤ w.heap.size)
  (h : ∀ p n c w', w'.ownsRow base 76 1 (.slice p n c) (D ++ [b]).length (pcs (D ++ [b])) → w.grownBy w' d.ownBlock → wpList P ops Q rest (a.put o.dst (.slice p n c)) w') : wpList P ops Q (o :: rest) a w := by
 refine wpList_append_own w hgd s x t ho base 76 i z 1 16 ht hi hz hs hby hzs (by decide) d D.length (pcs D) hsd hown ⟨g, 0, none⟩ 1 c [pcv b] hsx rfl (fun j u hj => ?_) (fun u hu => ?_) (by unfold maxLen; omega) (by omega) hbase (fun v' w' h2 h3 _ => ?_)
 ·cases j with
  | zero => simp at hj; subst hj; simpa [Addr.add] using hsl
  | succ j => simp at hj
 ·simp at hu; subst hu; exact pcv_one b
 ·have e : pcs D ++ [pcv b] = pcs (D ++ [b]) := by simp [pcs]
  have e2 : D.length + 1 = (D ++ [b]).length := by simp
  rw [e, e2] at h2
  rcases h2.2 with ⟨rfl, h0⟩ | ⟨g', cap, cur, rfl, _⟩
  ·simp at h0
  ·exact h _ _ _ w' h2 h3
end

theorem cell_one {w : World} {b : Nat} {v : Value} {t : TypeId} {fr : Nat × Nat} (h : w.heap[b]? = some (.cells #[v] t fr)) : w.cell? ⟨b, 0, none⟩ = some v := by simp [World.cell?, h]
theorem free_one {w : World} {b : Nat} {v : Value} {t : TypeId} (h : w.heap[b]? = some (.cells #[v] t (0, 0))) : w.frozen? ⟨b, 0, none⟩ = false := by simp [World.frozen?, h]

/-- A row of pieces that an append has grown, and the printer's cell set to it. -/
theorem px_grown {B pb : Nat} {w w2 : World} {d d' : Value} {D D' : List Pc} (hle : B ≤ pb) (hv : w.heap[pb]? = some (.cells #[d] 43 (0, 0))) (ho : w.ownsRow B 76 1 d D.length (pcs D)) (hg : w.grownBy w2 d.ownBlock) (ho2 : w2.ownsRow B 76 1 d' D'.length (pcs D')) (hpw : Pow B w) :
  (w2.cell? ⟨pb, 0, none⟩ = some d ∧ w2.frozen? ⟨pb, 0, none⟩ = false) ∧ PrAt B (w2.setCell ⟨pb, 0, none⟩ d') pb D' ∧ Px B pb w (w2.setCell ⟨pb, 0, none⟩ d') := by
 have hlt := (Array.getElem?_eq_some_iff.1 hv).1
 have hr : ∀ k, d.ownBlock = some k → B ≤ k ∧ Row76 w k := by
  intro k hk
  rcases ho.2 with ⟨rfl, _⟩ | ⟨g, cap, cur, rfl, hb, hgg, _⟩
  ·cases hk
  ·simp [Value.ownBlock] at hk
   subst hk
   exact ⟨hb, cur, _, hgg⟩
 have hne : some pb ≠ d.ownBlock := by
  intro e
  obtain ⟨_, cs, fr, h2⟩ := hr pb e.symm
  rw [hv] at h2
  simp at h2
 have hv2 : w2.heap[pb]? = some (.cells #[d] 43 (0, 0)) := (hg.block pb hlt hne).trans hv
 have hlt2 : pb < w2.heap.size := (Array.getElem?_eq_some_iff.1 hv2).1
 have hpx : Px B pb w w2 := Ext.grown hg fun k hk _ => .inr (hr k hk)
 have hs : (w2.setCell ⟨pb, 0, none⟩ d').heap[pb]? = some (.cells #[d'] 43 (0, 0)) := one_setCell hv2
 have hxs : Ext (fun k => k = pb) w2 (w2.setCell ⟨pb, 0, none⟩ d') := Ext.setCell w2 ⟨pb, 0, none⟩ d' fun _ => rfl
 have hpz : Px B pb w (w2.setCell ⟨pb, 0, none⟩ d') := hpx.trans (hxs.mono fun k _ hk => .inl hk)
 refine ⟨⟨cell_one hv2, free_one hv2⟩, ⟨⟨d', hs, own_keep ho2 hxs fun g hg2 e => ?_⟩, hle, hpw.keepP hpz hle⟩, hpz⟩
 subst e
 rcases ho2.2 with ⟨rfl, _⟩ | ⟨g', cap, cur, rfl, hb, hgg, _⟩
 ·cases hg2
 ·simp [Value.ownBlock] at hg2
  subst hg2
  rw [hv2] at hgg
  simp at hgg

theorem heap_new (w : World) (o : Obj) : (w.alloc o).heap[w.heap.size]? = some o := by show (w.heap.push _)[w.heap.size]? = _; simp

/-- 'p.put(..)'. -/
theorem put_any (S : List Bs) (B pb : Nat) (L : List Pc) (w : World) (hp : PrAt B w pb L) (hB : B ≤ w.heap.size) (vs : Array Value) (T : TypeId) (m c g : Nat) (hv : (strs S).toArray = vs) (hm : S.length = m) (hg : w.heap.size = g) (hT : T ≠ 76)
  (hl : (L ++ S.map wd).length ≤ 4398046511104) :
  Calls Tryz.prog 67 #[.pointer (some ⟨pb, 0, none⟩), .slice (some ⟨g, 0, none⟩) m c] (w.alloc (.cells vs T)) (Pts B pb w (L ++ S.map wd)) := by
 obtain ⟨ii, hi, hz0, hz1, hz2⟩ := info_at info76
 subst hm hg
 have hne : w.heap.size ≠ pb := by have := hp.lt; omega
 have hblk := heap_new w (.cells vs T)
 have HL := hid hl
 have hSl : S.length ≤ 4398046511104 := by simp at hl; omega
 have hgB : B ≤ w.heap.size := hB
 have hp0 := hp.keepF (Ext.alloc (fun _ => False) w (.cells vs T))
 clear hl hp
 go_enter Tryz.func67, Tryz.ntmps67
 go_wp2
 go_loopw [8] (fun i wr => ∃ j : Nat, j ≤ S.length ∧ i = .int .i64 j ∧ Hid (PrAt B wr pb (L ++ (S.take j).map wd)) ∧ Hid (Px B pb (w.alloc (.cells vs T)) wr)) (fun i _ => S.length - (intOf i).toNat)
 case atStart => exact ⟨0, Nat.zero_le _, rfl, hid (by simpa using hp0), hid (Px.refl _ _ _)⟩
 case round =>
  obtain ⟨j, hj, rfl, hpr, hpx⟩ := hrel
  have hj4 : (j : Int) ≤ 4398046511104 := by omega
  by_cases hlt : j < S.length
  ·have hrow := hpx.out.loc hblk hne hT
   have hc : wr.cell? ⟨w.heap.size, 0 + j, none⟩ = some (.string (sv S[j])) := by
    simp only [World.cell?, hrow, zA]
    subst hv
    simp [strs, List.getElem?_map, List.getElem?_eq_getElem hlt]
   rw [Nat.zero_add] at hc
   have htk := hid (show L ++ (S.take (j + 1)).map wd = (L ++ (S.take j).map wd) ++ [Pc.word S[j]] by rw [List.take_succ_eq_append_getElem hlt, List.map_append, List.append_assoc]; rfl)
   have hlen := hid (show (L ++ (S.take j).map wd).length ≤ 4398046511104 by have := HL.out; simp at this ⊢; omega)
   generalize S[j] = s at *
   obtain ⟨d, hd, ho⟩ := hpr.out.val
   have hd0 := cell_one hd
   have HD := hid hd
   have HO := hid ho
   have hle := hid hpr.out.le
   have hpw := hid (hpr.out.pow)
   have hbs : B ≤ wr.heap.size := by have := hpx.out.size; simp at this; omega
   clear hd ho
   have xa : Fx wr (wr.alloc (.cells #[.iface 77 (.string (sv s))] 76)) := Ext.alloc _ _ _
   obtain ⟨p0, n0, c0, rfl⟩ : ∃ p n c, d = .slice p n c := by
    rcases HO.out.2 with ⟨rfl, _⟩ | ⟨g, cap, cur, rfl, _⟩
    ·exact ⟨_, _, _, rfl⟩
    ·exact ⟨_, _, _, rfl⟩
   have hd1 := hid ((xa.block pb (Array.getElem?_eq_some_iff.1 HD.out).1 id).trans HD.out)
   have ho1 := hid (own_keepF HO.out xa)
   have hcn := cell_alloc wr #[.iface 77 (.string (sv s))] 76 0 _ rfl
   go_wp2_with (at_builtin; refine wpList_append_pc rfl (.tmp 16) (.tmp 19) 41 rfl B ii _ Tryz.underlying41 hi hz0 hz1 hz2 rfl _ (L ++ (S.take j).map wd) wr.heap.size 1 (.word s) rfl rfl ho1.out hcn hlen.out (by rw [alloc_size]; omega) ?_; intro p7 n7 c7 w7 hown7 hg7; obtain ⟨⟨g1, g2⟩, g3, g4⟩ := px_grown hle.out hd1.out ho1.out hg7 hown7 (hpw.out.keepF xa); replace g3 := hid g3; replace g4 := hid g4; replace hown7 := hid hown7)
   go_roundw
   case rel => exact ⟨j + 1, by omega, by go_num, hid (g3.out.cast htk.out.symm), hid ((hpx.out.fx xa).trans g4.out)⟩
   case measure => simp [intOf]; omega
  ·have hfin := hid (hpr.out.cast (show L ++ (S.take j).map wd = L ++ S.map wd by rw [List.take_of_length_le (by omega)]))
   go_wp2
   go_end0
   exact ⟨rfl, hfin.out, (Px.of (Ext.alloc _ _ _)).trans hpx.out⟩

theorem put_l (S : List Bs) {B pb : Nat} {L : List Pc} {w : World} (hp : PrAt B w pb L) {vs : Array Value} {T : TypeId} {m c g : Nat} (hl : (L ++ S.map wd).length ≤ 4398046511104) (hv : (strs S).toArray = vs) (hm : S.length = m) (hg : w.heap.size = g) (hT : T ≠ 76) :
  Calls Tryz.prog 67 #[.pointer (some ⟨pb, 0, none⟩), .slice (some ⟨g, 0, none⟩) m c] (w.alloc (.cells vs T)) (Pts B pb w (L ++ S.map wd)) :=
 put_any S B pb L w hp (Nat.le_trans hp.le (Nat.le_of_lt hp.lt)) vs T m c g hv hm hg hT hl

theorem blk4 {w : World} {b : Nat} {v0 v1 v2 v3 : Value} {t : TypeId} {fr : Nat × Nat} (h : w.heap[b]? = some (.cells #[v0, v1, v2, v3] t fr)) :
  w.cell? ⟨b, 0, none⟩ = some v0 ∧ w.cell? ⟨b, 1, none⟩ = some v1 ∧ w.cell? ⟨b, 2, none⟩ = some v2 ∧ w.cell? ⟨b, 3, none⟩ = some v3 := by
 refine ⟨?_, ?_, ?_, ?_⟩ <;> simp [World.cell?, h]
theorem Px.fxo {B pb : Nat} {a b c : World} (h : Px B pb b c) (k : Fx a b) : Px B pb a c := (Px.of k).trans h

theorem P4 {B pb : Nat} {w w' : World} (hx : Px B pb w w') (hb : B ≤ pb) {g p q r s : Nat} (hg : g < B) {u v x y : Value} (h0 : w.cell? ⟨g, p, none⟩ = some u) (h1 : w.cell? ⟨g, q, none⟩ = some v) (h2 : w.cell? ⟨g, r, none⟩ = some x) (h3 : w.cell? ⟨g, s, none⟩ = some y) :
  w'.cell? ⟨g, p, none⟩ = some u ∧ w'.cell? ⟨g, q, none⟩ = some v ∧ w'.cell? ⟨g, r, none⟩ = some x ∧ w'.cell? ⟨g, s, none⟩ = some y := ⟨hx.cellB hb hg h0, hx.cellB hb hg h1, hx.cellB hb hg h2, hx.cellB hb hg h3⟩

abbrev Pn (f : FuncId) (B pb : Nat) (w : World) (L : List Pc) (v : Value) (X : List Pc) : Prop := (L ++ X).length ≤ 4398046511104 → Calls Tryz.prog f #[.pointer (some ⟨pb, 0, none⟩), v] w (Pts B pb w (L ++ X))
theorem Q5 {B pb b : Nat} {L : List Pc} {w w1 w2 : World} {v0 v1 v2 v3 : Value} {T : TypeId} {fr : Nat × Nat} (z : Px B pb w1 w2) (pp : Hid (Px B pb w w1)) (hq : PrAt B w2 pb L) (HB : Hid (w1.heap[b]? = some (.cells #[v0, v1, v2, v3] T fr))) (hne : b ≠ pb) (hT : T ≠ 76 := by decide) :
  Hid (Px B pb w w2) ∧ Hid (PrAt B w2 pb L) ∧ Hid (w2.heap[b]? = some (.cells #[v0, v1, v2, v3] T fr)) ∧ (w2.cell? ⟨b, 0, none⟩ = some v0 ∧ w2.cell? ⟨b, 1, none⟩ = some v1 ∧ w2.cell? ⟨b, 2, none⟩ = some v2 ∧ w2.cell? ⟨b, 3, none⟩ = some v3) :=
 have h := z.loc HB hne hT
 ⟨pp.out.trans z, hq, h, blk4 h⟩
theorem D3 {B pb : Nat} {w w' : World} {v u : Value} {x : Tr} {l : List Tr} (z : Px B pb w w') (hpb : Hid (B ≤ pb)) (hd : Hid (NT B w v x)) (hk : Hid (KidsAt B w u l)) (hT : Hid (Tabs B w)) : Hid (NT B w' v x) ∧ Hid (KidsAt B w' u l) ∧ Hid (Tabs B w') :=
 ⟨hd.out.keepP z hpb.out, hk.out.keepP z hpb.out, hT.out.keepP z hpb.out⟩
theorem pl (S : List Bs) {B pb : Nat} {L : List Pc} {w : World} (hp : PrAt B w pb L) {vs : Array Value} {T : TypeId} {m c g : Nat} (hl : (L ++ S.map wd).length ≤ 4398046511104) (hv : (strs S).toArray = vs := by rfl) (hm : S.length = m := by rfl) (hg : w.heap.size = g := by first | rfl | exact alloc_size _ _) (hT : T ≠ 76 := by decide) :
  Calls Tryz.prog 67 #[.pointer (some ⟨pb, 0, none⟩), .slice (some ⟨g, 0, none⟩) m c] (w.alloc (.cells vs T)) (Pts B pb w (L ++ S.map wd)) := put_l S hp hl hv hm hg hT
theorem hS {B pb : Nat} {w : World} {v : Value} {k n : Int} {t : Bs} {l : List Tr} {L : List Pc} (hp : PrAt B w pb L) (h : NT B w v (.mk k t n l)) : ∃ p c, v = nv (.mk k t n l) (.slice p l.length c) ∧ KidsAt B w (.slice p l.length c) l ∧ (-9223372036854775808 ≤ k ∧ k ≤ 9223372036854775807) ∧ (-9223372036854775808 ≤ n ∧ n ≤ 9223372036854775807) ∧ t.length ≤ 4398046511104 ∧ (l.length ≤ c ∧ l.length ≤ 4398046511104) ∧ (∀ i (hi : i < l.length), ∃ g o s, p = some ⟨g, o, none⟩ ∧ g < B ∧
  w.cell? ⟨g, o + i * 4, none⟩ = some (.int .i64 l[i].k) ∧ w.cell? ⟨g, o + i * 4 + 1, none⟩ = some (.string (sv l[i].t)) ∧
  w.cell? ⟨g, o + i * 4 + 2, none⟩ = some (.int .i64 l[i].n) ∧ w.cell? ⟨g, o + i * 4 + 3, none⟩ = some s ∧ NodeAt B w (nv l[i] s) l[i]) ∧
  Hid (B ≤ pb) ∧ w.heap.size ≠ pb ∧ Fx w (w.alloc (.cells #[.int .i64 k, .string (sv t), .int .i64 n, .slice p l.length c] 24)) ∧ Hid (Px B pb w (w.alloc (.cells #[.int .i64 k, .string (sv t), .int .i64 n, .slice p l.length c] 24))) ∧ Hid ((w.alloc (.cells #[.int .i64 k, .string (sv t), .int .i64 n, .slice p l.length c] 24)).heap[w.heap.size]? = some (.cells #[.int .i64 k, .string (sv t), .int .i64 n, .slice p l.length c] 24)) ∧ ((w.alloc (.cells #[.int .i64 k, .string (sv t), .int .i64 n, .slice p l.length c] 24)).cell? ⟨w.heap.size, 0, none⟩ = some (.int .i64 k) ∧ (w.alloc (.cells #[.int .i64 k, .string (sv t), .int .i64 n, .slice p l.length c] 24)).cell? ⟨w.heap.size, 1, none⟩ = some (.string (sv t)) ∧ (w.alloc (.cells #[.int .i64 k, .string (sv t), .int .i64 n, .slice p l.length c] 24)).cell? ⟨w.heap.size, 2, none⟩ = some (.int .i64 n) ∧ (w.alloc (.cells #[.int .i64 k, .string (sv t), .int .i64 n, .slice p l.length c] 24)).cell? ⟨w.heap.size, 3, none⟩ = some (.slice p l.length c)) ∧
  Hid (NT B (w.alloc (.cells #[.int .i64 k, .string (sv t), .int .i64 n, .slice p l.length c] 24)) (nv (.mk k t n l) (.slice p l.length c)) (.mk k t n l)) ∧ Hid (KidsAt B (w.alloc (.cells #[.int .i64 k, .string (sv t), .int .i64 n, .slice p l.length c] 24)) (.slice p l.length c) l) ∧ Hid (Tabs B w) ∧ Hid (Tabs B (w.alloc (.cells #[.int .i64 k, .string (sv t), .int .i64 n, .slice p l.length c] 24))) ∧ Hid (PrAt B (w.alloc (.cells #[.int .i64 k, .string (sv t), .int .i64 n, .slice p l.length c] 24)) pb L) := by
 obtain ⟨p, c, e, hks, hkr, hnr, htl, hcp, hkid, xw, C, hd, hk, hT⟩ := hT_ h
 exact ⟨p, c, e, hks, hkr, hnr, htl, hcp, hkid, hp.le, by have := hp.lt; omega, xw, Px.of xw, heap_new w _, C.out, hd, hk, h.tab, hT, hp.keepF xw⟩

end Go.Proofs.YtpmlmpibpmoclaaGreatDoor
