/-
  What a table's map and a slice of files are in memory, what the operations on them do, and what stays: facts on worlds, for the walks of the five laws on tables of files.
-/
import Derived.Test.YtpmlmpibpmoclaaRows
import Derived.Test.YtpmlmpibpmoclaaPlain
import Derived.WalkKit
import Derived.WalkSpells
import Derived.WalkLawsBesides
import Derived.Maps.OwnSet
import Derived.Maps.RangeWalk
namespace Go.Proofs.Ytpmlmpibpmoclaa
open Go.RowKit
open Go.ChangeMaps (setBlock)

/-! ### What stays: all blocks that were there, but those of X -/

structure Ext (X : Nat → Prop) (w w' : World) : Prop where
  os : w'.os = w.os
  tape : w'.tape = w.tape
  output : w'.output = w.output
  size : w.heap.size ≤ w'.heap.size
  block : ∀ k, k < w.heap.size → ¬ X k → w'.heap[k]? = w.heap[k]?

theorem Ext.refl (X : Nat → Prop) (w : World) : Ext X w w := ⟨rfl, rfl, rfl, Nat.le_refl _, fun _ _ _ => rfl⟩

theorem Ext.mono {X Y : Nat → Prop} {a b : World} (h : Ext X a b) (hXY : ∀ k, k < a.heap.size → X k → Y k) : Ext Y a b :=
  ⟨h.os, h.tape, h.output, h.size, fun k hk hn => h.block k hk fun hx => hn (hXY k hk hx)⟩

theorem Ext.trans {X : Nat → Prop} {a b c : World} (h : Ext X a b) (k : Ext (fun i => X i ∨ a.heap.size ≤ i) b c) : Ext X a c :=
  ⟨k.os.trans h.os, k.tape.trans h.tape, k.output.trans h.output, Nat.le_trans h.size k.size, fun i hi hn =>
    (k.block i (Nat.lt_of_lt_of_le hi h.size) (fun hx => hx.elim hn (fun hx => by omega))).trans (h.block i hi hn)⟩

theorem Ext.of_eq {X : Nat → Prop} {a b c : World} (h : Ext X a b) (k : Ext (fun _ => False) b c) : Ext X a c :=
  h.trans (k.mono fun _ _ hx => hx.elim)

theorem Ext.alloc (X : Nat → Prop) (w : World) (o : Obj) : Ext X w (w.alloc o) :=
  ⟨rfl, rfl, rfl, by simp, fun k hk _ => Below.heap_alloc _ _ _ hk⟩

theorem Ext.drew (X : Nat → Prop) (w : World) : Ext X w w.drew := ⟨rfl, rfl, rfl, Nat.le_refl _, fun _ _ _ => rfl⟩

theorem Ext.setCell {X : Nat → Prop} (w : World) (a : Addr) (u : Value) (hX : a.block < w.heap.size → X a.block) : Ext X w (w.setCell a u) :=
  ⟨rfl, rfl, rfl, by simp [World.setCell], fun k hk hn => Below.heap_setCell _ _ _ _ (fun e => hn (e ▸ hX (e ▸ hk)))⟩

theorem Ext.grown {X : Nat → Prop} {w w' : World} {row : Option Nat} (h : w.grownBy w' row) (hX : ∀ k, row = some k → k < w.heap.size → X k) : Ext X w w' :=
  ⟨h.os, h.tape, h.output, h.size, fun k hk hn => h.block k hk (fun e => hn (hX k e.symm hk))⟩

theorem Ext.below {X : Nat → Prop} {w w' : World} (h : Ext X w w') {B : Nat} (hB : B ≤ w.heap.size) (hX : ∀ k, k < w.heap.size → X k → B ≤ k) : Below B w w' :=
  ⟨h.os, h.tape, h.output, h.size, fun k hk => h.block k (by omega) fun hx => by have := hX k (by omega) hx; omega⟩

theorem Ext.setBlock {X : Nat → Prop} (w : World) (b : Nat) (o : Obj) (hX : b < w.heap.size → X b) : Ext X w (setBlock w b o) :=
  ⟨rfl, rfl, rfl, by simp [Go.ChangeMaps.setBlock], fun k hk hn => by
    simp only [Go.ChangeMaps.setBlock]
    rw [Array.getElem?_setIfInBounds_ne (fun e => hn (by subst e; exact hX hk))]⟩

/-! ### The map in a block -/

def vv (p : Fl) : Value × Value := (.string p.1, .string p.2)
def kv (e : MapEntry) : Value × Value := (e.key, e.val)

theorem vv_inj {p q : Fl} (h : vv p = vv q) : p = q := by
  simp [vv] at h; exact Prod.ext h.1 h.2

/-- Block b of w is a map that holds the entries l (in some order of its own). -/
def MapAt (w : World) (b : Nat) (l : List Fl) : Prop :=
  ∃ es clock, w.heap[b]? = some (.map es clock) ∧ es.toList.map kv = l.map vv ∧ (keys l).Nodup ∧ (es.toList.map (·.born)).Nodup ∧ ∀ e ∈ es.toList, e.born < clock

theorem MapAt.lt {w : World} {b : Nat} {l : List Fl} (h : MapAt w b l) : b < w.heap.size := by
  obtain ⟨es, c, hb, _⟩ := h
  exact (Array.getElem?_eq_some_iff.1 hb).1

theorem MapAt.keep {w w' : World} {b : Nat} {l : List Fl} (h : MapAt w b l) {X : Nat → Prop} (hx : Ext X w w') (hn : ¬ X b) : MapAt w' b l := by
  have hlt := h.lt
  obtain ⟨es, c, hb, r⟩ := h
  exact ⟨es, c, (hx.block b hlt hn).trans hb, r⟩

theorem findNow_str (k : ByteArray) : ∀ (es : List MapEntry) (l : List Fl) (i : Nat), es.map kv = l.map vv →
    ∃ r, Instr.findNow .string (.string k) es i = some r ∧
      match r with
      | none => look l k = none
      | some (j, v) => i ≤ j ∧ ∃ (h : j - i < l.length), l[j - i].1 = k ∧ v = .string l[j - i].2 ∧ look l k = some l[j - i].2
  | [], l, i, h => by
    cases l with
    | nil => exact ⟨none, rfl, rfl⟩
    | cons p r => simp at h
  | e :: es, [], i, h => by simp at h
  | e :: es, p :: l, i, h => by
    simp only [List.map_cons, List.cons.injEq] at h
    obtain ⟨h1, h2⟩ := h
    simp only [kv, vv, Prod.mk.injEq] at h1
    simp only [Instr.findNow, h1.1, h1.2, Instr.sameNow]
    by_cases hk : k = p.1
    · have hb : (k == p.1) = true := (MapKept.bytes_beq _ _).2 hk
      rw [hb]
      refine ⟨_, rfl, ?_⟩
      have hd : decide (p.1 = k) = true := by simp [hk]
      refine ⟨Nat.le_refl _, by simp, ?_⟩
      simp only [Nat.sub_self, List.getElem_cons_zero]
      refine ⟨hk.symm, trivial, ?_⟩
      unfold look
      rw [List.find?_cons, hd]
      rfl
    · have hb : (k == p.1) = false := by
        cases h : (k == p.1)
        · rfl
        · exact absurd ((MapKept.bytes_beq _ _).1 h) hk
      rw [hb]
      obtain ⟨r, hr, hm⟩ := findNow_str k es l (i + 1) h2
      refine ⟨r, hr, ?_⟩
      have hl : look (p :: l) k = look l k := by
        unfold look
        rw [List.find?_cons]
        have : decide (p.1 = k) = false := by simpa using fun e => hk e.symm
        rw [this]
      rw [hl]
      cases r with
      | none => exact hm
      | some jv =>
        obtain ⟨j, v⟩ := jv
        obtain ⟨a1, a2, a3, a4, a5⟩ := hm
        have e1 : j - i = (j - (i + 1)) + 1 := by omega
        refine ⟨by omega, by simp; omega, ?_⟩
        simp only [e1, List.getElem_cons_succ]
        exact ⟨a3, a4, a5⟩

section
variable {P : Program} {t : TypeId} {ke ve : TypeId} {w : World} {b : Nat} {l : List Fl}

theorem run_check_str (hk : P.underlying ke = some .string) (e : Bool) (k : ByteArray) (w : World) : (Instr.checkKey e 10000 ke (.string k)).run P w = .ok () w := by
  have h : ∀ n, (Instr.checkKey e (n + 1) ke (.string k)).run P w = .ok () w := fun n => by
    simp [Instr.checkKey, run_underlying hk, Result.andThen]
  exact h 9999

theorem run_findKey_str (hk : P.underlying ke = some .string) (k : ByteArray) (es : List MapEntry) (r : Option (Nat × Value)) (w : World) (h : Instr.findNow .string (.string k) es 0 = some r) :
    (Instr.findKey ke (.string k) es).run P w = .ok r w := by
  simp [Instr.findKey, run_underlying hk, h]

/-- 'v, ok := m[k]'. -/
theorem MapAt.look_ok (h : MapAt w b l) (ht : P.underlying t = some (.map ke ve)) (hk : P.underlying ke = some .string) (hz : (zeroValue ve).run P w = .ok (.string ByteArray.empty) w) (k : ByteArray) :
    (Instr.lookup t (.map (some b)) (.string k) true).run P w = .ok (.tuple #[.string ((look l k).getD ByteArray.empty), .bool (hit l k)]) w := by
  obtain ⟨es, c, hb, he, hn, hbn, hbc⟩ := h
  obtain ⟨r, hr, hm⟩ := findNow_str k es.toList l 0 he
  have hf := run_findKey_str hk k es.toList r w hr
  cases r with
  | none =>
    simp only [] at hm
    simp [Instr.lookup, run_underlying ht, MapKept.run_getObj_map hb, run_check_str hk, hf, hz, Result.andThen, hm, hit]
  | some jv =>
    obtain ⟨j, v⟩ := jv
    obtain ⟨_, _, _, hv, hl⟩ := hm
    simp [Instr.lookup, run_underlying ht, MapKept.run_getObj_map hb, run_check_str hk, hf, Result.andThen, hl, hit, hv]

theorem hit_some {l : List Fl} {k : ByteArray} {v : ByteArray} (h : look l k = some v) : hit l k = true := by unfold hit; rw [h]; rfl
theorem hit_none {l : List Fl} {k : ByteArray} (h : look l k = none) : hit l k = false := by unfold hit; rw [h]; rfl

/-- 'm[k] = v'. -/
theorem MapAt.update (h : MapAt w b l) (ht : P.underlying t = some (.map ke ve)) (hk : P.underlying ke = some .string) (k v : ByteArray) :
    ∃ w', (Instr.mapUpdate t (.map (some b)) (.string k) (.string v)).run P w = .ok () w' ∧ MapAt w' b (mput l k v) ∧ Ext (fun i => i = b) w w' := by
  have hlt := h.lt
  obtain ⟨es, c, hb, he, hn, hbn, hbc⟩ := h
  obtain ⟨r, hr, hm⟩ := findNow_str k es.toList l 0 he
  have hf := run_findKey_str hk k es.toList r w hr
  have hlen : es.toList.length = l.length := by have := congrArg List.length he; simpa using this
  cases r with
  | none =>
    simp only [] at hm
    refine ⟨Go.ChangeMaps.setBlock w b (.map (es.push { key := .string k, val := .string v, born := c }) (c + 1)), ?_, ?_, Ext.setBlock _ _ _ fun _ => rfl⟩
    · simp [Instr.mapUpdate, run_underlying ht, MapKept.run_getObj_map hb, run_check_str hk, hf, Result.andThen, MapKept.run_setObj_map _ hb, Go.ChangeMaps.setBlock]
    · refine ⟨_, _, Go.ChangeMaps.heap_setBlock_same hb _, ?_, keys_mput hn _ _, ?_, ?_⟩
      · unfold mput
        rw [hit_none hm]
        simp [he, kv, vv]
      · simp
        rw [List.nodup_append]
        refine ⟨by simpa using hbn, by simp, ?_⟩
        intro a ha d hd e
        simp at hd ha
        obtain ⟨x, hx, rfl⟩ := ha
        have := hbc x (by simpa using hx)
        omega
      · intro e hm'
        simp at hm'
        rcases hm' with h1 | h1
        · have := hbc e (by simpa using h1); omega
        · subst h1; simp
  | some jv =>
    obtain ⟨j, x⟩ := jv
    obtain ⟨_, hj, hjk, hv, hl⟩ := hm
    simp only [Nat.sub_zero] at hj hjk hv hl
    have hj' : j < es.size := by rw [← Array.length_toList, hlen]; exact hj
    have hkey : es[j].key = .string k := by
      have h1 : (es.toList.map kv)[j]'(by simpa using hj') = (l.map vv)[j]'(by simpa using hj) := by simp only [he]
      simp [kv, vv] at h1
      rw [h1.1, hjk]
    refine ⟨Go.ChangeMaps.setBlock w b (.map (es.modify j fun e => { e with key := .string k, val := .string v }) c), ?_, ?_, Ext.setBlock _ _ _ fun _ => rfl⟩
    · have hstay : (Instr.keyThatStays (.string k) (.string k)).run P w = .ok (.string k) w := by
        have hb2 : Instr.sameBits 10000 (.string k) (.string k) = true := (MapKept.bytes_beq _ _).2 rfl
        simp [Instr.keyThatStays, hb2]
      simp [Instr.mapUpdate, run_underlying ht, MapKept.run_getObj_map hb, run_check_str hk, hf, Result.andThen, MapKept.run_setObj_map _ hb, Go.ChangeMaps.setBlock, hj', hkey, hstay]
    · have hmod : (es.modify j fun e => { e with key := .string k, val := .string v }).toList = es.toList.modify j fun e => { e with key := .string k, val := .string v } := by simp
      have hborn : ((es.toList.modify j fun e => { e with key := .string k, val := .string v }).map (·.born)) = es.toList.map (·.born) := by
        apply List.ext_getElem
        · simp
        · intro i h1 h2
          simp [List.getElem_modify]
          split <;> rfl
      refine ⟨_, _, Go.ChangeMaps.heap_setBlock_same hb _, ?_, keys_mput hn _ _, ?_, ?_⟩
      · rw [hmod]
        unfold mput
        rw [hit_some hl, if_pos rfl]
        apply List.ext_getElem
        · simp [hlen]
        · intro i h1 h2
          simp at h1 h2
          have h3 : (es.toList.map kv)[i]'(by simpa using h1) = (l.map vv)[i]'(by simpa using h2) := by simp only [he]
          simp only [List.getElem_map] at h3
          simp only [List.getElem_map, List.getElem_modify]
          by_cases e : j = i
          · subst e
            simp [hjk, kv, vv]
          · rw [if_neg e]
            have : l[i].1 ≠ k := by
              intro e2
              have hn' := hn
              unfold keys List.Nodup at hn'
              rw [List.pairwise_iff_getElem] at hn'
              rcases Nat.lt_or_gt_of_ne e with h4 | h4
              · have := hn' j i (by simpa using hj) (by simpa using h2) h4
                simp at this; exact this (hjk.trans e2.symm)
              · have := hn' i j (by simpa using h2) (by simpa using hj) h4
                simp at this; exact this (e2.trans hjk.symm)
            rw [if_neg this, h3]
      · rw [hmod, hborn]; exact hbn
      · intro e hm'
        rw [hmod] at hm'
        have h5 : e.born ∈ es.toList.map (·.born) := by rw [← hborn]; exact List.mem_map.2 ⟨e, hm', rfl⟩
        obtain ⟨x, hx, e2⟩ := List.mem_map.1 h5
        have := hbc x hx
        omega

/-- 'delete(m, k)'. -/
theorem MapAt.delete (h : MapAt w b l) (ht : P.underlying t = some (.map ke ve)) (hk : P.underlying ke = some .string) (k : ByteArray) (ty kt : TypeId) :
    ∃ w', (Builtin.delete_ #[t, kt] ty #[.map (some b), .string k]).run P w = .ok (.tuple #[]) w' ∧ MapAt w' b (mdel l k) ∧ Ext (fun i => i = b) w w' := by
  have hlt := h.lt
  obtain ⟨es, c, hb, he, hn, hbn, hbc⟩ := h
  obtain ⟨r, hr, hm⟩ := findNow_str k es.toList l 0 he
  have hf := run_findKey_str hk k es.toList r w hr
  have hlen : es.toList.length = l.length := by have := congrArg List.length he; simpa using this
  cases r with
  | none =>
    simp only [] at hm
    refine ⟨Go.ChangeMaps.setBlock w b (.map es c), ?_, ?_, Ext.setBlock _ _ _ fun _ => rfl⟩
    · simp [Builtin.delete_, run_underlying ht, MapKept.run_getObj_map hb, run_check_str hk, hf, Result.andThen, MapKept.run_setObj_map _ hb, Go.ChangeMaps.setBlock]
    · refine ⟨_, _, Go.ChangeMaps.heap_setBlock_same hb _, ?_, keys_mdel hn _, hbn, hbc⟩
      have : mdel l k = l := by
        unfold mdel
        rw [List.filter_eq_self]
        intro p hp
        have := look_none.1 hm
        simp
        exact fun e => this (List.mem_map.2 ⟨p, hp, e⟩)
      rw [this]; exact he
  | some jv =>
    obtain ⟨j, x⟩ := jv
    obtain ⟨_, hj, hjk, hv, hl⟩ := hm
    simp only [Nat.sub_zero] at hj hjk hv hl
    have hj' : j < es.size := by rw [← Array.length_toList, hlen]; exact hj
    refine ⟨Go.ChangeMaps.setBlock w b (.map (es.eraseIdxIfInBounds j) c), ?_, ?_, Ext.setBlock _ _ _ fun _ => rfl⟩
    · simp [Builtin.delete_, run_underlying ht, MapKept.run_getObj_map hb, run_check_str hk, hf, Result.andThen, MapKept.run_setObj_map _ hb, Go.ChangeMaps.setBlock]
    · have hmod : (es.eraseIdxIfInBounds j).toList = es.toList.eraseIdx j := by simp [Array.eraseIdxIfInBounds, hj']
      have hdel : mdel l k = l.eraseIdx j := by
        unfold mdel
        have h1 : l = l.take j ++ l[j] :: l.drop (j + 1) := by simp
        have hd : ∀ i (h : i < l.length), i ≠ j → l[i].1 ≠ k := by
          intro i hi hne e2
          have hn' := hn
          unfold keys List.Nodup at hn'
          rw [List.pairwise_iff_getElem] at hn'
          rcases Nat.lt_or_gt_of_ne hne with h4 | h4
          · have := hn' i j (by simpa using hi) (by simpa using hj) h4
            simp at this; exact this (e2.trans hjk.symm)
          · have := hn' j i (by simpa using hj) (by simpa using hi) h4
            simp at this; exact this (hjk.trans e2.symm)
        conv => lhs; rw [h1]
        rw [List.filter_append, List.filter_cons, List.eraseIdx_eq_take_drop_succ]
        simp only [hjk, ne_eq, not_true, decide_false, Bool.false_eq_true, if_false]
        congr 1
        · rw [List.filter_eq_self]
          intro p hp
          obtain ⟨i, hi, rfl⟩ := List.mem_iff_getElem.1 hp
          simp at hi
          simp
          exact hd i (by omega) (by omega)
        · rw [List.filter_eq_self]
          intro p hp
          obtain ⟨i, hi, rfl⟩ := List.mem_iff_getElem.1 hp
          simp at hi
          simp
          exact hd (j + 1 + i) (by omega) (by omega)
      refine ⟨_, _, Go.ChangeMaps.heap_setBlock_same hb _, ?_, keys_mdel hn _, ?_, ?_⟩
      · rw [hmod, hdel, Go.ChangeMaps.map_eraseIdx, Go.ChangeMaps.map_eraseIdx, he]
      · rw [hmod, Go.ChangeMaps.map_eraseIdx]
        exact List.Pairwise.sublist (List.eraseIdx_sublist _ _) hbn
      · intro e hm'
        rw [hmod] at hm'
        exact hbc e (List.mem_of_mem_eraseIdx hm')

/-- 'len(m)'. -/
theorem MapAt.len (h : MapAt w b l) (ht : P.underlying t = some (.map ke ve)) (ty : TypeId) :
    (Builtin.len_ #[t] ty #[.map (some b)]).run P w = .ok (.int .i64 l.length) w := by
  obtain ⟨es, c, hb, he, hn, hbn, hbc⟩ := h
  have hlen : es.toList.length = l.length := by have := congrArg List.length he; simpa using this
  simp [Builtin.len_, run_underlying ht, MapKept.run_getObj_map hb, goInt, Result.andThen]
  rw [← Array.length_toList, hlen]

theorem MapAt.made (w : World) : MapAt (w.alloc (.map #[] 0)) w.heap.size [] :=
  ⟨#[], 0, (MapKept.heap_alloc w _).1, rfl, by simp [keys], by simp, by simp⟩

end
end Go.Proofs.Ytpmlmpibpmoclaa
