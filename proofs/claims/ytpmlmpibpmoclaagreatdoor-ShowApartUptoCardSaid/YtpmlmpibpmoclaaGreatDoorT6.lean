/-
  The program's own test that texts are unlike: a map in memory.
-/
import Derived.Test.YtpmlmpibpmoclaaGreatDoorT0
import Derived.ChangeMaps
import Derived.MapKept
import Derived.WalkSpells
import Derived.WalkLawsBesides
import Derived.Maps.OwnSet
import Derived.Maps.RangeWalk
namespace Go.Proofs.YtpmlmpibpmoclaaGreatDoor
set_option linter.all false
set_option maxRecDepth 20000
set_option maxHeartbeats 1000000
open Go.RowKit

/-- Block b is a map whose keys are the texts S. -/
def MapN (w : World) (b : Nat) (S : List Bs) : Prop :=
 ∃ es clock, w.heap[b]? = some (.map es clock) ∧ es.toList.map (fun e => e.key) = S.map fun s => .string (sv s)

theorem MapN.lt {w : World} {b : Nat} {S : List Bs} (h : MapN w b S) : b < w.heap.size := by
 obtain ⟨es, c, hb, _⟩ := h
 exact (Array.getElem?_eq_some_iff.1 hb).1
theorem MapN.keepF {w w' : World} {b : Nat} {S : List Bs} (h : MapN w b S) (hx : Fx w w') : MapN w' b S := by
 have hlt := h.lt
 obtain ⟨es, c, hb, r⟩ := h
 exact ⟨es, c, (hx.block b hlt id).trans hb, r⟩

theorem findNow_new (k : Bs) : ∀ (es : List MapEntry) (S : List Bs) (i : Nat), es.map (fun e => e.key) = S.map (fun s => Value.string (sv s)) → ¬ k ∈ S → Instr.findNow .string (.string (sv k)) es i = some none
 | [], S, i, h, _ => rfl
 | e :: es, [], i, h, _ => by simp at h
 | e :: es, p :: S, i, h, hn => by
  simp only [mC, List.cons.injEq] at h
  simp only [List.mem_cons, not_or] at hn
  simp only [Instr.findNow, h.1, Instr.sameNow]
  have hb : (sv k == sv p) = false := by
   cases h : (sv k == sv p)
   ·rfl
   ·exact absurd (sv_inj ((MapKept.bytes_beq _ _).1 h)) hn.1
  rw [hb]
  exact findNow_new k es S (i + 1) h.2 hn.2

section
variable {P : Program} {t : TypeId} {ke ve : TypeId} {w : World} {b : Nat} {S : List Bs}

theorem run_check_str (hk : P.underlying ke = some .string) (e : Bool) (k : ByteArray) (w : World) : (Instr.checkKey e 10000 ke (.string k)).run P w = .ok () w := by
 have h : ∀ n, (Instr.checkKey e (n + 1) ke (.string k)).run P w = .ok () w := fun n => by
  simp [Instr.checkKey, run_underlying hk, Result.andThen]
 exact h 9999
theorem run_findKey_str (hk : P.underlying ke = some .string) (k : ByteArray) (es : List MapEntry) (r : Option (Nat × Value)) (w : World) (h : Instr.findNow .string (.string k) es 0 = some r) :
  (Instr.findKey ke (.string k) es).run P w = .ok r w := by
 simp [Instr.findKey, run_underlying hk, h]

theorem MapN.look (h : MapN w b S) (ht : P.underlying t = some (.map ke ve)) (hk : P.underlying ke = some .string) (hz : (zeroValue ve).run P w = .ok (.int .i64 0) w) (k : Bs) (hn : ¬ k ∈ S) :
  (Instr.lookup t (.map (some b)) (.string (sv k)) false).run P w = .ok (.int .i64 0) w := by
 obtain ⟨es, c, hb, he⟩ := h
 have hf := run_findKey_str (P := P) hk (sv k) es.toList none w (findNow_new k es.toList S 0 he hn)
 simp [Instr.lookup, run_underlying ht, MapKept.run_getObj_map hb, run_check_str hk, hf, hz, Result.andThen]

theorem MapN.put (h : MapN w b S) (ht : P.underlying t = some (.map ke ve)) (hk : P.underlying ke = some .string) (k : Bs) (hn : ¬ k ∈ S) (v : Value) :
  ∃ w', (Instr.mapUpdate t (.map (some b)) (.string (sv k)) v).run P w = .ok () w' ∧ MapN w' b (S ++ [k]) ∧ Ext (fun i => i = b) w w' := by
 obtain ⟨es, c, hb, he⟩ := h
 have hf := run_findKey_str (P := P) hk (sv k) es.toList none w (findNow_new k es.toList S 0 he hn)
 refine ⟨Go.ChangeMaps.setBlock w b (.map (es.push { key := .string (sv k), val := v, born := c }) (c + 1)), ?_, ⟨_, _, Go.ChangeMaps.heap_setBlock_same hb _, by simp [he]⟩, ⟨rfl, rfl, rfl, by simp [Go.ChangeMaps.setBlock], fun k hk hn => by
  simp only [Go.ChangeMaps.setBlock]
  rw [Array.getElem?_setIfInBounds_ne (fun e => hn e.symm)]⟩⟩
 simp [Instr.mapUpdate, run_underlying ht, MapKept.run_getObj_map hb, run_check_str hk, hf, Result.andThen, MapKept.run_setObj_map _ hb, Go.ChangeMaps.setBlock]

theorem MapN.len (h : MapN w b S) (ht : P.underlying t = some (.map ke ve)) (ty : TypeId) :
  (Builtin.len_ #[t] ty #[.map (some b)]).run P w = .ok (.int .i64 S.length) w := by
 obtain ⟨es, c, hb, he⟩ := h
 have hlen : es.toList.length = S.length := by have := congrArg List.length he; simpa using this
 simp [Builtin.len_, run_underlying ht, MapKept.run_getObj_map hb, goInt, Result.andThen]
 rw [← Array.length_toList, hlen]

theorem MapN.made (w : World) : MapN (w.alloc (.map #[] 0)) w.heap.size [] := ⟨#[], 0, (MapKept.heap_alloc w _).1, rfl⟩
end

theorem new_text {l : List Tr} {j : Nat} (hj : j < l.length) (hn : (l.map Tr.t).Nodup) : ¬ l[j].t ∈ (l.take j).map Tr.t := by
 intro h
 obtain ⟨y, hy, e⟩ := List.mem_map.1 h
 obtain ⟨i, hi, rfl⟩ := List.mem_iff_getElem.1 hy
 simp only [List.length_take] at hi
 rw [List.getElem_take] at e
 unfold List.Nodup at hn
 rw [List.pairwise_iff_getElem] at hn
 have := hn i j (by simp; omega) (by simpa using hj) (by omega)
 simp at this
 exact this e

theorem unlike_t (l : List Tr) (hn : (l.map Tr.t).Nodup) (B : Nat) (v : Value) (w : World) (h : KidsAt B w v l) : Calls Tryz.prog 121 #[v] w (Ans true w) := by
 obtain ⟨p, c, rfl, hcp, hkid⟩ := h.kid
 have K := hid hkid
 have hll := hid hcp.2
 have HN := hid hn
 clear h hkid hcp hn
 have hmm := @run_makeMap Tryz.prog
 go_enter Tryz.func121, Tryz.ntmps121
 go_wp2
 go_loopw [9] (fun i wr => ∃ j : Nat, j ≤ l.length ∧ i = .int .i64 j ∧ Hid (MapN wr w.heap.size ((l.take j).map Tr.t)) ∧ Fx w wr) (fun i _ => l.length - (intOf i).toNat)
 case atStart => exact ⟨0, Nat.zero_le _, rfl, hid (by simpa using MapN.made w), Ext.alloc _ _ _⟩
 case round =>
  obtain ⟨j, hj, rfl, hm, xx⟩ := hrel
  have hj4 : (j : Int) ≤ 4398046511104 := by have := hll.out; omega
  by_cases hlt : j < l.length
  ·obtain ⟨g, o, s, rfl, hgB, e0, e1, e2, e3, hy⟩ := K.out j hlt
   have hnew := hid (new_text hlt HN.out)
   have htk := hid (show ((l.take (j + 1)).map Tr.t) = (l.take j).map Tr.t ++ [l[j].t] by rw [List.take_succ_eq_append_getElem hlt, List.map_append]; rfl)
   generalize l[j] = y at *
   obtain ⟨sl', hs', hks', _⟩ := id hy.open
   obtain rfl : s = sl' := by simpa [nv] using hs'
   clear hs'
   obtain ⟨p', c', rfl, _⟩ := hks'.kid
   clear hks' hy
   replace ⟨e0, e1, e2, e3⟩ := F4 xx e0 e1 e2 e3
   have xa : Fx wr (wr.alloc (.cells #[.int .i64 y.k, .string (sv y.t), .int .i64 y.n, .slice p' y.l.length c'] 24)) := Ext.alloc _ _ _
   obtain ⟨d0, d1, d2, d3⟩ := nd_cells wr y.k y.n (sv y.t) (.slice p' y.l.length c')
   replace hm := hid (hm.out.keepF xa)
   have hlook := hm.out.look (P := Tryz.prog) Tryz.underlying138 Tryz.underlying9 (Tryz.zeroValue3 _) y.t hnew.out
   obtain ⟨w1, hrun, hm1, hx1⟩ := hm.out.put (P := Tryz.prog) Tryz.underlying138 Tryz.underlying9 y.t hnew.out (.int .i64 1)
   go_wp2
   go_roundw
   case rel => exact ⟨j + 1, by omega, by go_num, hid (by rw [htk.out]; exact hm1), (xx.of_eq xa).trans (hx1.mono fun k _ hk => .inr (by subst hk; exact Nat.le_refl _))⟩
   case measure => simp [intOf]; omega
  ·have hlen := hm.out.len (P := Tryz.prog) Tryz.underlying138
   rw [List.take_of_length_le (by omega), List.length_map] at hlen
   go_wp2
   go_ret
   exact .mk (by simp) xx

end Go.Proofs.YtpmlmpibpmoclaaGreatDoor
