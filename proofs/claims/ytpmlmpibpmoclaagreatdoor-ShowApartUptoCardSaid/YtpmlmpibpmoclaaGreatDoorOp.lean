/-
  What comes in, opened: trees.
-/
import Derived.Test.YtpmlmpibpmoclaaGreatDoorPb
import Derived.Test.YtpmlmpibpmoclaaGreatDoorBase
import Derived.Test.YtpmlmpibpmoclaaGreatDoorRows
import Derived.ProofKit
import Derived.Deep.Slices
import Derived.SizedLaws
import Derived.OpenShut
import Derived.JoinedCond
import Derived.Carry
namespace Go.Proofs.YtpmlmpibpmoclaaGreatDoor
set_option linter.all false
set_option maxRecDepth 8000
open Go.ChangeShapes Go.WideShapes Go.ChangeAt Go.RowKit
open Go.ChangeMaps (open_string shut_string)

theorem cells24 : Tryz.prog.cellsOf 24 = 4 := by kernel_rfl
theorem cells3 : Tryz.prog.cellsOf 3 = 1 := by kernel_rfl
theorem cells9 : Tryz.prog.cellsOf 9 = 1 := by kernel_rfl
theorem cells22 : Tryz.prog.cellsOf 22 = 1 := by kernel_rfl

theorem i64_wf {k : Int} (h : (Lit.int .i64 k).wf = true) : -9223372036854775808 ≤ k ∧ k ≤ 9223372036854775807 := by
 have e : IntKind.i64.min = -9223372036854775808 := by rfl
 simp [Lit.wf] at h
 omega

section
variable {H : Type} {enc : TypeId × Value → H} {W : World}

theorem add_off (a : Addr) (i : Nat) (h : a.spot = none) : a.add i = ⟨a.block, a.off + i, none⟩ := by
 unfold Addr.add
 split
 ·rename_i h0; subst h0; cases a; simp at h; simp [h]
 ·rfl
theorem spot_none {a : Addr} {v : Value} (h : W.cell? a = some v) : a.spot = none := by
 unfold World.cell? at h
 split at h
 ·split at h
  ·cases h
  ·rename_i hs; simpa using hs
 ·cases h
theorem bulk_pos (d : DataW H) : 1 ≤ Rows.uptoBulk d := by
 cases d with
 | lit l => cases l <;> simp [Rows.uptoBulk]
 | _ => simp [Rows.uptoBulk]
theorem bulkAll_append (a b : List (DataW H)) : Rows.uptoBulkAll (a ++ b) = Rows.uptoBulkAll a + Rows.uptoBulkAll b := by
 induction a with
 | nil => simp [Rows.uptoBulkAll]
 | cons d r ih => simp only [List.cons_append, Rows.uptoBulkAll, ih]; omega
theorem bulkAll_len (ds : List (DataW H)) : ds.length ≤ Rows.uptoBulkAll ds := by
 induction ds with
 | nil => simp [Rows.uptoBulkAll]
 | cons d r ih => have := bulk_pos d; simp only [Rows.uptoBulkAll, lC]; omega
theorem bulkAll_mem {d : DataW H} {ds : List (DataW H)} (h : d ∈ ds) : Rows.uptoBulk d ≤ Rows.uptoBulkAll ds := by
 induction ds with
 | nil => cases h
 | cons x r ih =>
  simp only [Rows.uptoBulkAll]
  rcases List.mem_cons.1 h with rfl | h
  ·omega
  ·have := ih h; omega
theorem wts_bulk (f : Nat → Tr) (D : Nat → DataW H) (n : Nat) (h : ∀ i, i < n → wt (f i) ≤ Rows.uptoBulk (D i)) : wts ((List.range n).map f) ≤ Rows.uptoBulkAll ((List.range n).map D) := by
 induction n with
 | zero => simp [wts, Rows.uptoBulkAll]
 | succ n ih =>
  have h1 := ih fun i hi => h i (by omega)
  have h2 := h n (by omega)
  rw [List.range_succ, List.map_append, List.map_append, wts_append, bulkAll_append]
  simp only [mC, mN, wts, Rows.uptoBulkAll]
  omega

/-- A tree's four cells. -/
theorem open_nd (N : Nat) (hN : N ≤ 4398046511104) : ∀ (fuel : Nat) (cs : List Value) (x : DataW H × List MemPlace), DataW.trod enc Tryz.prog W 0 (fun _ => true) true fuel 24 cs = some x → Rows.uptoBulk x.1 ≤ N →
  ∃ (y : Tr) (sl : Value), cs = [.int .i64 y.k, .string (sv y.t), .int .i64 y.n, sl] ∧ NodeAt W.heap.size W (nv y sl) y ∧ wt y ≤ Rows.uptoBulk x.1 := by
 induction N with
 | zero => intro _ _ x _ h; have := bulk_pos x.1; omega
 | succ N ih =>
  intro fuel cs x h hb
  replace ih := ih (by omega)
  obtain ⟨xs, n, rfl, rfl, hl, hlen, hf⟩ := DataW.trod_struct Tryz.underlying24 h
  rw [cells24] at hl
  match cs, hl, xs, hlen with
  | [c0, c1, c2, c3], _, [x0, x1, x2, x3], _ =>
   have f0 : DataW.trod enc Tryz.prog W 0 (fun _ => true) true n 3 (([c0, c1, c2, c3].drop 0).take (Tryz.prog.cellsOf 3)) = some x0 := hf 0 _ rfl
   have f1 : DataW.trod enc Tryz.prog W 0 (fun _ => true) true n 9 (([c0, c1, c2, c3].drop 1).take (Tryz.prog.cellsOf 9)) = some x1 := hf 1 _ rfl
   have f2 : DataW.trod enc Tryz.prog W 0 (fun _ => true) true n 3 (([c0, c1, c2, c3].drop 2).take (Tryz.prog.cellsOf 3)) = some x2 := hf 2 _ rfl
   have f3 : DataW.trod enc Tryz.prog W 0 (fun _ => true) true n 22 (([c0, c1, c2, c3].drop 3).take (Tryz.prog.cellsOf 22)) = some x3 := hf 3 _ rfl
   rw [cells3] at f0 f2
   rw [cells9] at f1
   rw [cells22] at f3
   obtain ⟨k, e0, rfl, wk⟩ := DataW.trod_int Tryz.underlying3 f0
   obtain ⟨s, e1, rfl, _⟩ := DataW.trod_string Tryz.underlying9 f1
   obtain ⟨m, e2, rfl, wm⟩ := DataW.trod_int Tryz.underlying3 f2
   simp only [List.drop_zero, List.drop_succ_cons, List.take_succ_cons, List.take_zero, List.cons.injEq, and_true] at e0 e1 e2 f3
   subst e0 e1 e2
   have hk : -9223372036854775808 ≤ k ∧ k ≤ 9223372036854775807 := i64_wf wk
   have hm : -9223372036854775808 ≤ m ∧ m ≤ 9223372036854775807 := i64_wf wm
   simp only [mC, mN, Rows.uptoBulk, Rows.uptoBulkAll] at hb ⊢
   have hs : s.data.toList.length ≤ 4398046511104 := by omega
   rcases Deep.open_slice Tryz.underlying22 f3 with ⟨h3, rfl⟩ | ⟨a, len, cap, mm, n', D, Pl, h3, _, hle, hcm, hmm, rfl, hx⟩
   ·simp only [List.cons.injEq, and_true] at h3
    subst h3
    refine ⟨.mk k s.data.toList m [], .slice none 0 0, by rw [Tr.k, Tr.t, Tr.n, sv_of], ?_, ?_⟩
    ·exact .mk k _ m [] none 0 (fun _ => .bool false) hk hm hs ⟨Nat.le_refl _, by simp⟩ (fun i h => by simp at h) (fun i h => by simp at h)
    ·simp only [wt, wts, Rows.uptoBulk]; omega
   ·simp only [List.cons.injEq, and_true] at h3
    subst h3
    simp only [if_true] at hmm
    subst hmm
    simp only [Rows.uptoBulk] at hb ⊢
    rw [cells24] at hx
    have hll := bulkAll_len ((List.range len).map D)
    rw [List.length_map, List.length_range] at hll
    have key : ∀ i, i < len → ∃ q : Tr × Value, (∀ j c, [Value.int .i64 q.1.k, .string (sv q.1.t), .int .i64 q.1.n, q.2][j]? = some c → W.cell? ((a.add (i * 4)).add j) = some c) ∧ NodeAt W.heap.size W (nv q.1 q.2) q.1 ∧ wt q.1 ≤ Rows.uptoBulk (D i) := fun i hi => by
     obtain ⟨cs', h1, h2⟩ := hx i (by omega)
     have hbi := bulkAll_mem (d := D i) (ds := (List.range len).map D) (List.mem_map.2 ⟨i, List.mem_range.2 hi, rfl⟩)
     obtain ⟨y, sl, rfl, r⟩ := ih _ _ _ h2 (show Rows.uptoBulk (D i) ≤ N by omega)
     obtain ⟨_, _, hcc⟩ := World.cells?_some h1
     refine ⟨⟨y, sl⟩, fun j c hj => ?_, r⟩
     have hj4 : j < 4 := by have := (List.getElem?_eq_some_iff.1 hj).1; simpa using this
     rw [hcc j hj4]; exact hj
    have hin : Inhabited (Tr × Value) := ⟨⟨.mk 0 [] 0 [], .bool false⟩⟩
    obtain ⟨f, hf'⟩ := Deep.choose_lt (α := Tr × Value) (h := key)
    refine ⟨.mk k s.data.toList m ((List.range len).map fun i => (f i).1), .slice (some a) len mm, by rw [Tr.k, Tr.t, Tr.n, sv_of], ?_, ?_⟩
    ·have hll2 : ((List.range len).map fun i => (f i).1).length = len := by simp
     have e : Value.slice (some a) len mm = .slice (some a) ((List.range len).map fun i => (f i).1).length mm := by rw [hll2]
     unfold nv
     simp only [Tr.k, Tr.t, Tr.n]
     rw [e]
     refine .mk k _ m _ (some a) mm (fun i => (f i).2) hk hm hs ⟨by rw [hll2]; exact hle, by rw [hll2]; omega⟩ (fun i hi => ?_) (fun i hi => ?_)
     ·have hi' : i < len := by simpa using hi
      obtain ⟨hcell, hnd, _⟩ := hf' i hi'
      have hs0 : a.spot = none := by
       have := (hf' 0 (by omega)).1 0 _ rfl
       exact spot_none (by simpa [Addr.add] using this)
      have e : ∀ j, (a.add (i * 4)).add j = ⟨a.block, a.off + i * 4 + j, none⟩ := fun j => by
       rw [add_off _ _ hs0, add_off _ _ rfl]
      simp only [List.getElem_map, List.getElem_range]
      have w0 := hcell 0 _ rfl
      rw [e] at w0
      have hw := cell_lt w0
      refine ⟨a.block, a.off, by cases a; simp at hs0; simp [hs0], hw, w0, ?_, ?_, ?_⟩
      ·have := hcell 1 _ rfl; rwa [e] at this
      ·have := hcell 2 _ rfl; rwa [e] at this
      ·have := hcell 3 _ rfl; rwa [e] at this
     ·have hi' : i < len := by simpa using hi
      simp only [List.getElem_map, List.getElem_range]
      exact (hf' i hi').2.1
    ·have := wts_bulk (fun i => (f i).1) D len fun i hi => (hf' i hi).2.2
     simp only [wt]
     omega
end

end Go.Proofs.YtpmlmpibpmoclaaGreatDoor
