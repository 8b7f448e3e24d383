/-
  One call on both: the answers are the same, and both hold the same files again.
-/
import Derived.Test.YtpmlmpibpmoclaaWr
import Derived.Deep.RegionHeld3
namespace Go.Proofs.Ytpmlmpibpmoclaa
open Go.RowKit

theorem Ext.of2 {X Y : Nat → Prop} {a b c : World} (h : Ext X a b) (k : Ext Y b c) : Ext (fun i => X i ∨ Y i) a c :=
  (h.mono fun _ _ hx => .inl hx).trans (k.mono fun _ _ hx => .inl (.inr hx))

/-- The cells of a new block. -/
theorem cell_alloc (w : World) (cs : Array Value) (t : TypeId) (i : Nat) (v : Value) (h : cs[i]? = some v) : (w.alloc (.cells cs t)).cell? ⟨w.heap.size, i, none⟩ = some v := by
  have hb := (MapKept.heap_alloc w (.cells cs t)).1
  simp only [World.cell?, hb]; simpa using h

set_option maxHeartbeats 4000000 in
theorem step_write (tb mb rb : Nat) (S : List Fl) (n : Int) (p b : ByteArray) (fv : Value) (w : World) (h : Both w tb mb rb S) (hlen : S.length + 1 ≤ 4398046511104) (hb : b.size ≤ 9223372036854775807) :
    Calls Try.prog 9 #[.pointer (some ⟨tb, 0, none⟩), .pointer (some ⟨rb, 0, none⟩), .agg #[.int .i64 0, .int .i64 n, .string p, .string b, fv]] w fun e w' =>
      e = .returned (.bool true) ∧ Both w' tb mb rb (wr S p b) ∧ Ext (fun i => (i = mb) ∨ i = rb) w w' := by
  have hxa : Ext (fun _ => False) w (w.alloc (.cells #[.int .i64 0, .int .i64 n, .string p, .string b, fv] 31)) := Ext.alloc _ _ _
  have ta := h.t.keep hxa id id
  have ra := h.r.keep hxa id (fun _ h => h.elim)
  have n1 := h.ne1
  have n2 := h.ne2
  have hmb := h.t.mlt
  have hrb := h.r.lt
  have d2 := cell_alloc w #[.int .i64 0, .int .i64 n, .string p, .string b, fv] 31 2 _ rfl
  have d3 := cell_alloc w #[.int .i64 0, .int .i64 n, .string p, .string b, fv] 31 3 _ rfl
  have nb1 : w.heap.size ≠ mb := by omega
  have nb2 : w.heap.size ≠ rb := by omega
  go_enter Try.func9, Try.ntmps9
  go_wp2
  generalize w.alloc (.cells #[.int .i64 0, .int .i64 n, .string p, .string b, fv] 31) = wa at *
  generalize w.heap.size = bo at *
  go_region_held3 (fun w' => w'.cell? ⟨bo, 2, none⟩ = some (.string p) ∧ w'.cell? ⟨bo, 3, none⟩ = some (.string b)) (first | exact ⟨q4, q5⟩ | exact ⟨q2, q3⟩ | exact ⟨d2, d3⟩)
    (first
      | (go_at_call 14; refine (write_any tb mb S p b _ (ta.keep (Ext.drew (fun _ => False) _) id id) hb).mono ?_; rintro e w1 ⟨rfl, t1, x1⟩; have q2 := x1.cellX nb1 d2; have q3 := x1.cellX nb1 d3; have r1 := ra.keep (Ext.drew (fun i => i = mb) _ |>.trans (x1.mono fun _ _ h => .inl h)) (fun h => n2 h.symm) (fun g hg => by subst hg; exact ta.dullM))
      | (go_at_call 15; refine (refwrite_any rb S p b _ r1 h.t.rising hlen hb).mono ?_; rintro e w2 ⟨rfl, r2, x2⟩; have q4 := x2.cellX nb2 q2; have q5 := x2.cellX nb2 q3))
  all_goals
    go_wp2
    go_ret
    exact ⟨rfl, ⟨t1.keep x2 n1 n2, r2⟩, (hxa.of_eq (Ext.drew _ _)).F.trans ((x1.of2 x2).mono fun _ _ h => .inl h)⟩

end Go.Proofs.Ytpmlmpibpmoclaa
