/-
  One call on both, the other kinds: a long Write, Remove, Read.
-/
import Derived.Test.YtpmlmpibpmoclaaStep
namespace Go.Proofs.Ytpmlmpibpmoclaa
open Go.RowKit

set_option maxHeartbeats 8000000 in
theorem step_long (tb mb rb : Nat) (S : List Fl) (n : Int) (p b : ByteArray) (fv : Value) (w : World) (h : Both w tb mb rb S) (hlen : S.length + 1 ≤ 4398046511104) :
    Calls Try.prog 9 #[.pointer (some ⟨tb, 0, none⟩), .pointer (some ⟨rb, 0, none⟩), .agg #[.int .i64 4, .int .i64 n, .string p, .string b, fv]] w fun e w' =>
      e = .returned (.bool true) ∧ Both w' tb mb rb (wr S p (zeros (longN n))) ∧ Ext (fun i => (i = mb) ∨ i = rb) w w' := by
  have hxa : Ext (fun _ => False) w (w.alloc (.cells #[.int .i64 4, .int .i64 n, .string p, .string b, fv] 31)) := Ext.alloc _ _ _
  have ta := h.t.keep hxa id id
  have ra := h.r.keep hxa id (fun _ h => h.elim)
  have n1 := h.ne1
  have n2 := h.ne2
  have hmb := h.t.mlt
  have hrb := h.r.lt
  have d1 := cell_alloc w #[.int .i64 4, .int .i64 n, .string p, .string b, fv] 31 1 _ rfl
  have d2 := cell_alloc w #[.int .i64 4, .int .i64 n, .string p, .string b, fv] 31 2 _ rfl
  have nb1 : w.heap.size ≠ mb := by omega
  have nb2 : w.heap.size ≠ rb := by omega
  have hb : (zeros (longN n)).size ≤ 9223372036854775807 := by rw [zeros_size]; have := longN_le n; omega
  go_enter Try.func9, Try.ntmps9
  go_wp2
  generalize w.alloc (.cells #[.int .i64 4, .int .i64 n, .string p, .string b, fv] 31) = wa at *
  generalize w.heap.size = bo at *
  go_region_held3 (fun w' => w'.cell? ⟨bo, 1, none⟩ = some (.int .i64 n) ∧ w'.cell? ⟨bo, 2, none⟩ = some (.string p)) (first | exact ⟨k1, k2⟩ | exact ⟨j1, j2⟩ | exact ⟨q1, q2⟩ | exact ⟨s1, s2⟩ | exact ⟨d1, d2⟩)
    (first
      | (go_at_call 22; have q1' := q1; refine (long_any n _).mono ?_; rintro e w3 ⟨rfl, x3⟩; have j1 := x3.cellF q1; have j2 := x3.cellF q2; have r3 := r2.keep x3 id (fun _ h => h.elim))
      | (go_at_call 22; refine (long_any n _).mono ?_; rintro e w1 ⟨rfl, x1⟩; have x1' := (Ext.drew (fun _ => False) wa).of_eq x1; have s1 := x1'.cellF d1; have s2 := x1'.cellF d2; have t1 := ta.keep x1' id id; have r1 := ra.keep x1' id (fun _ h => h.elim))
      | (go_at_call 14; refine (write_any tb mb S p _ _ t1 hb).mono ?_; rintro e w2 ⟨rfl, t2, x2⟩; have q1 := x2.cellX nb1 s1; have q2 := x2.cellX nb1 s2; have r2 := r1.keep x2 (fun h => n2 h.symm) (fun g hg => by subst hg; exact t1.dullM))
      | (go_at_call 15; refine (refwrite_any rb S p _ _ r3 h.t.rising hlen hb).mono ?_; rintro e w4 ⟨rfl, r4, x4⟩; have k1 := x4.cellX nb2 j1; have k2 := x4.cellX nb2 j2))
  all_goals
    go_wp2
    go_ret
    exact ⟨rfl, ⟨(t2.keep x3 id id).keep x4 n1 n2, r4⟩, (hxa.of_eq x1').F.trans (((x2.of_eq x3).of2 x4).mono fun _ _ h => .inl h)⟩

set_option maxHeartbeats 4000000 in
theorem step_remove (tb mb rb : Nat) (S : List Fl) (n : Int) (p b : ByteArray) (fv : Value) (w : World) (h : Both w tb mb rb S) (hlen : S.length ≤ 4398046511104) :
    Calls Try.prog 9 #[.pointer (some ⟨tb, 0, none⟩), .pointer (some ⟨rb, 0, none⟩), .agg #[.int .i64 1, .int .i64 n, .string p, .string b, fv]] w fun e w' =>
      e = .returned (.bool true) ∧ Both w' tb mb rb (del S p) ∧ Ext (fun i => (i = mb) ∨ i = rb) w w' := by
  have hxa : Ext (fun _ => False) w (w.alloc (.cells #[.int .i64 1, .int .i64 n, .string p, .string b, fv] 31)) := Ext.alloc _ _ _
  have ta := h.t.keep hxa id id
  have ra := h.r.keep hxa id (fun _ h => h.elim)
  have n1 := h.ne1
  have n2 := h.ne2
  have hmb := h.t.mlt
  have hrb := h.r.lt
  have d2 := cell_alloc w #[.int .i64 1, .int .i64 n, .string p, .string b, fv] 31 2 _ rfl
  have nb1 : w.heap.size ≠ mb := by omega
  have nb2 : w.heap.size ≠ rb := by omega
  go_enter Try.func9, Try.ntmps9
  go_wp2
  generalize w.alloc (.cells #[.int .i64 1, .int .i64 n, .string p, .string b, fv] 31) = wa at *
  generalize w.heap.size = bo at *
  go_region_held3 (fun w' => w'.cell? ⟨bo, 2, none⟩ = some (.string p)) (first | exact q4 | exact q2 | exact d2)
    (first
      | (go_at_call 19; refine (remove_any tb mb S p _ (ta.keep (Ext.drew (fun _ => False) _) id id)).mono ?_; rintro e w1 ⟨rfl, t1, x1⟩; have q2 := x1.cellX nb1 d2; have r1 := ra.keep (Ext.drew (fun i => i = mb) _ |>.trans (x1.mono fun _ _ h => .inl h)) (fun h => n2 h.symm) (fun g hg => by subst hg; exact ta.dullM))
      | (go_at_call 23; refine (refremove_any rb S p _ r1 h.t.rising hlen).mono ?_; rintro e w2 ⟨rfl, r2, x2⟩; have q4 := x2.cellX nb2 q2))
  all_goals
    go_wp2
    go_ret
    exact ⟨by simp, ⟨t1.keep x2 n1 n2, r2⟩, (hxa.of_eq (Ext.drew _ _)).F.trans ((x1.of2 x2).mono fun _ _ h => .inl h)⟩

end Go.Proofs.Ytpmlmpibpmoclaa
