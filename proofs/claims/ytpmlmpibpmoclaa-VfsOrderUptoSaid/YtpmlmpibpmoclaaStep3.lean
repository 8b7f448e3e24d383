/-
  One call on both, the last kinds: Load, and Read (all other numbers).
-/
import Derived.Test.YtpmlmpibpmoclaaStep2
namespace Go.Proofs.Ytpmlmpibpmoclaa
open Go.RowKit

set_option maxHeartbeats 4000000 in
theorem step_read (tb mb rb : Nat) (S : List Fl) (k n : Int) (p b : ByteArray) (fv : Value) (w : World) (h : Both w tb mb rb S) (_hlen : S.length ≤ 4398046511104)
    (k0 : (k == 0) = false) (k4 : (k == 4) = false) (k1 : (k == 1) = false) (k3 : (k == 3) = false) :
    Calls Try.prog 9 #[.pointer (some ⟨tb, 0, none⟩), .pointer (some ⟨rb, 0, none⟩), .agg #[.int .i64 k, .int .i64 n, .string p, .string b, fv]] w fun e w' =>
      e = .returned (.bool true) ∧ Both w' tb mb rb S ∧ Ext (fun i => (i = mb) ∨ i = rb) w w' := by
  have hxa : Ext (fun _ => False) w (w.alloc (.cells #[.int .i64 k, .int .i64 n, .string p, .string b, fv] 31)) := Ext.alloc _ _ _
  have ta := h.t.keep hxa id id
  have ra := h.r.keep hxa id (fun _ h => h.elim)
  have d2 := cell_alloc w #[.int .i64 k, .int .i64 n, .string p, .string b, fv] 31 2 (.string p) rfl
  go_enter Try.func9, Try.ntmps9
  go_wp2_with (first
    | (go_at_call 20; refine (read_any tb mb S p _ ta).mono ?_; rintro e w' ⟨rfl, rfl⟩)
    | (go_at_call 24; refine (refread_any rb S p _ ra h.t.rising (by omega)).mono ?_; rintro e w1 ⟨rfl, x1⟩; have q2 := x1.cellF d2; have t1 := ta.keep x1 id id)
    | (go_at_call 18; refine (has_any tb mb S p _ t1).mono ?_; rintro e w' ⟨rfl, rfl⟩))
  all_goals
    go_ret
    exact ⟨rfl, ⟨t1, ra.keep x1 id (fun _ h => h.elim)⟩, (hxa.of_eq x1).F⟩

/-- A slice that the call owns: its shape, and its block. -/
theorem own_shape {w : World} {base : Nat} {p : Option Addr} {n c : Nat} {S : List Fl} (h : w.ownsRow base 44 2 (.slice p n c) S.length (cellsOf S)) :
    n = S.length ∧ ∀ k, k < n → ∃ g, p = some ⟨g, 0, none⟩ ∧ base ≤ g ∧ ∃ cur, w.heap[g]? = some (.cells cur 44 (0, 0)) ∧ n * 2 ≤ cur.size := by
  rcases h.2 with ⟨hv, hn⟩ | ⟨g, cap, cur, hv, hg, hb, hc, _, hs, _⟩
  · simp at hv
    obtain ⟨rfl, rfl, rfl⟩ := hv
    exact ⟨hn.symm, fun k hk => by omega⟩
  · simp at hv
    obtain ⟨rfl, rfl, rfl⟩ := hv
    exact ⟨rfl, fun k _ => ⟨g, rfl, hg, cur, hb, by rw [hs]; omega⟩⟩

set_option maxHeartbeats 8000000 in
theorem step_load (tb mb rb : Nat) (S : List Fl) (n : Int) (p b : ByteArray) (fv : Value) (F : List Fl) (w : World) (h : Both w tb mb rb S) (_hlen : S.length ≤ 4398046511104)
    (hf0 : Sl (fun g => g < w.heap.size) w fv F) (hF : F.length ≤ 4398046511104) (hw : ∀ p ∈ F, p.2.size ≤ 9223372036854775807) :
    Calls Try.prog 9 #[.pointer (some ⟨tb, 0, none⟩), .pointer (some ⟨rb, 0, none⟩), .agg #[.int .i64 3, .int .i64 n, .string p, .string b, fv]] w fun e w' =>
      e = .returned (.bool true) ∧ ∃ mb', Both w' tb mb' rb (ld S F) ∧ (mb' = mb ∨ w.heap.size ≤ mb') ∧ Ext (fun i => (i = tb) ∨ i = rb) w w' := by
  have hxa : Ext (fun _ => False) w (w.alloc (.cells #[.int .i64 3, .int .i64 n, .string p, .string b, fv] 31)) := Ext.alloc _ _ _
  have ta := h.t.keep hxa id id
  have ra := h.r.keep hxa id (fun _ h => h.elim)
  have fa := hf0.keep hxa (fun _ _ _ h => h)
  have n1 := h.ne1
  have htb := h.t.lt
  have hmb := h.t.mlt
  have hrb := h.r.lt
  have hsz : (w.alloc (.cells #[.int .i64 3, .int .i64 n, .string p, .string b, fv] 31)).heap.size = w.heap.size + 1 := by simp
  have d4 := cell_alloc w #[.int .i64 3, .int .i64 n, .string p, .string b, fv] 31 4 fv rfl
  obtain ⟨ii, hi, hz0, hz1, hz2⟩ := info_parts Try.info44
  have hA : ([] : List Fl).length + F.length ≤ 4398046511104 := by simp; omega
  go_enter Try.func9, Try.ntmps9
  go_wp2_with (first
    | (at_builtin; refine wpList_append_sl rfl (.tmp 62) (.tmp 64) 26 rfl (w.heap.size + 1) 44 ii _ Try.underlying26 hi hz0 hz1 hz2 rfl _ [] _ F rfl rfl (own_nil _ _) fa hA (by rw [hsz]; exact Nat.le_refl _) ?_; intro p1 q1 c1 w1 hd1 hx1; have d41 := hx1.cellB (by simp) d4; have t1 := ta.keep hx1 (by omega) (by omega); have r1 := ra.keep hx1 (by omega) (fun g hg => dull_new (by rw [hsz]; exact hg)); have f1 := fa.keep hx1 (fun g hg _ => by omega); have l1 := Sl.ofOwn hd1)
    | (go_at_call 16; refine (load_both tb mb S _ F _ _ t1 l1 (by omega) hw).mono ?_; rintro e w2 ⟨rfl, mb', t2, hmb', x2⟩; have d42 := x2.cellX (by simp; omega) d41; have l2 := l1.keep x2 (fun g hg _ => by omega); have f2 := f1.keepDull x2 (fun g hg => by subst hg; exact t1.dullT); have r2 := r1.keep x2 (fun h => n1 h.symm) (fun g hg => by subst hg; exact t1.dullT))
    | (go_at_call 11; refine (same_any _ _ F F _ _ _ l2 f2 (by omega) (by omega)).mono ?_; rintro e w3 ⟨rfl, x3⟩; have d43 := x3.cellF d42))
  simp only [List.nil_append] at hd1 l1 l2
  obtain ⟨hq, hshape⟩ := own_shape hd1
  have hsame : sameF F F = true := decide_eq_true rfl
  rw [hsame]
  clear hsame
  have t3 := t2.keep x3 id id
  have hx13 := x2.of_eq x3
  have hsh : ∀ k, k < q1 → ∃ g, p1 = some ⟨g, 0, none⟩ ∧ w.heap.size + 1 ≤ g ∧ (g = mb' → False) ∧ ∃ cur, w3.heap[g]? = some (.cells cur 44 (0, 0)) ∧ q1 * 2 ≤ cur.size := by
    intro k hk
    obtain ⟨g, hp, hg, cur, hc, hs⟩ := hshape k hk
    have hgl := (Array.getElem?_eq_some_iff.1 hc).1
    refine ⟨g, hp, hg, ?_, cur, (hx13.block g hgl (by omega)).trans hc, hs⟩
    rintro rfl
    rcases hmb' with h | h <;> omega
  have hB : w.heap.size + 1 ≤ w1.heap.size := by have := hx1.size; rw [hsz] at this; exact this
  have hw3 : Ext (fun i => i = tb) w w3 := by
    have e1 : Ext (fun i => i = tb) w w1 := (hxa.F (X := fun i => i = tb)).trans (hx1.mono fun k _ h => .inr (by omega))
    exact e1.trans (hx13.mono fun _ _ h => .inl h)
  have hmb3 : mb' = mb ∨ w.heap.size + 1 ≤ mb' := hmb'.imp id (fun h => by omega)
  clear hd1 hx1 d41 t1 r1 f1 l1 t2 x2 d42 l2 f2 r2 x3 hshape hx13 hmb' hi hz0 hz1 hz2 hA fa d4
  have hq1 : q1 ≤ 4398046511104 := by omega
  go_loopw [10] (fun i wr => ∃ k : Nat, k ≤ q1 ∧ i = .int .i64 k ∧ Ext (fun g => w.heap.size + 1 ≤ g ∧ g ≠ mb') w3 wr ∧ (∀ k, k < q1 → ∃ g, p1 = some ⟨g, 0, none⟩ ∧ w.heap.size + 1 ≤ g ∧ (g = mb' → False) ∧ ∃ cur, wr.heap[g]? = some (.cells cur 44 (0, 0)) ∧ q1 * 2 ≤ cur.size)) (fun i _ => q1 - (intOf i).toNat)
  case atStart => exact ⟨0, Nat.zero_le _, rfl, Ext.refl _ _, hsh⟩
  case round =>
    obtain ⟨k, hk, rfl, hx, hs⟩ := hrel
    clear hsh
    by_cases hlt : k < q1
    · obtain ⟨g, rfl, hg, hgm, cur, hc, hcs⟩ := hs k hlt
      have hlt' : (k : Int) < (q1 : Int) := by omega
      obtain ⟨vv, hvv⟩ : ∃ vv, wr.cell? ⟨g, k * 2 + 1, none⟩ = some vv := by
        simp only [World.cell?, hc]
        exact ⟨cur[k * 2 + 1], by simp⟩
      have hfz : wr.frozen? ⟨g, k * 2 + 1, none⟩ = false := by simp [World.frozen?, hc]
      clear hs
      go_wp2
      go_roundw
      case rel =>
        refine ⟨k + 1, by omega, by go_num, hx.trans ((Ext.setCell wr ⟨g, k * 2 + 1, none⟩ _ (X := fun i => i = g) fun _ => rfl).mono fun i _ h => .inl (by subst h; exact ⟨hg, hgm⟩)), fun j hj => ?_⟩
        refine ⟨g, rfl, hg, hgm, cur.setIfInBounds (k * 2 + 1) (.string { data := #[115, 112, 111, 105, 108, 116] }), ?_, by simpa using hcs⟩
        simp only [World.setCell, Array.getElem?_modify, if_pos, hc]
        simp
      case measure => simp [intOf]; omega
    · have hge : ¬ (k : Int) < (q1 : Int) := by omega
      have hd5 := hx.cellX (fun h => Nat.not_succ_le_self _ h.1) d43
      have hxw : Ext (fun i => i = tb) w wr := hw3.trans (hx.mono fun i _ h => .inr (by omega))
      have r5 := h.r.keep hxw (fun e => n1 e.symm) (fun g hg => by subst hg; exact h.t.dullT)
      have t5 := t3.keep hx (by omega) (by simp)
      have f5 := hf0.keepDull hxw (fun g hg => by subst hg; exact h.t.dullT)
      have hmr : mb' ≠ rb := by
        rcases hmb3 with e | e
        · rw [e]; exact h.ne2
        · omega
      clear hs
      go_wp2_with (go_at_call 17; refine (refload_any rb S fv F _ _ r5 f5 hF hw).mono ?_; rintro e w6 ⟨rfl, r6, x6⟩)
      go_ret
      exact ⟨by simp, mb', ⟨t5.keep x6 n1 hmr, r6⟩, hmb3.imp id (fun h => by omega), hxw.of2 x6⟩

end Go.Proofs.Ytpmlmpibpmoclaa
