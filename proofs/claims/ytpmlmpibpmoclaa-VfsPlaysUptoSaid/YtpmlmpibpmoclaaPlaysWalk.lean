/-
  The walk of the law VfsPlays.
-/
import Derived.Test.YtpmlmpibpmoclaaSure
namespace Go.Proofs.Ytpmlmpibpmoclaa
open Go.RowKit

theorem RT.made (w : World) : RT (w.alloc (.cells #[.slice none 0 0] 28)) w.heap.size [] :=
  ⟨_, (MapKept.heap_alloc w (.cells #[.slice none 0 0] 28)).1, .inl ⟨rfl, none, 0, rfl, fun _ => rfl⟩⟩

/-- One call of a script. -/
structure Cl where
  k : Int
  n : Int
  p : ByteArray
  b : ByteArray
  fv : Value
  F : List Fl

def Cl.val (o : Cl) : Value := .agg #[.int .i64 o.k, .int .i64 o.n, .string o.p, .string o.b, o.fv]

/-- One call on both, of whatever kind. -/
theorem step_any (tb mb rb : Nat) (S : List Fl) (o : Cl) (w : World) (B : Nat) (h : Both w tb mb rb S) (hlen : S.length ≤ B) (hB : B + 1 ≤ 4398046511104) (hb : o.b.size ≤ 9223372036854775807)
    (hf0 : Sl (fun g => g < w.heap.size) w o.fv o.F) (hF : o.F.length ≤ B) (hw : ∀ p ∈ o.F, p.2.size ≤ 9223372036854775807) :
    Calls Try.prog 9 #[.pointer (some ⟨tb, 0, none⟩), .pointer (some ⟨rb, 0, none⟩), .agg #[.int .i64 o.k, .int .i64 o.n, .string o.p, .string o.b, o.fv]] w fun e w' =>
      e = .returned (.bool true) ∧ ∃ mb' S', Both w' tb mb' rb S' ∧ S'.length ≤ B + 1 ∧ (mb' = mb ∨ w.heap.size ≤ mb') ∧ Ext (fun i => i = tb ∨ i = mb ∨ i = rb) w w' := by
  obtain ⟨k, n, p, b, fv, F⟩ := o
  simp only at *
  have hS := h.t.rising
  by_cases h0 : k = 0
  · subst h0
    exact (step_write tb mb rb S n p b fv w h (by omega) hb).mono fun e w' ⟨he, hb', hx⟩ => ⟨he, mb, _, hb', by have := wr_length hS p b; omega, .inl rfl, hx.mono fun _ _ h => .inr h⟩
  by_cases h4 : k = 4
  · subst h4
    exact (step_long tb mb rb S n p b fv w h (by omega)).mono fun e w' ⟨he, hb', hx⟩ => ⟨he, mb, _, hb', by have := wr_length hS p (zeros (longN n)); omega, .inl rfl, hx.mono fun _ _ h => .inr h⟩
  by_cases h1 : k = 1
  · subst h1
    exact (step_remove tb mb rb S n p b fv w h (by omega)).mono fun e w' ⟨he, hb', hx⟩ => ⟨he, mb, _, hb', by have := length_del_le S p; omega, .inl rfl, hx.mono fun _ _ h => .inr h⟩
  by_cases h3 : k = 3
  · subst h3
    exact (step_load tb mb rb S n p b fv F w h (by omega) hf0 (by omega) hw).mono fun e w' ⟨he, mb', hb', hm, hx⟩ => ⟨he, mb', _, hb', by unfold ld; split <;> omega, hm, hx.mono fun _ _ h => h.imp id .inr⟩
  · exact (step_read tb mb rb S k n p b fv w h (by omega) (by simpa using h0) (by simpa using h4) (by simpa using h1) (by simpa using h3)).mono fun e w' ⟨he, hb', hx⟩ => ⟨he, mb, _, hb', by omega, .inl rfl, hx.mono fun _ _ h => .inr h⟩

/-- The value x is the script R. -/
def Script (w : World) (x : Value) (R : List Cl) : Prop :=
  ∃ p0 c, x = .slice p0 R.length c ∧ ∀ i (h : i < R.length), ∃ g o, p0 = some ⟨g, o, none⟩ ∧ w.cell? ⟨g, o + i * 5, none⟩ = some (.int .i64 R[i].k) ∧ w.cell? ⟨g, o + i * 5 + 1, none⟩ = some (.int .i64 R[i].n) ∧
    w.cell? ⟨g, o + i * 5 + 2, none⟩ = some (.string R[i].p) ∧ w.cell? ⟨g, o + i * 5 + 3, none⟩ = some (.string R[i].b) ∧ w.cell? ⟨g, o + i * 5 + 4, none⟩ = some R[i].fv ∧
    R[i].b.size ≤ 9223372036854775807 ∧ Sl (fun g => g < w.heap.size) w R[i].fv R[i].F ∧ R[i].F.length ≤ 4194304 ∧ ∀ p ∈ R[i].F, p.2.size ≤ 9223372036854775807

set_option maxHeartbeats 16000000 in
theorem vfsPlays_walk (w : World) (x : Value) (R : List Cl) (hR : Script w x R) (hl : R.length ≤ 4194304) :
    Calls Try.prog 3 #[x] w fun e w' => e = .returned (.bool true) ∧ Ext (fun _ => False) w w' := by
  obtain ⟨p0, c, rfl, hc⟩ := hR
  go_enter Try.func3, Try.ntmps3
  go_wp2_with fail
  refine (new_ex _).mono ?_
  rintro e w1 ⟨tb, mb, rfl, t1, ht, hm, x1⟩
  go_wp2
  have y2 : Ext (fun _ => False) w1 (w1.alloc (.cells #[.slice none 0 0] 28)) := Ext.alloc _ _ _
  have r2 := RT.made w1
  have t2 := t1.keep y2 id id
  have xa := x1.of_eq y2
  have hrb : w.heap.size ≤ w1.heap.size := x1.size
  generalize w1.alloc (.cells #[.slice none 0 0] 28) = w2 at *
  have hb2 : Both w2 tb mb w1.heap.size [] := ⟨t2, r2⟩
  clear y2 t1 x1 t2 r2
  generalize w1.heap.size = rb at *
  go_loopw [5] (fun i wr => ∃ n : Nat, n ≤ R.length ∧ i = .int .i64 n ∧ ∃ mb' S, Both wr tb mb' rb S ∧ S.length ≤ 4194304 + n ∧ w.heap.size ≤ mb' ∧ Ext (fun _ => False) w wr) (fun i _ => R.length - (intOf i).toNat)
  case atStart => exact ⟨0, Nat.zero_le _, rfl, mb, [], hb2, by simp, hm, xa⟩
  case round =>
    obtain ⟨n, hn, rfl, mb1, S, hb, hS, hm1, hx⟩ := hrel
    clear hb2 xa
    by_cases hlt : n < R.length
    · obtain ⟨g, o, rfl, a0, a1, a2, a3, a4, hbs, hf, hF, hw⟩ := hc n hlt
      have hxd := hx.of_eq (Ext.drew _ wr)
      have c0 := hxd.cellF a0
      have c1 := hxd.cellF a1
      have c2 := hxd.cellF a2
      have c3 := hxd.cellF a3
      have c4 := hxd.cellF a4
      have fd := hf.keep hxd (fun _ _ _ h => h)
      have fd' : Sl (fun g => g < wr.drew.heap.size) wr.drew R[n].fv R[n].F := fd.mono fun g h1 _ => h1
      have bd : Both wr.drew tb mb1 rb S := ⟨hb.t.keep (Ext.drew (fun _ => False) _) id id, hb.r.keep (Ext.drew (fun _ => False) _) id (fun _ h => h.elim)⟩
      have hlt' : (n : Int) < (R.length : Int) := by omega
      clear a0 a1 a2 a3 a4
      go_wp2
      have hstep := step_any tb mb1 rb S R[n] wr.drew (4194304 + n) bd hS (by omega) hbs fd' (by omega) hw
      clear hc hf
      go_region_with (first
        | (go_at_call 9; refine hstep.mono ?_; rintro e w4 ⟨rfl, mb4, S4, b4, hS4, hm4, x4⟩; have t4 := b4.t; have n4 : S4.length ≤ 4398046511104 := (by omega); have hsame : sameF S4 S4 = true := decide_eq_true rfl; obtain ⟨v, hv, hs⟩ := id b4.r; obtain ⟨pa, ca, rfl, _⟩ := hs.open; have c7 := RT.c0 hv)
        | (go_at_call 10; refine (len_any tb mb4 S4 _ t4).mono ?_; rintro e w5 ⟨rfl, rfl⟩)
        | (go_at_call 12; refine (files_any tb mb4 S4 _ t4 n4).mono ?_; rintro e w8 ⟨v8, rfl, s8, x8⟩; have c8 := x8.cellF c7; have s9 := hs.keep x8 (fun _ _ _ h => h))
        | (go_at_call 11; refine (same_any _ _ _ _ _ _ _ s8 s9 (by omega) (by omega)).mono ?_; rintro e w9 ⟨rfl, x9⟩))
      all_goals
        go_wp2
        go_roundw
        case rel =>
          have x89 := x8.of_eq x9
          have hw4 : w.heap.size ≤ mb4 := hm4.elim (fun h => h ▸ hm1) (fun h => Nat.le_trans hxd.size h)
          exact ⟨n + 1, by omega, by go_num, mb4, S4, ⟨b4.t.keep x89 id id, b4.r.keep x89 id (fun _ h => h.elim)⟩, by omega, hw4,
            (hxd.step x4 (fun i h => by rcases h with rfl | rfl | rfl; exact ht; exact hm1; exact hrb)).of_eq x89⟩
        case measure => simp [intOf]; omega
    · have hge : ¬ (n : Int) < (R.length : Int) := by omega
      go_wp2_with (go_at_call 13; refine (sure_any _).mono ?_; rintro e w10 ⟨rfl, x10⟩)
      go_ret
      exact ⟨rfl, hx.of_eq x10⟩

end Go.Proofs.Ytpmlmpibpmoclaa
