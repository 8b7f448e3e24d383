/-
  What the reference's table does: contracts of Find and Read.
-/
import Derived.Test.YtpmlmpibpmoclaaSl
import Derived.Deep.QuietTactic
import Derived.BigQuiet
namespace Go.Proofs.Ytpmlmpibpmoclaa
open Go.RowKit

/-- Block rb is a table of the reference's that holds the files S. -/
def RT (w : World) (rb : Nat) (S : List Fl) : Prop := ∃ v, w.heap[rb]? = some (.cells #[v] 28 (0, 0)) ∧ Sl (fun _ => True) w v S

theorem hid {p : Prop} (h : p) : Hid p := h

theorem Ext.drewN (X : Nat → Prop) (w : World) (n : Nat) : Ext X w (w.drewN n) := ⟨rfl, rfl, rfl, Nat.le_refl _, fun _ _ _ => rfl⟩

theorem ret_ib {a b : Int} {x y : Bool} (h : a = b) (h' : x = y) : Ending.returned (.tuple #[.int .i64 a, .bool x]) = .returned (.tuple #[.int .i64 b, .bool y]) := by rw [h, h']

theorem RT.lt {w : World} {rb : Nat} {S : List Fl} (h : RT w rb S) : rb < w.heap.size := by
  obtain ⟨v, h, _⟩ := h
  exact (Array.getElem?_eq_some_iff.1 h).1

/-- No cell of the block is a text. -/
def Dull (w : World) (g : Nat) : Prop := ∀ o s, w.cell? ⟨g, o, none⟩ ≠ some (.string s)

theorem Sl.keepDull {Y : Nat → Prop} {w w' : World} {v : Value} {S : List Fl} (h : Sl Y w v S) {X : Nat → Prop} (hx : Ext X w w') (hn : ∀ g, X g → Dull w g) : Sl Y w' v S := by
  rcases h with h | ⟨g, o, c, hv, hc, hy, hg, ha⟩
  · exact .inl h
  · refine .inr ⟨g, o, c, hv, hc, hy, Nat.lt_of_lt_of_le hg hx.size, ?_⟩
    cases S with
    | nil => intro j u hj; simp [cellsOf] at hj
    | cons p r =>
      refine ha.keep hx hg fun hX => ?_
      exact hn g hX _ _ (ha.at0 (i := 0) (by simp))

theorem RT.keep {w w' : World} {rb : Nat} {S : List Fl} (h : RT w rb S) {X : Nat → Prop} (hx : Ext X w w') (h1 : ¬ X rb) (hn : ∀ g, X g → Dull w g) : RT w' rb S := by
  have hlt := h.lt
  obtain ⟨v, h, hs⟩ := h
  exact ⟨v, (hx.block _ hlt h1).trans h, hs.keepDull hx hn⟩

theorem dull_cell {w : World} {b : Nat} {v : Value} {e : TypeId} {fz : Nat × Nat} (h : w.heap[b]? = some (.cells #[v] e fz)) (hv : ∀ s, v ≠ .string s) : Dull w b := by
  intro o s hc
  simp only [World.cell?, h] at hc
  rcases o with _ | o <;> simp at hc
  exact hv s hc

theorem dull_map {w : World} {b : Nat} {l : List Fl} (h : MapAt w b l) : Dull w b := by
  obtain ⟨es, c, hb, _⟩ := h
  intro o s hc
  simp [World.cell?, hb] at hc

theorem RT.dull {w : World} {rb : Nat} {S : List Fl} (h : RT w rb S) : Dull w rb := by
  obtain ⟨v, h, hs⟩ := h
  refine dull_cell h fun s e => ?_
  subst e
  rcases hs with ⟨_, _, _, h, _⟩ | ⟨_, _, _, h, _⟩ <;> cases h

theorem dull_new {w : World} {g : Nat} (h : w.heap.size ≤ g) : Dull w g := by
  intro o s hc
  have : w.heap[g]? = none := Array.getElem?_eq_none h
  simp [World.cell?, this] at hc

set_option maxHeartbeats 1000000 in
theorem find_any (rb : Nat) (S : List Fl) (k : ByteArray) (w : World) (h : RT w rb S) (hlen : S.length ≤ 4611686018427387904) :
    Calls Try.prog 27 #[.pointer (some ⟨rb, 0, none⟩), .string k] w fun e w' => e = .returned (.tuple #[.int .i64 (idx S k), .bool (decide (∃ h : idx S k < S.length, S[idx S k].1 = k))]) ∧ Ext (fun _ => False) w w' := by
  obtain ⟨v, hb, hs⟩ := h
  have c0 : w.cell? ⟨rb, 0, none⟩ = some v := by simp [World.cell?, hb]
  rcases hs with ⟨rfl, p0, c0, rfl, _⟩ | ⟨g, o, c, rfl, hc, _, hg, ha⟩
  · go_enter Try.func27, Try.ntmps27
    go_wp2
    go_loop [6] (fun i => i = .int .i64 0) (fun _ => 0)
    case atStart => rfl
    case round =>
      subst hrel
      go_wp2
      go_quiet (fail)
      go_wp2
      go_ret2
      exact ⟨rfl, Ext.drewN _ _ _⟩
  · go_enter Try.func27, Try.ntmps27
    go_wp2
    go_loop [6] (fun i => ∃ n : Nat, n ≤ idx S k ∧ i = .int .i64 n) (fun i => S.length - (intOf i).toNat)
    case atStart => exact ⟨0, Nat.zero_le _, rfl⟩
    case round =>
      obtain ⟨n, hn, rfl⟩ := hrel
      have hle := idx_le S k
      by_cases hlt : n < idx S k
      · obtain ⟨h1, h2⟩ := below_idx hlt
        have c1 := ha.at0 h1
        have hd : Op.bytesLess S[n].1.toList k.toList = true := h2
        have hl : ((n : Int) < (S.length : Int)) := by omega
        go_wp2
        go_round
        case rel => exact ⟨n + 1, by omega, by go_num⟩
        case measure => simp [intOf]; omega
      · have hn' : n = idx S k := by omega
        clear hlt hn hle
        by_cases hl : n < S.length
        · have c1 := ha.at0 hl
          have hd : Op.bytesLess S[n].1.toList k.toList = false := by
            have := at_idx (S := S) (k := k) (by omega)
            subst hn'; exact this
          have hl' : ((n : Int) < (S.length : Int)) := by omega
          have H := hid hn'
          clear hn'
          go_wp2
          go_quiet (fail)
          go_wp2
          go_ret2
          have hn' := H.out
          refine ⟨ret_ib (by rw [hn']) ?_, Ext.drewN _ _ _⟩
          subst hn'
          by_cases e : S[idx S k].1 = k
          · rw [decide_eq_true (⟨hl, e⟩ : ∃ h : idx S k < S.length, S[idx S k].1 = k)]
            simp [e]
          · rw [decide_eq_false (by rintro ⟨_, h⟩; exact e h)]
            simp
            exact fun h => e (toList_inj h)
        · have hl' : ¬ ((n : Int) < (S.length : Int)) := by omega
          have hd : decide ((n : Int) < (S.length : Int)) = false := by simpa using hl
          have H := hid hn'
          clear hn'
          go_wp2
          go_quiet (fail)
          go_wp2
          go_ret2
          have hn' := H.out
          refine ⟨ret_ib (by rw [hn']) ?_, Ext.drewN _ _ _⟩
          subst hn'
          rw [decide_eq_false (by rintro ⟨h, _⟩; exact hl h)]

theorem Ext.cellF {w w1 : World} (hx : Ext (fun _ => False) w w1) {a : Addr} {v : Value} (h : w.cell? a = some v) : w1.cell? a = some v := by
  have hlt : a.block < w.heap.size := by
    rcases Nat.lt_or_ge a.block w.heap.size with h1 | h1
    · exact h1
    · have : w.heap[a.block]? = none := Array.getElem?_eq_none h1
      simp [World.cell?, this] at h
  rw [World.cell?_of_block (w := w) (hx.block _ hlt id)]; exact h

theorem RT.c0 {w : World} {rb : Nat} {v : Value} (hb : w.heap[rb]? = some (.cells #[v] 28 (0, 0))) : w.cell? ⟨rb, 0, none⟩ = some v := by simp [World.cell?, hb]
theorem RT.f0 {w : World} {rb : Nat} {v : Value} (hb : w.heap[rb]? = some (.cells #[v] 28 (0, 0))) : w.frozen? ⟨rb, 0, none⟩ = false := by simp [World.frozen?, hb]

set_option maxHeartbeats 1000000 in
theorem refread_any (rb : Nat) (S : List Fl) (k : ByteArray) (w : World) (h : RT w rb S) (hS : Rising S) (hlen : S.length ≤ 4611686018427387904) :
    Calls Try.prog 24 #[.pointer (some ⟨rb, 0, none⟩), .string k] w fun e w' => e = .returned (.tuple #[.string ((look S k).getD ByteArray.empty), .bool (hit S k)]) ∧ Ext (fun _ => False) w w' := by
  have hf := find_any rb S k w h hlen
  obtain ⟨v, hb, hs⟩ := h
  have c0 := RT.c0 hb
  by_cases hh : ∃ h : idx S k < S.length, S[idx S k].1 = k
  · rw [decide_eq_true hh] at hf
    obtain ⟨hi, he⟩ := hh
    have hlk := hit_look hS hi he
    have hht : hit S k = true := hit_some hlk
    rw [hht, hlk]
    simp only [Option.getD_some]
    rcases hs with ⟨rfl, p0, c0, rfl, _⟩ | ⟨g, o, c, rfl, hc, _, hg, ha⟩
    · simp at hi
    · have c1 := ha.at1 hi
      generalize idx S k = n at *
      have hi' : (n : Int) < (S.length : Int) := by omega
      clear hlk hht
      have H := hid he
      clear he
      go_enter Try.func24, Try.ntmps24
      go_wp2_with (go_at_call 27; refine hf.mono ?_; rintro e w1 ⟨rfl, hx⟩; have c0' := hx.cellF c0; have c1' := hx.cellF c1)
      go_ret2
      exact ⟨rfl, hx⟩
  · rw [decide_eq_false hh] at hf
    have hht : hit S k = false := by
      cases h : hit S k
      · rfl
      · exact absurd ((hit_iff hS).1 h) hh
    have hlk : look S k = none := by
      unfold hit at hht
      cases h : look S k
      · rfl
      · rw [h] at hht; cases hht
    rw [hht, hlk]
    simp only [Option.getD_none]
    clear hlk hht
    go_enter Try.func24, Try.ntmps24
    go_wp2_with (go_at_call 27; refine hf.mono ?_; rintro e w1 ⟨rfl, hx⟩)
    go_ret2
    exact ⟨rfl, hx⟩

end Go.Proofs.Ytpmlmpibpmoclaa
