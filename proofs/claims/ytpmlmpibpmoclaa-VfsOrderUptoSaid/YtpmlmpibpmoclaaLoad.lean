/-
  What vfs.Table's Load does.
-/
import Derived.Test.YtpmlmpibpmoclaaTab
import Derived.Test.YtpmlmpibpmoclaaSame
namespace Go.Proofs.Ytpmlmpibpmoclaa
open Go.RowKit

/-- The cells of a slice, whichever way it is held. -/
theorem Sl.open {Y : Nat → Prop} {w : World} {x : Value} {A : List Fl} (ha : Sl Y w x A) : ∃ pa ca, x = .slice pa A.length ca ∧
    (∀ n (h : n < A.length), ∃ g o, pa = some ⟨g, o, none⟩ ∧ Y g ∧ g < w.heap.size ∧ w.cell? ⟨g, o + n * 2, none⟩ = some (.string A[n].1) ∧ w.cell? ⟨g, o + n * 2 + 1, none⟩ = some (.string A[n].2)) := by
  rcases ha with ⟨rfl, p0, c0, rfl, _⟩ | ⟨g, o, c, rfl, hc, hy, hg, ha⟩
  · exact ⟨p0, c0, rfl, fun n h => by simp at h⟩
  · exact ⟨_, c, rfl, fun n h => ⟨g, o, rfl, hy, hg, ha.at0 h, ha.at1 h⟩⟩

theorem cell_new0 (w : World) (a b : ByteArray) : (w.alloc (.cells #[.string a, .string b] 44)).cell? ⟨w.heap.size, 0, none⟩ = some (.string a) := by
  have hb := (MapKept.heap_alloc w (.cells #[.string a, .string b] 44)).1
  simp only [World.cell?, hb]; rfl
theorem cell_new1 (w : World) (a b : ByteArray) : (w.alloc (.cells #[.string a, .string b] 44)).cell? ⟨w.heap.size, 1, none⟩ = some (.string b) := by
  have hb := (MapKept.heap_alloc w (.cells #[.string a, .string b] 44)).1
  simp only [World.cell?, hb]; rfl

/-- A list that Load doesn't take. -/
theorem clash {S : List Fl} (h : okF S = true) {n : Nat} (hn : n < S.length) (h' : okAt S n = false) {p : Prop} : p := by
  rw [okF_at h hn] at h'; cases h'

set_option maxHeartbeats 4000000 in
theorem load_no (tb : Nat) (x : Value) (S : List Fl) (Y : Nat → Prop) (w : World) (h : Sl Y w x S) (hlen : S.length ≤ 4611686018427387904) (hw : ∀ p ∈ S, p.2.size ≤ 9223372036854775807) (hf : okF S = false) :
    Calls Try.prog 16 #[.pointer (some ⟨tb, 0, none⟩), x] w fun e w' => e = .returned (.int .i64 21) ∧ Ext (fun _ => False) w w' := by
  obtain ⟨px, cx, rfl, hc⟩ := h.open
  go_enter Try.func16, Try.ntmps16
  go_wp2
  go_loopw [5, 6, 13] (fun s5 s6 i wr => ∃ n : Nat, n ≤ S.length ∧ i = .int .i64 n ∧ (∀ j, j < n → okAt S j = true) ∧ Ext (fun _ => False) w wr) (fun _ _ i _ => S.length - (intOf i).toNat)
  case atStart => exact ⟨0, Nat.zero_le _, rfl, fun _ h => absurd h (by omega), Ext.refl _ _⟩
  case round =>
    obtain ⟨n, hn, rfl, hok, hx⟩ := hrel
    by_cases hlt : n < S.length
    · obtain ⟨g, o, rfl, _, hg, a0, a1⟩ := hc n hlt
      have c0 := hx.cellF a0
      have c1 := hx.cellF a1
      have hsz := hw _ (List.getElem_mem hlt)
      have hlt' : (n : Int) < (S.length : Int) := by omega
      clear a0 a1
      go_wp2
      have hx2 := hx.of_eq (Ext.alloc (fun _ => False) wr (.cells #[.string S[n].1, .string S[n].2] 44))
      have d0 := cell_new0 wr S[n].1 S[n].2
      have d1 := cell_new1 wr S[n].1 S[n].2
      generalize wr.alloc (.cells #[.string S[n].1, .string S[n].2] 44) = w2 at *
      generalize wr.heap.size = bn at *
      clear c0 c1
      by_cases h0 : n = 0
      · have h0' : decide (0 < n) = false := by simp [h0]
        by_cases hb : S[n].2.size ≤ 65536
        · have hb' : ¬ (65536 : Int) < (S[n].2.size : Int) := by omega
          have H : Hid (okAt S n = true) := okAt_zero hlt h0 hb
          clear h0 hb
          go_quiet (fail)
          go_wp2
          go_roundw
          case rel => exact ⟨n + 1, by omega, by go_num, fun j hj => by rcases Nat.lt_succ_iff_lt_or_eq.1 hj with h | h; exact hok j h; subst h; exact H.out, hx2.of_eq (Ext.drewN _ _ _)⟩
          case measure => simp [intOf]; omega
        · have hb' : (65536 : Int) < (S[n].2.size : Int) := by omega
          have H : Hid (okAt S n = false) := okAt_big hlt hb
          clear h0 hb
          go_quiet (fail)
          go_wp2
          go_ret
          exact ⟨rfl, hx2.of_eq (Ext.drewN _ _ _)⟩
      · have h0' : decide (0 < n) = true := by simp; omega
        have hlt1 : n - 1 < S.length := by omega
        obtain ⟨g', o', eg, _, _, a0, _⟩ := hc (n - 1) hlt1
        obtain ⟨rfl, rfl⟩ : g = g' ∧ o = o' := by simpa using eg
        have c2 := hx2.cellF a0
        clear a0 eg
        have hz : (0 : Int) ≤ (n : Int) - 1 := by omega
        have hz' : (n : Int) - 1 < (S.length : Int) := by omega
        cases hp : plt S[n - 1].1 S[n].1
        · have hp' : Op.bytesLess S[n - 1].1.toList S[n].1.toList = false := hp
          have H : Hid (okAt S n = false) := okAt_not hlt hlt1 h0 hp
          clear h0 hp
          go_quiet (fail)
          go_wp2
          go_ret
          exact ⟨rfl, hx2.of_eq (Ext.drewN _ _ _)⟩
        · have hp' : Op.bytesLess S[n - 1].1.toList S[n].1.toList = true := hp
          by_cases hb : S[n].2.size ≤ 65536
          · have hb' : ¬ (65536 : Int) < (S[n].2.size : Int) := by omega
            have H : Hid (okAt S n = true) := okAt_yes hlt hlt1 hp hb
            clear h0 hp hb
            go_quiet (fail)
            go_wp2
            go_roundw
            case rel => exact ⟨n + 1, by omega, by go_num, fun j hj => by rcases Nat.lt_succ_iff_lt_or_eq.1 hj with h | h; exact hok j h; subst h; exact H.out, hx2.of_eq (Ext.drewN _ _ _)⟩
            case measure => simp [intOf]; omega
          · have hb' : (65536 : Int) < (S[n].2.size : Int) := by omega
            have H : Hid (okAt S n = false) := okAt_big hlt hb
            clear h0 hp hb
            go_quiet (fail)
            go_wp2
            go_ret
            exact ⟨rfl, hx2.of_eq (Ext.drewN _ _ _)⟩
    · exfalso
      rw [okF_of fun i hi => hok i (by omega)] at hf; cases hf

end Go.Proofs.Ytpmlmpibpmoclaa
