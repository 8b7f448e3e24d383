/-
  vfs.Table's Load of a list that it takes.
-/
import Derived.Test.YtpmlmpibpmoclaaLoad
import Derived.Deep.RegionHeld3
namespace Go.Proofs.Ytpmlmpibpmoclaa
open Go.RowKit

theorem VT.insert {w w2 : World} {tb mb : Nat} {S : List Fl} (h : VT w tb mb S) (hx : Ext (fun _ => False) w w2) (k v : ByteArray) :
    ∃ w3, (Instr.mapUpdate 51 (.map (some mb)) (.string k) (.string v)).run Try.prog w2 = .ok () w3 ∧ VT w3 tb mb (ins S k v) ∧ Ext (fun i => i = mb) w2 w3 := by
  have h2 := h.keep hx id id
  obtain ⟨l, hl, hp⟩ := h2.map
  have hn : (keys l).Nodup := by obtain ⟨es, c, _, _, hn, _⟩ := hl; exact hn
  obtain ⟨w3, hrun, hl3, hx3⟩ := hl.update (P := Try.prog) Try.underlying51 Try.underlying9 k v
  exact ⟨w3, hrun, ⟨(hx3.block _ h2.lt h2.ne).trans h2.cell, ⟨_, hl3, mput_perm hn h2.rising hp k v⟩, ins_rising h2.rising k v⟩, hx3⟩

theorem VT.dullT {w : World} {tb mb : Nat} {S : List Fl} (h : VT w tb mb S) : Dull w tb := dull_cell h.cell fun s e => by cases e
theorem VT.dullM {w : World} {tb mb : Nat} {S : List Fl} (h : VT w tb mb S) : Dull w mb := by obtain ⟨l, hl, _⟩ := h.map; exact dull_map hl

theorem cell_lt {w : World} {a : Addr} {v : Value} (h : w.cell? a = some v) : a.block < w.heap.size := by
  rcases Nat.lt_or_ge a.block w.heap.size with h1 | h1
  · exact h1
  · have : w.heap[a.block]? = none := Array.getElem?_eq_none h1
    simp [World.cell?, this] at h

theorem Ext.cellX {X : Nat → Prop} {w w' : World} (hx : Ext X w w') {a : Addr} {v : Value} (hb : ¬ X a.block) (h : w.cell? a = some v) : w'.cell? a = some v := by
  rw [World.cell?_of_block (w := w) (hx.block _ (cell_lt h) hb)]; exact h

/-- A new map, laid into a table's cell. -/
theorem VT.fresh {w : World} {tb mb : Nat} {T : List Fl} (h : VT w tb mb T) : VT ((w.setCell ⟨tb, 0, none⟩ (.map (some w.heap.size))).alloc (.map #[] 0)) tb w.heap.size [] ∧
    Ext (fun g => g = tb) w ((w.setCell ⟨tb, 0, none⟩ (.map (some w.heap.size))).alloc (.map #[] 0)) := by
  have hlt := h.lt
  have hx2 : Ext (fun g => g = tb) w (w.setCell ⟨tb, 0, none⟩ (.map (some w.heap.size))) := Ext.setCell _ _ _ fun _ => rfl
  have hx1 : Ext (fun _ => False) (w.setCell ⟨tb, 0, none⟩ (.map (some w.heap.size))) ((w.setCell ⟨tb, 0, none⟩ (.map (some w.heap.size))).alloc (.map #[] 0)) := Ext.alloc _ _ _
  have hsz : (w.setCell ⟨tb, 0, none⟩ (.map (some w.heap.size))).heap.size = w.heap.size := by simp [World.setCell]
  have hm := MapAt.made (w.setCell ⟨tb, 0, none⟩ (.map (some w.heap.size)))
  rw [hsz] at hm
  refine ⟨⟨?_, ⟨[], hm, List.Perm.refl _⟩, List.Pairwise.nil⟩, hx2.of_eq hx1⟩
  rw [hx1.block _ (by rw [hsz]; exact hlt) id]
  simp only [World.setCell, Array.getElem?_modify, if_pos, h.cell]
  simp

theorem ins_take {S : List Fl} (hf : okF S = true) {n : Nat} (h : n < S.length) : ins (S.take n) S[n].1 S[n].2 = S.take (n + 1) := by
  rw [ins_snoc (rising_snoc h (okF_fits hf).1), List.take_succ_eq_append_getElem h]

set_option maxHeartbeats 8000000 in
theorem load_yes (tb mb : Nat) (T : List Fl) (x : Value) (S : List Fl) (Y : Nat → Prop) (w : World) (ht : VT w tb mb T) (h : Sl Y w x S) (hlen : S.length ≤ 4611686018427387904) (hw : ∀ p ∈ S, p.2.size ≤ 9223372036854775807) (hf : okF S = true) :
    Calls Try.prog 16 #[.pointer (some ⟨tb, 0, none⟩), x] w fun e w' => e = .returned (.int .i64 0) ∧ ∃ mb', VT w' tb mb' S ∧ w.heap.size ≤ mb' ∧ Ext (fun i => i = tb) w w' := by
  obtain ⟨px, cx, rfl, hc⟩ := h.open
  have hdull := ht.dullT
  have hmm := @run_makeMap Try.prog
  go_enter Try.func16, Try.ntmps16
  go_wp2
  go_loopw [5, 6, 13] (fun s5 s6 i wr => ∃ n : Nat, n ≤ S.length ∧ i = .int .i64 n ∧ (∀ j, j < n → okAt S j = true) ∧ Ext (fun _ => False) w wr) (fun _ _ i _ => S.length - (intOf i).toNat)
  case atStart => exact ⟨0, Nat.zero_le _, rfl, fun _ h => absurd h (by omega), Ext.refl _ _⟩
  case round =>
    obtain ⟨n, hn, rfl, hok, hx⟩ := hrel
    by_cases hlt : n < S.length
    · obtain ⟨g, o, rfl, _, hg, a0, a1⟩ := hc n hlt
      have c0 := hx.cellF a0
      have c1 := hx.cellF a1
      have hsz := hw _ (List.getElem_mem hlt)
      have hlt' : (n : Int) < (S.length : Int) := by omega
      clear a0 a1
      go_wp2
      have hx2 := hx.of_eq (Ext.alloc (fun _ => False) wr (.cells #[.string S[n].1, .string S[n].2] 44))
      have d0 := cell_new0 wr S[n].1 S[n].2
      have d1 := cell_new1 wr S[n].1 S[n].2
      generalize wr.alloc (.cells #[.string S[n].1, .string S[n].2] 44) = w2 at *
      generalize wr.heap.size = bn at *
      clear c0 c1
      by_cases h0 : n = 0
      · have h0' : decide (0 < n) = false := by simp [h0]
        by_cases hb : S[n].2.size ≤ 65536
        · have hb' : ¬ (65536 : Int) < (S[n].2.size : Int) := by omega
          have H : Hid (okAt S n = true) := okAt_zero hlt h0 hb
          clear h0 hb
          go_quiet (fail)
          go_wp2
          go_roundw
          case rel => exact ⟨n + 1, by omega, by go_num, fun j hj => by rcases Nat.lt_succ_iff_lt_or_eq.1 hj with h | h; exact hok j h; subst h; exact H.out, hx2.of_eq (Ext.drewN _ _ _)⟩
          case measure => simp [intOf]; omega
        · have hb' : (65536 : Int) < (S[n].2.size : Int) := by omega
          have H : Hid (okAt S n = false) := okAt_big hlt hb
          clear h0 hb
          go_quiet (fail)
          go_wp2
          go_ret
          exact clash hf hlt H.out
      · have h0' : decide (0 < n) = true := by simp; omega
        have hlt1 : n - 1 < S.length := by omega
        obtain ⟨g', o', eg, _, _, a0, _⟩ := hc (n - 1) hlt1
        obtain ⟨rfl, rfl⟩ : g = g' ∧ o = o' := by simpa using eg
        have c2 := hx2.cellF a0
        clear a0 eg
        have hz : (0 : Int) ≤ (n : Int) - 1 := by omega
        have hz' : (n : Int) - 1 < (S.length : Int) := by omega
        cases hp : plt S[n - 1].1 S[n].1
        · have hp' : Op.bytesLess S[n - 1].1.toList S[n].1.toList = false := hp
          have H : Hid (okAt S n = false) := okAt_not hlt hlt1 h0 hp
          clear h0 hp
          go_quiet (fail)
          go_wp2
          go_ret
          exact clash hf hlt H.out
        · have hp' : Op.bytesLess S[n - 1].1.toList S[n].1.toList = true := hp
          by_cases hb : S[n].2.size ≤ 65536
          · have hb' : ¬ (65536 : Int) < (S[n].2.size : Int) := by omega
            have H : Hid (okAt S n = true) := okAt_yes hlt hlt1 hp hb
            clear h0 hp hb
            go_quiet (fail)
            go_wp2
            go_roundw
            case rel => exact ⟨n + 1, by omega, by go_num, fun j hj => by rcases Nat.lt_succ_iff_lt_or_eq.1 hj with h | h; exact hok j h; subst h; exact H.out, hx2.of_eq (Ext.drewN _ _ _)⟩
            case measure => simp [intOf]; omega
          · have hb' : (65536 : Int) < (S[n].2.size : Int) := by omega
            have H : Hid (okAt S n = false) := okAt_big hlt hb
            clear h0 hp hb
            go_quiet (fail)
            go_wp2
            go_ret
            exact clash hf hlt H.out
    · have hge : ¬ (n : Int) < (S.length : Int) := by omega
      have ht1 := ht.keep hx id id
      have c0 := ht1.c0
      have f0 := ht1.f0
      have hfr := VT.fresh ht1
      have hlt1 := ht1.lt
      have hne : tb ≠ wr.heap.size := by omega
      clear hok
      go_wp2
      have hx9 : Ext (fun g => g = tb) w _ := (hx.F (X := fun g => g = tb)).trans (hfr.2.mono fun _ _ h => .inl h)
      have ht9 := hfr.1
      have hsz9 := hx.size
      clear hfr c0 f0 hne hlt1 hge
      generalize (wr.setCell ⟨tb, 0, none⟩ (.map (some wr.heap.size))).alloc (.map #[] 0) = w9 at *
      generalize wr.heap.size = mb9 at *
      clear ht1 hx
      go_loopw [8, 44] (fun s8 i w3 => ∃ n2 : Nat, n2 ≤ S.length ∧ i = .int .i64 n2 ∧ VT w3 tb mb9 (S.take n2) ∧ Ext (fun g => g = tb) w w3) (fun _ i _ => S.length - (intOf i).toNat)
      case atStart => exact ⟨0, Nat.zero_le _, rfl, ht9, hx9⟩
      case round =>
        obtain ⟨n2, hn2, rfl, ht3, hx3⟩ := hrel
        clear ht9 hx9
        by_cases hlt : n2 < S.length
        · obtain ⟨g, o, rfl, _, hg, a0, a1⟩ := hc n2 hlt
          have hgt : ¬ g = tb := by rintro rfl; exact hdull _ _ a0
          have e0 := hx3.cellX hgt a0
          have e1 := hx3.cellX hgt a1
          have hlt' : (n2 : Int) < (S.length : Int) := by omega
          clear a0 a1
          go_wp2
          have hx4 : Ext (fun g => g = tb) w _ := hx3.of_eq (Ext.alloc (fun _ => False) wr (.cells #[.string S[n2].1, .string S[n2].2] 44))
          have ht4 := ht3.keep (Ext.alloc (fun _ => False) wr (.cells #[.string S[n2].1, .string S[n2].2] 44)) id id
          have d0 := cell_new0 wr S[n2].1 S[n2].2
          have d1 := cell_new1 wr S[n2].1 S[n2].2
          have hbn : mb9 < wr.heap.size := ht3.mlt
          generalize wr.alloc (.cells #[.string S[n2].1, .string S[n2].2] 44) = w4 at *
          generalize wr.heap.size = bn at *
          clear e0 e1 hx3 ht3
          have c4 := ht4.c0
          obtain ⟨w5, hrun, ht5, hx5⟩ := ht4.insert (Ext.drew (fun _ => False) w4) S[n2].1 S[n2].2
          have hnm : ¬ bn = mb9 := by omega
          have c5 := ht5.c0
          have q0 : w5.cell? ⟨bn, 0, none⟩ = some (.string S[n2].1) := hx5.cellX hnm d0
          have q1 : w5.cell? ⟨bn, 1, none⟩ = some (.string S[n2].2) := hx5.cellX hnm d1
          go_region_held3 (fun w' => w'.cell? ⟨tb, 0, none⟩ = some (.map (some mb9)) ∧ w'.cell? ⟨bn, 0, none⟩ = some (.string S[n2].1) ∧ w'.cell? ⟨bn, 1, none⟩ = some (.string S[n2].2)) (first | exact ⟨c5, q0, q1⟩ | exact ⟨c4, d0, d1⟩) (first | fail)
          all_goals
            go_wp2
            go_roundw
            case rel =>
              refine ⟨n2 + 1, by omega, by go_num, ?_, hx4.of_eq (Ext.drew _ _) |>.trans (hx5.mono fun k _ h => .inr (by subst h; exact hsz9))⟩
              rw [← ins_take hf hlt]; exact ht5
            case measure => simp [intOf]; omega
        · obtain rfl : n2 = S.length := by omega
          rw [List.take_length] at ht3
          go_wp2
          go_ret
          exact ⟨rfl, mb9, ht3, hsz9, hx3⟩

end Go.Proofs.Ytpmlmpibpmoclaa
