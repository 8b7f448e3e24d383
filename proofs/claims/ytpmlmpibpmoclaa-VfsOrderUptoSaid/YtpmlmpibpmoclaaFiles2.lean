/-
  What vfs.Table's Files does: it hands back a new slice that holds the files by rising paths.
-/
import Derived.Test.YtpmlmpibpmoclaaFiles
namespace Go.Proofs.Ytpmlmpibpmoclaa
open Go.RowKit

/-- A variable's cell gets another slice. -/
theorem var_stored {w : World} {lb : Nat} {v v' : Value} (hb : w.heap[lb]? = some (.cells #[v] 26 (0, 0))) : (w.setCell ⟨lb, 0, none⟩ v').heap[lb]? = some (.cells #[v'] 26 (0, 0)) := by
  simp only [World.setCell, Array.getElem?_modify, if_pos, hb]
  simp

theorem own_slice {w : World} {base n : Nat} {v : Value} {xs : List Value} (h : w.ownsRow base 44 2 v n xs) : ∃ p q c, v = .slice p q c := by
  rcases h.2 with ⟨h, _⟩ | ⟨_, _, _, h, _⟩
  · exact ⟨_, _, _, h⟩
  · exact ⟨_, _, _, h⟩

set_option maxHeartbeats 4000000 in
theorem files_own (tb mb : Nat) (S : List Fl) (w : World) (ht : VT w tb mb S) (hlen : S.length ≤ 4398046511104) :
    Calls Try.prog 12 #[.pointer (some ⟨tb, 0, none⟩)] w fun e w' => ∃ p c, e = .returned (.slice p S.length c) ∧ Sl (fun g => w.heap.size ≤ g) w' (.slice p S.length c) S ∧ Shape w' w.heap.size p S.length ∧ Ext (fun _ => False) w w' := by
  obtain ⟨l, hl, hp⟩ := ht.map
  have hlt := ht.lt
  have hmlt := ht.mlt
  have hnl : (keys l).Nodup := by obtain ⟨es, c, _, _, hn, _⟩ := hl; exact hn
  have hll : l.length ≤ 4398046511104 := by rw [hp.length_eq]; exact hlen
  have hxa : Ext (fun _ => False) w (w.alloc (.cells #[.slice none 0 0] 26)) := Ext.alloc _ _ _
  have hva := (MapKept.heap_alloc w (.cells #[.slice none 0 0] 26)).1
  have ta := ht.keep hxa id id
  have c0 := ta.c0
  obtain ⟨w2, hr2, hrg, hx2⟩ := (hl.keep hxa id).range (P := Try.prog) Try.underlying51
  have hsz : (w.alloc (.cells #[.slice none 0 0] 26)).heap.size = w.heap.size + 1 := by simp
  rw [hsz] at hr2 hrg
  obtain ⟨ii, hi, hz0, hz1, hz2⟩ := info_parts Try.info44
  go_enter Try.func12, Try.ntmps12
  go_wp2
  have hv2 : w2.heap[w.heap.size]? = some (.cells #[.slice none 0 0] 26 (0, 0)) := (hx2.block _ (by rw [hsz]; omega) id).trans hva
  have hx : Ext (fun _ => False) w w2 := hxa.of_eq hx2
  have hsz2 : w.heap.size + 2 ≤ w2.heap.size := hrg.lt
  clear hr2 hva c0 ta hx2 hxa hsz
  generalize hB : w.heap.size = B at *
  go_loopw [4, 5] (fun a b wr => ∃ C L v, (C ++ L).Perm l ∧ RangeAt wr (B + 1) mb l L ∧ wr.heap[B]? = some (.cells #[v] 26 (0, 0)) ∧ wr.ownsRow (B + 2) 44 2 v C.length (cellsOf C) ∧ Ext (fun _ => False) w wr ∧ B + 2 ≤ wr.heap.size) (fun _ _ wr => leftCount wr (B + 1) mb)
  case atStart => exact ⟨[], l, _, List.Perm.refl _, hrg, hv2, ⟨rfl, .inl ⟨rfl, rfl⟩⟩, hx, hsz2⟩
  case round =>
    obtain ⟨C, L, v, hCL, hrg', hv', hown, hx', hsz'⟩ := hrel
    obtain ⟨p1, q1, c1, rfl⟩ := own_slice hown
    clear hrg hv2 hx hsz2
    have hcnt := hrg'.count
    have hvc : wr.cell? ⟨B, 0, none⟩ = some (.slice p1 q1 c1) := by simp [World.cell?, hv']
    rcases hrg'.next (P := Try.prog) with ⟨rfl, hnx⟩ | ⟨k, b, L', w3, hperm, hnx, hrg3, hx3, hen⟩
    · rw [List.append_nil] at hCL
      have hs := sort_own wr B (B + 2) p1 q1 c1 C ⟨hv', hown, by omega⟩ (by rw [hCL.length_eq]; omega)
      go_wp2_with (go_at_call 25; refine hs.mono ?_; rintro e w5 ⟨rfl, C', hpC, hsC, hsl, hshp, hv5, hx5⟩; have hvc5 : w5.cell? ⟨B, 0, none⟩ = some (.slice p1 q1 c1) := by simp [World.cell?, hv5])
      go_ret
      have hCS : C' = S := by
        have hpl : C'.Perm l := hpC.trans hCL
        have hnd : (keys C').Nodup := (hpl.map Prod.fst).symm.nodup hnl
        exact rising_perm (rising_of_sorted hnd hsC) ht.rising (hpl.trans hp)
      subst hCS
      obtain rfl : q1 = C'.length := by rw [own_n hown, hpC.length_eq]
      exact ⟨p1, c1, rfl, hsl.mono fun g _ h => by omega, hshp.mono (by omega), hx'.trans (hx5.mono fun k _ h => .inr (by omega))⟩
    · have hvc3 := hx3.cellX (show ¬ (B = B + 1) by omega) hvc
      have hv3 := (hx3.block B (by omega) (by omega)).trans hv'
      have hf3 : w3.frozen? ⟨B, 0, none⟩ = false := by simp [World.frozen?, hv3]
      have hown3 := own_keep hown hx3 (fun g hg _ => by omega)
      have hx4 : Ext (fun _ => False) w w3 := hx'.trans (hx3.mono fun _ _ h => .inr (by omega))
      have hsz3 : B + 2 ≤ w3.heap.size := Nat.le_trans hsz' hx3.size
      have hC1 : C.length + 1 ≤ 4398046511104 := by
        have h1 := hCL.length_eq
        have h2 := hperm.length_eq
        simp at h1 h2
        omega
      go_wp2_with (first
        | (at_builtin; refine wpList_append_sl rfl (.tmp 18) (.tmp 22) 26 rfl (B + 2) 44 ii _ Try.underlying26 hi hz0 hz1 hz2 rfl _ _ _ [(k, b)] rfl rfl (own_alloc hown3 _) (Sl.one (fun _ => True) w3 k b trivial) hC1 (by simp; omega) ?_; intro p2 q2 c2 w5 hd2 hx5; have hx35 := (Ext.alloc (fun g => B + 2 ≤ g) w3 (.cells #[.string k, .string b] 44)).transB hx5; have hv5 := (hx35.block B (by omega) (by omega)).trans hv3; have hvc5 := hx35.cellB (by simp) hvc3; have hf5 : w5.frozen? ⟨B, 0, none⟩ = false := by simp [World.frozen?, hv5])
        | fail)
      have hx6 : Ext (fun g => B + 2 ≤ g ∨ g = B) w3 (w5.setCell ⟨B, 0, none⟩ (.slice p2 q2 c2)) :=
        (hx35.mono fun _ _ h => .inl h).trans (Ext.setCell _ _ _ fun _ => .inl (.inr rfl))
      have hrg6 := hrg3.keep hx6 (by omega) (by omega)
      have hcnt6 := hrg6.count
      have hpl := hperm.length_eq
      go_roundw
      case rel =>
        refine ⟨C ++ [(k, b)], L', .slice p2 q2 c2, by simpa using (List.Perm.append_left C hperm.symm).trans hCL, hrg6, var_stored hv5, own_keep hd2 (Ext.setCell _ _ _ (X := fun i => i = B) fun _ => rfl) (fun g hg _ => by omega), hx4.trans (hx6.mono fun i _ h => .inr (by omega)), Nat.le_trans hsz3 hx6.size⟩
      case measure => rw [hcnt, hcnt6, hpl]; simp

theorem files_any (tb mb : Nat) (S : List Fl) (w : World) (ht : VT w tb mb S) (hlen : S.length ≤ 4398046511104) :
    Calls Try.prog 12 #[.pointer (some ⟨tb, 0, none⟩)] w fun e w' => ∃ v, e = .returned v ∧ Sl (fun g => w.heap.size ≤ g) w' v S ∧ Ext (fun _ => False) w w' :=
  (files_own tb mb S w ht hlen).mono fun _ _ ⟨_, _, he, hs, _, hx⟩ => ⟨_, he, hs, hx⟩

end Go.Proofs.Ytpmlmpibpmoclaa
