/-
  What vfs.Table's Copy does.
-/
import Derived.Test.YtpmlmpibpmoclaaRange
namespace Go.Proofs.Ytpmlmpibpmoclaa
open Go.RowKit

/-- The table's map is C's entries so far: in whatever order they came. -/
structure VC (w : World) (tb mb : Nat) (C : List Fl) : Prop where
  cell : w.heap[tb]? = some (.cells #[.map (some mb)] 53 (0, 0))
  map : ∃ l, MapAt w mb l ∧ l.Perm C

theorem VC.keep {w w' : World} {tb mb : Nat} {S : List Fl} (h : VC w tb mb S) {X : Nat → Prop} (hx : Ext X w w') (h1 : ¬ X tb) (h2 : ¬ X mb) : VC w' tb mb S := by
  obtain ⟨l, hl, hp⟩ := h.map
  exact ⟨(hx.block _ (Array.getElem?_eq_some_iff.1 h.cell).1 h1).trans h.cell, ⟨l, hl.keep hx h2, hp⟩⟩

theorem VC.c0 {w : World} {tb mb : Nat} {S : List Fl} (h : VC w tb mb S) : w.cell? ⟨tb, 0, none⟩ = some (.map (some mb)) := by
  simp [World.cell?, h.cell]

theorem VC.insert {w : World} {tb mb : Nat} {C : List Fl} (h : VC w tb mb C) (k v : ByteArray) (hk : k ∉ keys C) :
    ∃ w3, (Instr.mapUpdate 51 (.map (some mb)) (.string k) (.string v)).run Try.prog w = .ok () w3 ∧ VC w3 tb mb (C ++ [(k, v)]) ∧ Ext (fun i => i = mb) w w3 := by
  obtain ⟨l, hl, hp⟩ := h.map
  obtain ⟨w3, hrun, hl3, hx3⟩ := hl.update (P := Try.prog) Try.underlying51 Try.underlying9 k v
  have hne : tb ≠ mb := by
    obtain ⟨es, c, hb, _⟩ := hl
    intro e; rw [← e, h.cell] at hb; simp at hb
  refine ⟨w3, hrun, ⟨(hx3.block _ (Array.getElem?_eq_some_iff.1 h.cell).1 hne).trans h.cell, ⟨_, hl3, ?_⟩⟩, hx3⟩
  have hh : hit l k = false := by
    apply hit_none
    rw [look_none]
    intro hm
    exact hk ((hp.map Prod.fst).mem_iff.1 hm)
  unfold mput
  rw [hh]
  simpa using hp.append_right [(k, v)]

set_option maxHeartbeats 4000000 in
theorem copy_any (tb mb : Nat) (S : List Fl) (w : World) (ht : VT w tb mb S) :
    Calls Try.prog 21 #[.pointer (some ⟨tb, 0, none⟩)] w fun e w' => ∃ cb cmb, e = .returned (.pointer (some ⟨cb, 0, none⟩)) ∧ VT w' cb cmb S ∧ w.heap.size ≤ cb ∧ w.heap.size ≤ cmb ∧ Ext (fun _ => False) w w' := by
  obtain ⟨l, hl, hp⟩ := ht.map
  have hlt := ht.lt
  have hmlt := ht.mlt
  have hnl : (keys l).Nodup := by obtain ⟨es, c, _, _, hn, _⟩ := hl; exact hn
  go_enter Try.func21, Try.ntmps21
  go_wp2_with (first
    | (go_at_call 8; refine (new_any _).mono ?_; rintro e w1 ⟨rfl, hv1, hx1⟩; have c1 := (ht.keep hx1 id id).c0; obtain ⟨w2, hr2, hrg, hx2⟩ := (hl.keep hx1 id).range (P := Try.prog) Try.underlying51; have hv2 := hv1.keep hx2 id id; have hlt2 := hv1.lt; have hmlt2 := hv1.mlt)
    | fail)
  try go_frame
  have hxx := hx1.of_eq hx2
  have hvc : VC w2 (w.heap.size + 1) w.heap.size [] := ⟨hv2.cell, by obtain ⟨l', h1, h2⟩ := hv2.map; exact ⟨l', h1, h2⟩⟩
  have hrlt : w.heap.size + 1 < w1.heap.size := hlt2
  clear c1 hr2 hv1 hv2 hx1 hx2 hlt2 hmlt2
  generalize w1.heap.size = r at *
  clear w1
  generalize hB : w.heap.size = B at *
  have hrl : B ≤ r := by omega
  have hBr : B ≠ r := by omega
  have hB1r : B + 1 ≠ r := by omega
  go_loopw [4, 5] (fun a b wr => ∃ C L, (C ++ L).Perm l ∧ RangeAt wr r mb l L ∧ VC wr (B + 1) B C ∧ Ext (fun _ => False) w wr) (fun _ _ wr => leftCount wr r mb)
  case atStart => exact ⟨[], l, List.Perm.refl _, hrg, hvc, hxx⟩
  case round =>
    obtain ⟨C, L, hCL, hrg', hvc', hx⟩ := hrel
    clear hrg hvc hxx
    have hcnt := hrg'.count
    rcases hrg'.next (P := Try.prog) with ⟨rfl, hnx⟩ | ⟨k, v, L', w3, hperm, hnx, hrg3, hx3, hen⟩
    · rw [List.append_nil] at hCL
      go_wp2
      go_ret
      refine ⟨B + 1, B, rfl, ⟨hvc'.cell, ?_, ht.rising⟩, by omega, by omega, hx⟩
      obtain ⟨l', h1, h2⟩ := hvc'.map
      exact ⟨l', h1, h2.trans (hCL.trans hp)⟩
    · have hx4 : Ext (fun _ => False) w w3 := hx.trans (hx3.mono fun _ _ h => .inr (by subst h; omega))
      have hvc3 := hvc'.keep hx3 (by omega) (by omega)
      have c0 := hvc3.c0
      have hkC : k ∉ keys C := by
        have h1 : (keys (C ++ ((k, v) :: L'))).Nodup := by
          have : (C ++ ((k, v) :: L')).Perm l := (List.Perm.append_left C hperm.symm).trans hCL
          exact (this.map Prod.fst).symm.nodup hnl
        unfold keys at h1
        rw [List.map_append, List.nodup_append] at h1
        intro h2
        exact h1.2.2 k h2 k (by simp) rfl
      obtain ⟨w5, hrun, hvc5, hx5⟩ := hvc3.insert k v hkC
      have hmbB : mb ≠ B := by omega
      have hrg5 := hrg3.keep hx5 (by omega) hmbB
      have hcnt5 := hrg5.count
      have hlen := hperm.length_eq
      clear hrg' hvc' hx3 hkC
      go_wp2
      go_roundw
      case rel => exact ⟨C ++ [(k, v)], L', by simpa using (List.Perm.append_left C hperm.symm).trans hCL, hrg5, hvc5, hx4.trans (hx5.mono fun _ _ h => .inr (by subst h; omega))⟩
      case measure => rw [hcnt, hcnt5, hlen]; simp

end Go.Proofs.Ytpmlmpibpmoclaa
