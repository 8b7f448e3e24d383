/-
  One contract each for the two Writes and the two Loads, whatever is handed in.
-/
import Derived.Test.YtpmlmpibpmoclaaLong
namespace Go.Proofs.Ytpmlmpibpmoclaa
open Go.RowKit

/-- What Write makes of the files, and what it answers. -/
def wr (S : List Fl) (k v : ByteArray) : List Fl := if v.size ≤ 65536 then ins S k v else S
def wrN (v : ByteArray) : Int := if v.size ≤ 65536 then 0 else 20

theorem wr_rising {S : List Fl} (h : Rising S) (k v : ByteArray) : Rising (wr S k v) := by
  unfold wr; split
  · exact ins_rising h k v
  · exact h

theorem wr_length {S : List Fl} (h : Rising S) (k v : ByteArray) : (wr S k v).length ≤ S.length + 1 := by
  unfold wr; split
  · rw [length_ins h]; split <;> omega
  · omega

theorem write_any (tb mb : Nat) (S : List Fl) (k v : ByteArray) (w : World) (h : VT w tb mb S) (hm : v.size ≤ 9223372036854775807) :
    Calls Try.prog 14 #[.pointer (some ⟨tb, 0, none⟩), .string k, .string v] w fun e w' => e = .returned (.int .i64 (wrN v)) ∧ VT w' tb mb (wr S k v) ∧ Ext (fun i => i = mb) w w' := by
  unfold wr wrN
  by_cases hv : v.size ≤ 65536
  · rw [if_pos hv, if_pos hv]; exact write_short tb mb S k v w h hv
  · rw [if_neg hv, if_neg hv]
    exact (write_long tb mb S k v w h (by omega) hm).mono fun e w' ⟨he, hw⟩ => by subst hw; exact ⟨he, h, Ext.refl _ _⟩

theorem refwrite_any (rb : Nat) (S : List Fl) (k v : ByteArray) (w : World) (h : RT w rb S) (hS : Rising S) (hlen : S.length + 1 ≤ 4398046511104) (hm : v.size ≤ 9223372036854775807) :
    Calls Try.prog 15 #[.pointer (some ⟨rb, 0, none⟩), .string k, .string v] w fun e w' => e = .returned (.int .i64 (wrN v)) ∧ RT w' rb (wr S k v) ∧ Ext (fun i => i = rb) w w' := by
  unfold wr wrN
  by_cases hv : v.size ≤ 65536
  · rw [if_pos hv, if_pos hv]; exact refwrite_short rb S k v w h hS hlen hv
  · rw [if_neg hv, if_neg hv]
    exact (refwrite_long rb k v w (by omega) hm).mono fun e w' ⟨he, hw⟩ => by subst hw; exact ⟨he, h, Ext.refl _ _⟩

/-- What Load makes of the files. -/
def ld (S F : List Fl) : List Fl := if okF F = true then F else S

theorem ld_rising {S F : List Fl} (h : Rising S) : Rising (ld S F) := by
  unfold ld; split
  · exact (okF_fits ‹_›).1
  · exact h

theorem load_both (tb mb : Nat) (T : List Fl) (x : Value) (F : List Fl) (Y : Nat → Prop) (w : World) (ht : VT w tb mb T) (h : Sl Y w x F) (hlen : F.length ≤ 4611686018427387904) (hw : ∀ p ∈ F, p.2.size ≤ 9223372036854775807) :
    Calls Try.prog 16 #[.pointer (some ⟨tb, 0, none⟩), x] w fun e w' => e = .returned (.int .i64 (fitN F)) ∧ ∃ mb', VT w' tb mb' (ld T F) ∧ (mb' = mb ∨ w.heap.size ≤ mb') ∧ Ext (fun i => i = tb) w w' := by
  unfold ld
  cases hf : okF F
  · rw [← fitN_no hf]
    exact (load_no tb x F Y w h hlen hw hf).mono fun e w' ⟨he, hx⟩ => ⟨he, mb, ht.keep hx id id, .inl rfl, hx.F⟩
  · rw [← fitN_yes hf]
    exact (load_yes tb mb T x F Y w ht h hlen hw hf).mono fun e w' ⟨he, mb', hv, hb, hx⟩ => ⟨he, mb', hv, .inr hb, hx⟩

theorem refload_any (rb : Nat) (S : List Fl) (x : Value) (F : List Fl) (Y : Nat → Prop) (w : World) (hr : RT w rb S) (h : Sl Y w x F) (hlen : F.length ≤ 4398046511104) (hw : ∀ p ∈ F, p.2.size ≤ 9223372036854775807) :
    Calls Try.prog 17 #[.pointer (some ⟨rb, 0, none⟩), x] w fun e w' => e = .returned (.int .i64 (fitN F)) ∧ RT w' rb (ld S F) ∧ Ext (fun i => i = rb) w w' := by
  unfold ld
  cases hf : okF F
  · rw [← fitN_no hf]
    exact (refload_no rb x F Y w h (by omega) hw hf).mono fun e w' ⟨he, hx⟩ => ⟨he, hr.keep hx id (fun _ h => h.elim), hx.F⟩
  · rw [← fitN_yes hf]
    obtain ⟨y, hb, hs⟩ := hr
    exact refload_yes rb x y F Y w hb (slice_no_string hs) h hlen hw hf

/-- A table and the reference's beside it, with the same files. -/
structure Both (w : World) (tb mb rb : Nat) (S : List Fl) : Prop where
  t : VT w tb mb S
  r : RT w rb S

theorem Both.ne1 {w : World} {tb mb rb : Nat} {S : List Fl} (h : Both w tb mb rb S) : tb ≠ rb := by
  obtain ⟨v, hb, _⟩ := h.r
  intro e; have := h.t.cell
  rw [e, hb] at this
  simp at this
theorem Both.ne2 {w : World} {tb mb rb : Nat} {S : List Fl} (h : Both w tb mb rb S) : mb ≠ rb := by
  obtain ⟨v, hb, _⟩ := h.r
  obtain ⟨l, ⟨es, c, hm, _⟩, _⟩ := h.t.map
  intro e; rw [e, hb] at hm; cases hm

end Go.Proofs.Ytpmlmpibpmoclaa
