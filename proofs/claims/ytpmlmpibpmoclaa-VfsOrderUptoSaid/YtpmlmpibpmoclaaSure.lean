/-
  The law's 'sure' answers true.
-/
import Derived.Test.YtpmlmpibpmoclaaFiles2
import Derived.Test.YtpmlmpibpmoclaaStep3
namespace Go.Proofs.Ytpmlmpibpmoclaa
open Go.RowKit

def kA : ByteArray := { data := #[47, 97] }
def kB : ByteArray := { data := #[47, 98] }
def b1 : ByteArray := { data := #[49] }
def b2 : ByteArray := { data := #[50] }
def b3 : ByteArray := { data := #[51] }
def qB : ByteArray := { data := #[98] }
def qA : ByteArray := { data := #[97] }

theorem plt_ab : plt kA kB = true := by
  unfold plt kA kB; rw [Lib.toList_data, Lib.toList_data]; decide
theorem plt_qq : plt qB qA = false := by
  unfold plt qA qB; rw [Lib.toList_data, Lib.toList_data]; decide
theorem ne_ab : kA ≠ kB := plt_ne plt_ab
theorem plt_ba : plt kB kA = false := plt_asymm plt_ab

theorem sure1 : ins [] kB b2 = [(kB, b2)] := by simp [ins, idx, hit, look]
theorem sure2 : ins [(kB, b2)] kA b1 = [(kA, b1), (kB, b2)] := by simp [ins, idx, hit, look, plt_ba, ne_ab.symm]
theorem sure3 : ins [(kA, b1), (kB, b2)] kB b3 = [(kA, b1), (kB, b3)] := by simp [ins, idx, hit, look, plt_ab, plt_irrefl, ne_ab]
theorem sure4 : del [(kA, b1), (kB, b3)] kA = [(kB, b3)] := by simp [del, idx, hit, look, plt_irrefl]
theorem sure5 : del [(kB, b3)] kA = [(kB, b3)] := by simp [del, hit, look, ne_ab.symm]
theorem hitB : hit [(kA, b1), (kB, b3)] kB = true := by simp [hit, look, ne_ab]
theorem lookB : look [(kA, b1), (kB, b3)] kB = some b3 := by simp [look, ne_ab]
theorem hitA : hit [(kA, b1), (kB, b3)] kA = true := by simp [hit, look]
theorem hitA' : hit [(kB, b3)] kA = false := by simp [hit, look, ne_ab.symm]
theorem okFqq : okF [(qB, ByteArray.empty), (qA, ByteArray.empty)] = false := okF_not (i := 1) (by simp) (by simp [okAt, plt_qq])

theorem Sl.new (Y : Nat → Prop) (w : World) (S : List Fl) (hY : Y w.heap.size) : Sl Y (w.alloc (.cells (cellsOf S).toArray 44)) (.slice (some ⟨w.heap.size, 0, none⟩) S.length S.length) S := by
  refine .inr ⟨w.heap.size, 0, S.length, rfl, Nat.le_refl _, hY, by simp, fun j u hj => ?_⟩
  have hb := (MapKept.heap_alloc w (.cells (cellsOf S).toArray 44)).1
  simp only [World.cell?, hb, Nat.zero_add]
  simpa using hj

theorem Ext.step {X : Nat → Prop} {w a b : World} (h : Ext (fun _ => False) w a) (k : Ext X a b) (hX : ∀ i, X i → w.heap.size ≤ i) : Ext (fun _ => False) w b :=
  h.trans (k.mono fun i _ hx => .inr (hX i hx))

theorem new_ex (w : World) : Calls Try.prog 8 #[] w fun e w' => ∃ tb mb, e = .returned (.pointer (some ⟨tb, 0, none⟩)) ∧ VT w' tb mb [] ∧ w.heap.size ≤ tb ∧ w.heap.size ≤ mb ∧ Ext (fun _ => False) w w' :=
  (new_any w).mono fun _ _ ⟨he, ht, hx⟩ => ⟨_, _, he, ht, Nat.le_succ _, Nat.le_refl _, hx⟩

set_option maxHeartbeats 4000000 in
theorem sure_any (w : World) : Calls Try.prog 13 #[] w fun e w' => e = .returned (.bool true) ∧ Ext (fun _ => False) w w' := by
  go_enter Try.func13, Try.ntmps13
  go_wp2_with fail
  refine (new_ex _).mono ?_
  rintro e w1 ⟨tb, mb, rfl, t1, _, hm, x1⟩
  go_wp2_with fail
  have h2 := write_short tb mb [] kB b2 w1 t1 (by decide)
  rw [sure1] at h2
  refine h2.mono ?_
  rintro e w2 ⟨rfl, t2, x2⟩
  go_wp2_with fail
  have h3 := write_short tb mb _ kA b1 w2 t2 (by decide)
  rw [sure2] at h3
  refine h3.mono ?_
  rintro e w3 ⟨rfl, t3, x3⟩
  go_wp2_with fail
  have h4 := write_short tb mb _ kB b3 w3 t3 (by decide)
  rw [sure3] at h4
  refine h4.mono ?_
  rintro e w4 ⟨rfl, t4, x4⟩
  go_wp2_with fail
  have h5 := read_any tb mb _ kB w4 t4
  rw [lookB, hitB] at h5
  simp only [Option.getD_some, b3] at h5
  refine h5.mono ?_
  rintro e w' ⟨rfl, rfl⟩
  go_wp2_with fail
  have h6 := len_any tb mb _ w4 t4
  simp only [List.length_cons, List.length_nil, Nat.zero_add] at h6
  refine h6.mono ?_
  rintro e w' ⟨rfl, rfl⟩
  go_wp2_with fail
  refine (files_any tb mb _ w4 t4 (by simp)).mono ?_
  rintro e w7 ⟨v, rfl, s7, x7⟩
  go_wp2_with fail
  have s8 := Sl.new (fun _ => True) w7 [(kA, b1), (kB, b3)] trivial
  have y8 : Ext (fun _ => False) w7 (w7.alloc (.cells (cellsOf [(kA, b1), (kB, b3)]).toArray 44)) := Ext.alloc _ _ _
  have h8 := same_any v _ _ _ _ _ _ (s7.keep y8 (fun _ _ _ h => h)) s8 (by simp) (by simp)
  rw [show sameF [(kA, b1), (kB, b3)] [(kA, b1), (kB, b3)] = true from decide_eq_true rfl] at h8
  have t8 := (t4.keep x7 id id).keep y8 id id
  refine h8.mono ?_
  rintro e w8 ⟨rfl, x8⟩
  have t9 := t8.keep x8 id id
  have x9 : Ext (fun _ => False) w7 w8 := y8.of_eq x8
  clear h8 s8 y8 t8 x8 s7 h2 h3 h4 h5 h6
  go_wp2_with fail
  have h9 := has_any tb mb _ kA w8 t9
  rw [hitA] at h9
  refine h9.mono ?_
  rintro e w' ⟨rfl, rfl⟩
  go_wp2_with fail
  have h10 := remove_any tb mb _ kA w8 t9
  rw [hitA, sure4] at h10
  refine h10.mono ?_
  rintro e w10 ⟨rfl, t10, x10⟩
  go_wp2_with fail
  have h11 := remove_any tb mb _ kA w10 t10
  rw [hitA', sure5] at h11
  refine h11.mono ?_
  rintro e w11 ⟨rfl, t11, x11⟩
  clear h9 h10 h11
  go_wp2_with fail
  have s12 := Sl.new (fun _ => True) w11 [(qB, ByteArray.empty), (qA, ByteArray.empty)] trivial
  have y12 : Ext (fun _ => False) w11 (w11.alloc (.cells (cellsOf [(qB, ByteArray.empty), (qA, ByteArray.empty)]).toArray 44)) := Ext.alloc _ _ _
  have h12 := load_no tb _ _ _ _ s12 (by simp) (by simp) okFqq
  have t12 := t11.keep y12 id id
  refine h12.mono ?_
  rintro e w13 ⟨rfl, x13⟩
  have t13 := t12.keep x13 id id
  have x13' : Ext (fun _ => False) w11 w13 := y12.of_eq x13
  clear s12 y12 h12 t12 x13
  go_wp2_with fail
  have h14 := len_any tb mb _ w13 t13
  simp only [List.length_cons, List.length_nil, Nat.zero_add] at h14
  refine h14.mono ?_
  rintro e w' ⟨rfl, rfl⟩
  clear h14
  go_wp2_with fail
  refine (copy_any tb mb _ w13 t13).mono ?_
  rintro e w15 ⟨cb, cmb, rfl, t15, _, _, x15⟩
  go_wp2_with fail
  have h16 := len_any cb cmb _ w15 t15
  simp only [List.length_cons, List.length_nil, Nat.zero_add] at h16
  refine h16.mono ?_
  rintro e w' ⟨rfl, rfl⟩
  clear h16
  go_wp2_with fail
  go_ret
  refine ⟨rfl, ?_⟩
  exact (((((((x1.step x2 (fun i h => h ▸ hm)).step x3 (fun i h => h ▸ hm)).step x4 (fun i h => h ▸ hm)).of_eq (x7.of_eq x9)).step x10 (fun i h => h ▸ hm)).step x11 (fun i h => h ▸ hm)).of_eq x13').of_eq x15

end Go.Proofs.Ytpmlmpibpmoclaa
