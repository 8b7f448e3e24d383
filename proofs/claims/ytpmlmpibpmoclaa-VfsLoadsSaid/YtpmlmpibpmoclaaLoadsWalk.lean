/-
  The walk of the law VfsLoads.
-/
import Derived.Test.YtpmlmpibpmoclaaSure
namespace Go.Proofs.Ytpmlmpibpmoclaa
open Go.RowKit

theorem RT.made (w : World) : RT (w.alloc (.cells #[.slice none 0 0] 28)) w.heap.size [] :=
  ⟨_, (MapKept.heap_alloc w (.cells #[.slice none 0 0] 28)).1, .inl ⟨rfl, none, 0, rfl, fun _ => rfl⟩⟩

set_option maxHeartbeats 8000000 in
theorem vfsLoads_walk (w : World) (x : Value) (F : List Fl) (k : ByteArray) (hf : Sl (fun g => g < w.heap.size) w x F) (hF : F.length ≤ 4398046511104) (hw : ∀ p ∈ F, p.2.size ≤ 9223372036854775807) :
    Calls Try.prog 4 #[x, .string k] w fun e w' => e = .returned (.bool true) ∧ Ext (fun _ => False) w w' := by
  go_enter Try.func4, Try.ntmps4
  go_wp2_with fail
  refine (new_ex _).mono ?_
  rintro e w1 ⟨tb, mb, rfl, t1, ht, hm, x1⟩
  go_wp2_with fail
  have y2 : Ext (fun _ => False) w1 (w1.alloc (.cells #[.slice none 0 0] 28)) := Ext.alloc _ _ _
  have r2 := RT.made w1
  have t2 := t1.keep y2 id id
  have xa := x1.of_eq y2
  have hrb : w.heap.size ≤ w1.heap.size := x1.size
  generalize w1.alloc (.cells #[.slice none 0 0] 28) = w2 at *
  have hb2 : Both w2 tb mb w1.heap.size [] := ⟨t2, r2⟩
  have n1 := hb2.ne1
  have n2 := hb2.ne2
  clear hb2 y2 t1 x1
  generalize w1.heap.size = rb at *
  refine (write_any tb mb _ k _ w2 t2 (by decide)).mono ?_
  rintro e w3 ⟨rfl, t3, x3⟩
  have r3 := r2.keep x3 (fun e => n2 e.symm) (fun g hg => by subst hg; exact t2.dullM)
  go_wp2_with fail
  refine (refwrite_any rb _ k _ w3 r3 List.Pairwise.nil (by simp) (by decide)).mono ?_
  rintro e w4 ⟨rfl, r4, x4⟩
  have t4 := t3.keep x4 n1 n2
  have xb := (xa.step x3 (fun i h => h ▸ hm)).step x4 (fun i h => h ▸ hrb)
  clear t2 r2 t3 r3 x3 x4 xa
  go_wp2_with fail
  have f4 := (hf.keep xb (fun _ _ _ h => h)).keep (Ext.drew (fun _ => False) w4) (fun _ _ _ h => h)
  have t5 := t4.keep (Ext.drew (fun _ => False) w4) id id
  have r5 := r4.keep (Ext.drew (fun _ => False) w4) id (fun _ h => h.elim)
  have xc := xb.of_eq (Ext.drew _ w4)
  have hl : ∀ b, (wr [] k b).length ≤ 1 := fun b => wr_length List.Pairwise.nil k b
  have hl1 := hl { data := #[116, 104, 101, 114, 101] }
  clear hl f4 t4 r4 xb
  have f5 := hf.keep xc (fun _ _ _ h => h)
  generalize wr [] k { data := #[116, 104, 101, 114, 101] } = T at *
  have hrl := r5.lt
  have hT : (ld T F).length ≤ 4398046511104 := by unfold ld; split <;> omega
  have hsame : sameF (ld T F) (ld T F) = true := decide_eq_true rfl
  go_region_with (first
    | (go_at_call 16; refine (load_both tb mb T x F _ _ t5 f5 (by omega) hw).mono ?_; rintro e w6 ⟨rfl, mb', t6, hmb', x6⟩; have f6 := f5.keepDull x6 (fun g hg => by subst hg; exact t5.dullT); have n2' : ¬ mb' = rb := (by rcases hmb' with h | h <;> omega); have r6 := r5.keep x6 (fun h => n1 h.symm) (fun g hg => by subst hg; exact t5.dullT))
    | (go_at_call 17; refine (refload_any rb T x F _ _ r6 f6 hF hw).mono ?_; rintro e w7 ⟨rfl, r7, x7⟩; obtain ⟨v, hv, hs⟩ := r7; have c7 := RT.c0 hv; have t7 := t6.keep x7 n1 (fun e => n2' e))
    | (go_at_call 12; refine (files_any tb mb' _ _ t7 hT).mono ?_; rintro e w8 ⟨v8, rfl, s8, x8⟩; have c8 := x8.cellF c7; have s9 := hs.keep x8 (fun _ _ _ h => h))
    | (go_at_call 11; refine (same_any _ _ _ _ _ _ _ s8 s9 (by omega) (by omega)).mono ?_; rintro e w9 ⟨rfl, x9⟩)
    | (go_at_call 13; refine (sure_any _).mono ?_; rintro e w10 ⟨rfl, x10⟩))
  all_goals
    go_wp2
    go_ret
    exact ⟨rfl, ((((xc.step x6 (fun i h => h ▸ ht)).step x7 (fun i h => h ▸ hrb)).of_eq x8).of_eq x9).of_eq x10⟩

end Go.Proofs.Ytpmlmpibpmoclaa
