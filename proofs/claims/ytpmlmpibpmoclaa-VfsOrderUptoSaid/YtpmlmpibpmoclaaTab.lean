/-
  What the methods of vfs.Table do: contracts of New, Len, Read, Has, Remove, Write.
-/
import Derived.Test.YtpmlmpibpmoclaaBase
namespace Go.Proofs.Ytpmlmpibpmoclaa
open Go.RowKit
open Go.ChangeMaps (setBlock)

/-- Block tb is a table; its map lies in block mb; it holds the files S. -/
structure VT (w : World) (tb mb : Nat) (S : List Fl) : Prop where
  cell : w.heap[tb]? = some (.cells #[.map (some mb)] 53 (0, 0))
  map : ∃ l, MapAt w mb l ∧ l.Perm S
  rising : Rising S

theorem VT.lt {w : World} {tb mb : Nat} {S : List Fl} (h : VT w tb mb S) : tb < w.heap.size := (Array.getElem?_eq_some_iff.1 h.cell).1
theorem VT.mlt {w : World} {tb mb : Nat} {S : List Fl} (h : VT w tb mb S) : mb < w.heap.size := by
  obtain ⟨l, hl, _⟩ := h.map; exact hl.lt
theorem VT.ne {w : World} {tb mb : Nat} {S : List Fl} (h : VT w tb mb S) : tb ≠ mb := by
  obtain ⟨l, ⟨es, c, hb, _⟩, _⟩ := h.map
  intro e; rw [← e, h.cell] at hb; simp at hb

theorem VT.keep {w w' : World} {tb mb : Nat} {S : List Fl} (h : VT w tb mb S) {X : Nat → Prop} (hx : Ext X w w') (h1 : ¬ X tb) (h2 : ¬ X mb) : VT w' tb mb S := by
  obtain ⟨l, hl, hp⟩ := h.map
  exact ⟨(hx.block _ h.lt h1).trans h.cell, ⟨l, hl.keep hx h2, hp⟩, h.rising⟩

theorem VT.c0 {w : World} {tb mb : Nat} {S : List Fl} (h : VT w tb mb S) : w.cell? ⟨tb, 0, none⟩ = some (.map (some mb)) := by
  simp [World.cell?, h.cell]
theorem VT.f0 {w : World} {tb mb : Nat} {S : List Fl} (h : VT w tb mb S) : w.frozen? ⟨tb, 0, none⟩ = false := by
  simp [World.frozen?, h.cell]

theorem zero9 (w : World) : (zeroValue 9).run Try.prog w = .ok (.string ByteArray.empty) w := by kernel_rfl

set_option maxHeartbeats 400000 in
theorem new_any (w : World) :
    Calls Try.prog 8 #[] w fun e w' => e = .returned (.pointer (some ⟨w.heap.size + 1, 0, none⟩)) ∧ VT w' (w.heap.size + 1) w.heap.size [] ∧ Ext (fun _ => False) w w' := by
  have hmm := @run_makeMap Try.prog
  go_enter Try.func8, Try.ntmps8
  go_wp2
  go_ret
  refine ⟨rfl, ⟨?_, ⟨[], ?_, List.Perm.refl _⟩, List.Pairwise.nil⟩, (Ext.alloc _ _ _).of_eq (Ext.alloc _ _ _)⟩
  · have := (MapKept.heap_alloc (w.alloc (Obj.map #[] 0)) (Obj.cells #[Value.map (some w.heap.size)] 53)).1
    simpa using this
  · exact (MapAt.made w).keep (Ext.alloc (fun _ => False) _ _) id

set_option maxHeartbeats 400000 in
theorem len_any (tb mb : Nat) (S : List Fl) (w : World) (h : VT w tb mb S) :
    Calls Try.prog 10 #[.pointer (some ⟨tb, 0, none⟩)] w fun e w' => e = .returned (.int .i64 S.length) ∧ w = w' := by
  obtain ⟨l, hl, hp⟩ := h.map
  have c0 := h.c0
  have hrun := fun ty => hl.len (P := Try.prog) Try.underlying51 ty
  rw [hp.length_eq] at hrun
  go_enter Try.func10, Try.ntmps10
  go_wp2
  go_ret
  exact ⟨rfl, rfl⟩

set_option maxHeartbeats 400000 in
theorem read_any (tb mb : Nat) (S : List Fl) (k : ByteArray) (w : World) (h : VT w tb mb S) :
    Calls Try.prog 20 #[.pointer (some ⟨tb, 0, none⟩), .string k] w fun e w' => e = .returned (.tuple #[.string ((look S k).getD ByteArray.empty), .bool (hit S k)]) ∧ w = w' := by
  obtain ⟨l, hl, hp⟩ := h.map
  have c0 := h.c0
  have hrun := hl.look_ok (P := Try.prog) Try.underlying51 Try.underlying9 (zero9 _) k
  have hn : (keys l).Nodup := by obtain ⟨es, c, _, _, hn, _⟩ := hl; exact hn
  rw [look_perm hn hp, hit_perm hn hp] at hrun
  go_enter Try.func20, Try.ntmps20
  go_wp2
  go_ret2
  exact ⟨rfl, rfl⟩

set_option maxHeartbeats 400000 in
theorem has_any (tb mb : Nat) (S : List Fl) (k : ByteArray) (w : World) (h : VT w tb mb S) :
    Calls Try.prog 18 #[.pointer (some ⟨tb, 0, none⟩), .string k] w fun e w' => e = .returned (.bool (hit S k)) ∧ w = w' := by
  go_enter Try.func18, Try.ntmps18
  go_wp2_with (go_at_call 20; refine (read_any _ _ _ _ _ h).mono ?_; rintro e w' ⟨rfl, rfl⟩)
  go_ret
  exact ⟨rfl, rfl⟩

set_option maxHeartbeats 400000 in
theorem write_long (tb mb : Nat) (S : List Fl) (k v : ByteArray) (w : World) (_h : VT w tb mb S) (hv : 65536 < v.size) (hm : v.size ≤ 9223372036854775807) :
    Calls Try.prog 14 #[.pointer (some ⟨tb, 0, none⟩), .string k, .string v] w fun e w' => e = .returned (.int .i64 20) ∧ w = w' := by
  have hlt : (65536 : Int) < (v.size : Int) := by omega
  go_enter Try.func14, Try.ntmps14
  go_wp2
  go_ret
  exact ⟨rfl, rfl⟩

set_option maxHeartbeats 400000 in
theorem write_short (tb mb : Nat) (S : List Fl) (k v : ByteArray) (w : World) (h : VT w tb mb S) (hv : v.size ≤ 65536) :
    Calls Try.prog 14 #[.pointer (some ⟨tb, 0, none⟩), .string k, .string v] w fun e w' => e = .returned (.int .i64 0) ∧ VT w' tb mb (ins S k v) ∧ Ext (fun i => i = mb) w w' := by
  obtain ⟨l, hl, hp⟩ := h.map
  have c0 := h.c0
  have hne := h.ne
  have hlt : ¬ (65536 : Int) < (v.size : Int) := by omega
  have hn : (keys l).Nodup := by obtain ⟨es, c, _, _, hn, _⟩ := hl; exact hn
  obtain ⟨w1, hrun, hl1, hx1⟩ := hl.update (P := Try.prog) Try.underlying51 Try.underlying9 k v
  go_enter Try.func14, Try.ntmps14
  go_wp2
  go_ret
  exact ⟨rfl, ⟨(hx1.block _ h.lt hne).trans h.cell, ⟨_, hl1, mput_perm hn h.rising hp k v⟩, ins_rising h.rising k v⟩, hx1⟩

set_option maxHeartbeats 400000 in
theorem remove_any (tb mb : Nat) (S : List Fl) (k : ByteArray) (w : World) (h : VT w tb mb S) :
    Calls Try.prog 19 #[.pointer (some ⟨tb, 0, none⟩), .string k] w fun e w' => e = .returned (.bool (hit S k)) ∧ VT w' tb mb (del S k) ∧ Ext (fun i => i = mb) w w' := by
  obtain ⟨l, hl, hp⟩ := h.map
  have c0 := h.c0
  have hne := h.ne
  have hn : (keys l).Nodup := by obtain ⟨es, c, _, _, hn, _⟩ := hl; exact hn
  obtain ⟨w1, hrun, hl1, hx1⟩ := hl.delete (P := Try.prog) Try.underlying51 Try.underlying9 k 0 9
  cases hh : hit S k
  · go_enter Try.func19, Try.ntmps19
    go_wp2_with (go_at_call 18; refine (has_any _ _ _ _ _ h).mono ?_; rintro e w' ⟨rfl, rfl⟩)
    go_ret
    have hd : del S k = S := by unfold del; rw [hh]; rfl
    rw [hd]
    exact ⟨rfl, h, Ext.refl _ _⟩
  · go_enter Try.func19, Try.ntmps19
    go_wp2_with (go_at_call 18; refine (has_any _ _ _ _ _ h).mono ?_; rintro e w' ⟨rfl, rfl⟩)
    go_ret
    exact ⟨rfl, ⟨(hx1.block _ h.lt hne).trans h.cell, ⟨_, hl1, mdel_perm hn h.rising hp k⟩, del_rising h.rising k⟩, hx1⟩

end Go.Proofs.Ytpmlmpibpmoclaa
