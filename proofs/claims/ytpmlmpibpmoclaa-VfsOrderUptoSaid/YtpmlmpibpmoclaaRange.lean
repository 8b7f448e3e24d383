/-
  Ranging over a table's map: what is left, what a step hands out.
-/
import Derived.Test.YtpmlmpibpmoclaaLoadY
namespace Go.Proofs.Ytpmlmpibpmoclaa
open Go.RowKit

/-- Block r is an iterator over the map in block mb, which holds l; L is what is still to come. -/
def RangeAt (w : World) (r mb : Nat) (l L : List Fl) : Prop :=
  ∃ es clock since seen, w.heap[r]? = some (.mapIter (some mb) since seen clock) ∧ w.heap[mb]? = some (.map es clock) ∧ es.toList.map kv = l.map vv ∧ (keys l).Nodup ∧
    (es.toList.map (·.born)).Nodup ∧ (∀ e ∈ es.toList, e.born < since) ∧ since ≤ clock ∧ (leftOf es seen).toList.map kv = L.map vv

theorem RangeAt.keep {w w' : World} {r mb : Nat} {l L : List Fl} (h : RangeAt w r mb l L) {X : Nat → Prop} (hx : Ext X w w') (h1 : ¬ X r) (h2 : ¬ X mb) : RangeAt w' r mb l L := by
  obtain ⟨es, clock, since, seen, a, b, rest⟩ := h
  exact ⟨es, clock, since, seen, (hx.block _ (Array.getElem?_eq_some_iff.1 a).1 h1).trans a, (hx.block _ (Array.getElem?_eq_some_iff.1 b).1 h2).trans b, rest⟩

theorem MapAt.range {P : Program} {w : World} {mb : Nat} {l : List Fl} {t ke ve : TypeId} (h : MapAt w mb l) (ht : P.underlying t = some (.map ke ve)) :
    ∃ w', (Instr.range t (.map (some mb))).run P w = .ok (.pointer (some ⟨w.heap.size, 0, none⟩)) w' ∧ RangeAt w' w.heap.size mb l l ∧ Ext (fun _ => False) w w' := by
  have hlt := h.lt
  obtain ⟨es, c, hb, he, hn, hbn, hbc⟩ := h
  refine ⟨w.alloc (.mapIter (some mb) c #[] c), ?_, ⟨es, c, c, #[], (MapKept.heap_alloc w _).1, ?_, he, hn, hbn, hbc, Nat.le_refl _, ?_⟩, Ext.alloc _ _ _⟩
  · simp [Instr.range, run_underlying ht, MapKept.run_getObj_map hb, Result.andThen]
  · rw [(Ext.alloc (fun _ => False) w _).block _ hlt id]; exact hb
  · have : (leftOf es #[]).toList = es.toList := by
      simp only [leftOf, Array.toList_filter]
      rw [List.filter_eq_self]; intro x _; simp
    rw [this]; exact he

theorem map_split {α β γ : Type} (f : α → γ) (g : β → γ) {A B : List α} {e : α} {L : List β} (h : (A ++ e :: B).map f = L.map g) :
    ∃ LA p LB, L = LA ++ p :: LB ∧ f e = g p ∧ A.map f = LA.map g ∧ B.map f = LB.map g := by
  rw [List.map_append, List.map_cons] at h
  have hl : A.length < L.length := by
    have := congrArg List.length h
    simp at this; omega
  refine ⟨L.take A.length, L[A.length], L.drop (A.length + 1), by simp, ?_, ?_, ?_⟩
  · have h1 : (A.map f ++ f e :: B.map f)[A.length]? = (L.map g)[A.length]? := by rw [h]
    rw [List.getElem?_append_right (by simp)] at h1
    simp [hl] at h1
    exact h1
  · have h1 := congrArg (List.take A.length) h
    rw [List.take_append_of_le_length (by simp), List.map_take.symm] at h1
    rw [List.take_of_length_le (by simp)] at h1
    rw [h1, List.map_take]
  · have h1 := congrArg (List.drop (A.length + 1)) h
    have e1 : List.drop (A.length + 1) (List.map f A ++ f e :: List.map f B) = List.map f B := by
      have : List.map f A ++ f e :: List.map f B = (List.map f A ++ [f e]) ++ List.map f B := by simp
      rw [this, List.drop_left']
      simp
    rw [e1] at h1
    rw [h1, List.map_drop]

theorem RangeAt.next {P : Program} {w : World} {r mb : Nat} {l L : List Fl} (h : RangeAt w r mb l L) :
    (L = [] ∧ ∀ ty, (Instr.next (.pointer (some ⟨r, 0, none⟩)) false ty).run P w = .ok (.tuple #[.bool false]) w) ∨
    ∃ k v L' w', L.Perm ((k, v) :: L') ∧ (∀ ty, (Instr.next (.pointer (some ⟨r, 0, none⟩)) false ty).run P w = .ok (.tuple #[.bool true, .string k, .string v]) w') ∧ RangeAt w' r mb l L' ∧ Ext (fun i => i = r) w w' ∧
      (Instr.entry (.pointer (some ⟨r, 0, none⟩))).run P w' = .ok (.tuple #[.string k, .string v]) w' := by
  obtain ⟨es, clock, since, seen, a, b, he, hn, hbn, hbc, hsc, hL⟩ := h
  rcases run_next_at (P := P) w 0 r mb since clock seen es clock a b hbc hsc with ⟨h0, hrun⟩ | ⟨e, hem, w1, hw1, hrun⟩
  · left
    refine ⟨?_, fun _ => hrun⟩
    have h1 : ((leftOf es seen).toList.map kv).length = (L.map vv).length := by rw [hL]
    simp at h1
    exact List.length_eq_zero_iff.1 (by omega)
  · right
    obtain ⟨A, B, hAB⟩ := List.append_of_mem hem
    rw [hAB] at hL
    obtain ⟨LA, p, LB, rfl, hp, hLA, hLB⟩ := map_split kv vv hL
    have hees : e ∈ es.toList := by simp [leftOf] at hem; simpa using hem.1
    have hk : e.key = .string p.1 ∧ e.val = .string p.2 := by simpa [kv, vv] using hp
    rw [hk.1, hk.2] at hrun
    have hne : r ≠ mb := by rintro rfl; rw [a] at b; cases b
    have hrb : (Go.ChangeMaps.setBlock w1 r (.mapIter (some mb) since (seen.push e.born) clock)).heap[r]? = some (.mapIter (some mb) since (seen.push e.born) clock) := by
      have hlt := (Array.getElem?_eq_some_iff.1 a).1
      have hlt1 : r < w1.heap.size := by rcases hw1 with rfl | rfl <;> exact hlt
      simp [Go.ChangeMaps.setBlock, hlt1]
    have hmb : (Go.ChangeMaps.setBlock w1 r (.mapIter (some mb) since (seen.push e.born) clock)).heap[mb]? = some (.map es clock) := by
      have : w1.heap[mb]? = some (.map es clock) := by rcases hw1 with rfl | rfl <;> exact b
      simp only [Go.ChangeMaps.setBlock]
      rw [Array.getElem?_setIfInBounds_ne hne]; exact this
    have hx1 : Ext (fun i => i = r) w w1 := by
      rcases hw1 with rfl | rfl
      · exact Ext.refl _ _
      · exact Ext.drew _ _
    refine ⟨p.1, p.2, LA ++ LB, _, List.perm_middle, fun _ => hrun, ⟨es, clock, since, _, hrb, hmb, he, hn, hbn, hbc, hsc, ?_⟩, hx1.trans ((Ext.setBlock w1 r _ (X := fun i => i = r) fun _ => rfl).mono fun _ _ h => .inl h), ?_⟩
    · have hleft : (leftOf es (seen.push e.born)).toList = (leftOf es seen).toList.filter fun x => x.born != e.born := by
        simp only [leftOf, Array.toList_filter, List.filter_filter]
        apply List.filter_congr
        intro x _
        by_cases hxe : x.born = e.born <;> simp [hxe]
      have hnd : ((leftOf es seen).toList.map (·.born)).Nodup := by
        simp only [leftOf, Array.toList_filter]
        exact List.Pairwise.sublist (List.Sublist.map _ List.filter_sublist) hbn
      rw [hleft, hAB, List.filter_append, List.filter_cons]
      rw [hAB, List.map_append, List.map_cons, List.nodup_append] at hnd
      obtain ⟨_, h2, h3⟩ := hnd
      rw [List.nodup_cons] at h2
      have fA : A.filter (fun x => x.born != e.born) = A := by
        rw [List.filter_eq_self]
        intro x hx
        have := h3 x.born (List.mem_map.2 ⟨x, hx, rfl⟩) e.born (by simp)
        simpa using this
      have fB : B.filter (fun x => x.born != e.born) = B := by
        rw [List.filter_eq_self]
        intro x hx
        simp
        intro h4
        exact h2.1 (List.mem_map.2 ⟨x, hx, h4⟩)
      simp [fA, fB, hLA, hLB]
    · have := run_entry_at (P := P) _ r mb since seen es clock e hrb hmb hees hbn
      rw [hk.1, hk.2] at this
      exact this

theorem RangeAt.map {w : World} {r mb : Nat} {l L : List Fl} (h : RangeAt w r mb l L) : MapAt w mb l := by
  obtain ⟨es, clock, since, seen, a, b, he, hn, hbn, hbc, hsc, _⟩ := h
  exact ⟨es, clock, b, he, hn, hbn, fun e hm => by have := hbc e hm; omega⟩

theorem RangeAt.lt {w : World} {r mb : Nat} {l L : List Fl} (h : RangeAt w r mb l L) : r < w.heap.size := by
  obtain ⟨es, clock, since, seen, a, _⟩ := h
  exact (Array.getElem?_eq_some_iff.1 a).1

/-- How many entries are still to come. -/
def leftCount (w : World) (r mb : Nat) : Nat :=
  match w.heap[r]?, w.heap[mb]? with
  | some (.mapIter _ _ seen _), some (.map es _) => (leftOf es seen).size
  | _, _ => 0

theorem RangeAt.count {w : World} {r mb : Nat} {l L : List Fl} (h : RangeAt w r mb l L) : leftCount w r mb = L.length := by
  obtain ⟨es, clock, since, seen, a, b, _, _, _, _, _, hL⟩ := h
  unfold leftCount
  rw [a, b]
  have := congrArg List.length hL
  simpa using this

end Go.Proofs.Ytpmlmpibpmoclaa
