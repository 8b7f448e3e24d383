/-
  What vfs.Table's Files does: it hands back a new slice that holds the files by rising paths.
-/
import Derived.Test.YtpmlmpibpmoclaaSort
namespace Go.Proofs.Ytpmlmpibpmoclaa
open Go.RowKit Go.Lib Go.Sort

theorem getBang {S : List Fl} {i : Nat} (h : i < S.length) : S.toArray[i]! = S[i] := by
  rw [getElem!_pos _ i (by simpa using h)]; simp

/-- A row that is held: a slice's cells. -/
theorem SlAt.ofHolds {w : World} {g : Nat} {d : Array Fl} (h : HoldsK encF 2 w g 0 d) : SlAt w g 0 d.toList := by
  refine SlAt.mk fun i hi => ?_
  have hi' : i < d.size := by simpa using hi
  have h0 := (h.cell (i := i) (c := 0) hi' (by omega)).1
  have h1 := (h.cell (i := i) (c := 1) hi' (by omega)).1
  rw [getElem!_pos _ i hi'] at h0 h1
  simp only [Nat.add_zero] at h0
  simp only [Array.getElem_toList]
  exact ⟨h0, h1⟩

theorem holds_of_own {w : World} {g : Nat} {cur : Array Value} {S : List Fl} (hb : w.heap[g]? = some (.cells cur 44 (0, 0))) (ht : cur.toList.take (S.length * 2) = cellsOf S) : HoldsK encF 2 w g 0 S.toArray := by
  intro j hj
  simp at hj
  have hi : j / 2 < S.length := by omega
  have hval : (cellsOf S)[j]? = some (flatK encF 2 S.toArray)[j]! := by
    rw [get_flatK _ _ _ _ (by simpa using hj), getBang hi]
    rcases Nat.mod_two_eq_zero_or_one j with e | e
    · have ej : j / 2 * 2 = j := by omega
      have := cellsOf_get0 hi
      rw [ej] at this
      rw [this, e]; rfl
    · have ej : j / 2 * 2 + 1 = j := by omega
      have := cellsOf_get1 hi
      rw [ej] at this
      rw [this, e]; rfl
  rw [← ht, List.getElem?_take, if_pos hj] at hval
  constructor
  · simp only [World.cell?, hb]
    simpa using hval
  · simp [World.frozen?, hb]

theorem Ext.grow (X : Nat → Prop) (w : World) (os : Array Obj) : Ext X w (grow w os) :=
  ⟨rfl, rfl, rfl, by simp, fun k hk _ => by
    show (w.heap ++ os)[k]? = _
    rw [Array.getElem?_append_left hk]⟩

theorem Ext.putRowK {X : Nat → Prop} (w : World) (g n : Nat) (d : Array Fl) (hX : X g) : Ext X w (putRowK encF 2 (Sort.ahead w n) g 0 d) :=
  ⟨rfl, rfl, rfl, by simp [Sort.putRowK, Sort.putRow, Sort.mapBlock, Sort.ahead], fun k hk hn => by
    have hne : k ≠ g := fun e => hn (e ▸ hX)
    simp only [Sort.putRowK, Sort.putRow, Sort.mapBlock, Sort.ahead]
    rw [Array.getElem?_modify, if_neg (fun e => hne e.symm)]⟩

/-- What is known of the slice's variable and its row when the sort is called. -/
structure Laid (w : World) (lb base : Nat) (v : Value) (C : List Fl) : Prop where
  var : w.heap[lb]? = some (.cells #[v] 26 (0, 0))
  own : w.ownsRow base 44 2 v C.length (cellsOf C)
  lt : lb < base

/-- The shape of a slice that the call owns: where its cells lie, and that they may be written. -/
def Shape (w : World) (base : Nat) (p : Option Addr) (n : Nat) : Prop := 0 < n → ∃ g cur, p = some ⟨g, 0, none⟩ ∧ base ≤ g ∧ w.heap[g]? = some (.cells cur 44 (0, 0)) ∧ n * 2 ≤ cur.size

theorem Shape.keep {w w' : World} {base : Nat} {p : Option Addr} {n : Nat} (h : Shape w base p n) {X : Nat → Prop} (hx : Ext X w w') (hn : ∀ g, base ≤ g → g < w.heap.size → ¬ X g) : Shape w' base p n := fun h0 => by
  obtain ⟨g, cur, hp, hb, hc, hs⟩ := h h0
  have hlt := (Array.getElem?_eq_some_iff.1 hc).1
  exact ⟨g, cur, hp, hb, (hx.block g hlt (hn g hb hlt)).trans hc, hs⟩

theorem Shape.mono {w : World} {base base' : Nat} {p : Option Addr} {n : Nat} (h : Shape w base p n) (hb : base' ≤ base) : Shape w base' p n := fun h0 => by
  obtain ⟨g, cur, hp, h1, r⟩ := h h0
  exact ⟨g, cur, hp, Nat.le_trans hb h1, r⟩

theorem block_putRowK (w : World) (m g : Nat) (d : Array Fl) {cur : Array Value} {t : TypeId} {f : Nat × Nat} (h : w.heap[g]? = some (.cells cur t f)) :
    ∃ cur', (putRowK encF 2 (Sort.ahead w m) g 0 d).heap[g]? = some (.cells cur' t f) ∧ cur'.size = cur.size := by
  refine ⟨Sort.putCells id 0 (flatK encF 2 d) cur, ?_, by simp [Sort.putCells]⟩
  unfold putRowK Sort.putRow Sort.mapBlock Sort.ahead
  simp [Array.getElem?_modify, h, Sort.onCells]

theorem own_n {w : World} {base : Nat} {p : Option Addr} {n c : Nat} {S : List Fl} (h : w.ownsRow base 44 2 (.slice p n c) S.length (cellsOf S)) : n = S.length := by
  rcases h.2 with ⟨hv, hn⟩ | ⟨g, cap, cur, hv, _⟩
  · simp at hv; omega
  · simp at hv; exact hv.2.1

theorem own_shape0 {w : World} {base : Nat} {p : Option Addr} {n c : Nat} {S : List Fl} (h : w.ownsRow base 44 2 (.slice p n c) S.length (cellsOf S)) : Shape w base p n := fun h0 => by
  rcases h.2 with ⟨hv, hn⟩ | ⟨g, cap, cur, hv, hg, hb, hc, _, hs, _⟩
  · simp at hv; omega
  · simp at hv
    obtain ⟨rfl, rfl, rfl⟩ := hv
    exact ⟨g, cur, rfl, hg, hb, by rw [hs]; omega⟩

set_option maxHeartbeats 2000000 in
theorem sort_own (w : World) (lb base : Nat) (p : Option Addr) (n c : Nat) (C : List Fl) (h : Laid w lb base (.slice p n c) C) (hlen : C.length < 4611686018427387904) :
    Calls Try.prog 25 #[.iface 26 (.slice p n c), .func (.func 26) #[] #[.pointer (some ⟨lb, 0, none⟩)]] w fun e w' => e = .returned (.tuple #[]) ∧
      ∃ C', C'.Perm C ∧ (C'.Pairwise fun a b => plt b.1 a.1 = false) ∧ Sl (fun g => base ≤ g) w' (.slice p n c) C' ∧ Shape w' base p n ∧ w'.heap[lb]? = some (.cells #[.slice p n c] 26 (0, 0)) ∧ Ext (fun g => base ≤ g) w w' := by
  have hlbw : lb < w.heap.size := (Array.getElem?_eq_some_iff.1 h.var).1
  have hnC : n = C.length := by
    rcases h.own.2 with ⟨hv, hn⟩ | ⟨g, cap, cur, hv, _⟩
    · simp at hv; omega
    · simp at hv; exact hv.2.1
  by_cases h1 : n ≤ 1
  · have hS : Calls Try.prog 25 #[.iface 26 (.slice p n c), .func (.func 26) #[] #[.pointer (some ⟨lb, 0, none⟩)]] w fun e w' => e = .returned (.tuple #[]) ∧ ∃ os, w' = grow w os := by
      rcases Nat.le_one_iff_eq_zero_or_eq_one.1 h1 with e | e
      · have hk : swapperK n Try.svE 25 = 1 := by rw [e]; simp [Lib.swapperK]
        have := Any.sort_Slice_tiny Try.sl6 26 44 Try.svT Try.svE (by kernel_rfl) (by kernel_rfl) (by kernel_rfl) (by kernel_rfl) 25 (fun _ => by kernel_rfl) p n c h1 34 (by rw [hk]; kernel_rfl) (.func 26) #[] #[.pointer (some ⟨lb, 0, none⟩)] w
        exact this
      · have hk : swapperK n Try.svE 25 = 2 := by rw [e]; simp [Lib.swapperK]
        have := Any.sort_Slice_tiny Try.sl6 26 44 Try.svT Try.svE (by kernel_rfl) (by kernel_rfl) (by kernel_rfl) (by kernel_rfl) 25 (fun _ => by kernel_rfl) p n c h1 35 (by rw [hk]; kernel_rfl) (.func 26) #[] #[.pointer (some ⟨lb, 0, none⟩)] w
        exact this
    refine hS.mono ?_
    rintro e w' ⟨rfl, os, rfl⟩
    have hx : Ext (fun g => base ≤ g) w (grow w os) := Ext.grow _ _ _
    refine ⟨rfl, C, List.Perm.refl _, ?_, ?_, ?_, ?_, hx⟩
    · cases C with
      | nil => exact List.Pairwise.nil
      | cons a r =>
        cases r with
        | nil => simp
        | cons b r => simp at hnC; omega
    · exact (Sl.ofOwn h.own).keep (Ext.grow (fun _ => False) _ _) (fun _ _ _ h => h)
    · exact (own_shape0 h.own).keep (Ext.grow (fun _ => False) _ _) (fun _ _ _ h => h)
    · exact ((Ext.grow (fun _ => False) w os).block _ hlbw id).trans h.var
  · have h2 : 2 ≤ C.toArray.size := by simp; omega
    rcases h.own.2 with ⟨hv, hn⟩ | ⟨g, cap, cur, hv, hg, hb, hc, _, hs, ht⟩
    · omega
    · simp at hv
      obtain ⟨rfl, _, rfl⟩ := hv
      subst hnC
      have hgw : g < w.heap.size := (Array.getElem?_eq_some_iff.1 hb).1
      have hH := holds_of_own hb ht
      have hlg : lb ≠ g := by have := h.lt; omega
      have hless : LessReadsK Try.prog 26 #[.pointer (some ⟨lb, 0, none⟩)] encF 2 ltF g 0 C.toArray.size w := by
        intro m os dk hs i j hi hj
        have e : sortWorldK encF 2 w g 0 m dk os = putRowK encF 2 (grow (Sort.ahead w m) os) g 0 dk := by
          unfold sortWorldK; rw [putRowK_grow _ _ (Sort.ahead w m) _ g 0 _ hgw]
        have hHg : HoldsK encF 2 (grow (Sort.ahead w m) os) g 0 C.toArray := holdsK_grow _ _ _ _ g 0 _ hgw (holdsK_ahead _ _ _ _ _ _ _ hH)
        refine less_any g c lb C.toArray.size _ (fun t => dk[t]!.1) ?_ (fun t ht => ?_) i j hi hj (by simpa using hlen)
        · rw [e, cell?_putRowK_other _ _ _ g 0 dk _ hlg, cell?_grow _ _ _ hlbw]
          simp [World.cell?, Sort.ahead, h.var]
        · rw [e]
          have := ((holdsK_putRowK _ _ _ g 0 C.toArray dk hHg hs).cell (i := t) (c := 0) (by omega) (by omega)).1
          simpa [encF] using this
      have hS := Any.sort_Slice_cells_sorted Try.sl6 26 44 Try.svT Try.svE (by kernel_rfl) (by kernel_rfl) (by kernel_rfl) (by kernel_rfl) 25 (fun _ => by kernel_rfl) encF 2 (fun _ => rfl) (by kernel_rfl) (fun _ => by kernel_rfl)
        (fun x v hv => by simp [encF] at hv; rcases hv with rfl | rfl <;> rfl) ltF swo_ltF 26 _ (enters_of Try.func26 (by kernel_rfl) rfl) g 0 c C.toArray h2 (by simpa using hlen) 42 (by rw [Try.svK _ h2]; kernel_rfl) false
        (fun args W => run_callFunc_extern Try.func42 (by kernel_rfl) (by kernel_rfl) (by kernel_rfl) (e := Extern.ReflectliteSwapper.swap false) (by kernel_rfl) args W) w hless hH hgw
      change Calls Try.prog 25 _ _ _ at hS
      simp only [List.size_toArray] at hS
      refine hS.mono ?_
      rintro e w' ⟨rfl, d', m, os, hP, hSo, rfl⟩
      obtain ⟨hds, _, hperm⟩ := hP
      have hx1 : Ext (fun k => k = g) w (putRowK encF 2 (Sort.ahead w m) g 0 d') := Ext.putRowK w g m d' rfl
      have hx : Ext (fun k => k = g) w (grow (putRowK encF 2 (Sort.ahead w m) g 0 d') os) := hx1.of_eq (Ext.grow _ _ _)
      have hHd : HoldsK encF 2 (grow (putRowK encF 2 (Sort.ahead w m) g 0 d') os) g 0 d' :=
        holdsK_grow _ _ _ _ g 0 _ (Nat.lt_of_lt_of_le hgw hx1.size) (holdsK_putRowK _ _ _ g 0 C.toArray d' (holdsK_ahead _ _ _ _ _ _ _ hH) hds)
      have hdl : d'.toList.length = C.length := by simpa using hds
      refine ⟨rfl, d'.toList, ?_, ?_, .inr ⟨g, 0, c, by rw [hdl], by rw [hdl]; exact hc, hg, Nat.lt_of_lt_of_le hgw hx.size, SlAt.ofHolds hHd⟩, ?_, ?_, hx.mono fun k _ e => by subst e; exact hg⟩
      · have e1 : d'.extract 0 C.length = d' := by rw [← hdl]; simp
        rw [e1] at hperm
        simpa using hperm
      · rw [List.pairwise_iff_getElem]
        intro i j hi hj hij
        have := hSo i j (Nat.zero_le _) hij (by omega)
        rw [getElem!_pos _ i (by simpa using hi), getElem!_pos _ j (by simpa using hj)] at this
        simpa [ltF] using this
      · intro _
        obtain ⟨cur', hc', hs'⟩ := block_putRowK w m g d' hb
        refine ⟨g, cur', rfl, hg, ?_, by rw [hs', hs]; omega⟩
        exact ((Ext.grow (fun _ => False) (putRowK encF 2 (Sort.ahead w m) g 0 d') os).block g (Array.getElem?_eq_some_iff.1 hc').1 id).trans hc'
      · exact (hx.block _ hlbw hlg).trans h.var

end Go.Proofs.Ytpmlmpibpmoclaa
