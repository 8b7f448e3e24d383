/-
  A slice of files in memory: what it holds, what stays of it, what slicing and append make of it.
-/
import Derived.Test.YtpmlmpibpmoclaaBase
namespace Go.Proofs.Ytpmlmpibpmoclaa
open Go.RowKit

/-- The cells of files: path, bytes, path, bytes, .. -/
def cellsOf (S : List Fl) : List Value := S.flatMap fun p => [.string p.1, .string p.2]

theorem cellsOf_length (S : List Fl) : (cellsOf S).length = S.length * 2 := by
  induction S with
  | nil => rfl
  | cons p r ih => simp [cellsOf] at *; omega

theorem cellsOf_append (S T : List Fl) : cellsOf (S ++ T) = cellsOf S ++ cellsOf T := by simp [cellsOf]

theorem cellsOf_one (S : List Fl) : ∀ u ∈ cellsOf S, u.oneCell' = true := by
  intro u hu
  simp [cellsOf] at hu
  obtain ⟨a, b, _, rfl | rfl⟩ := hu <;> rfl

theorem cellsOf_get0 {S : List Fl} {i : Nat} (h : i < S.length) : (cellsOf S)[i * 2]? = some (.string S[i].1) := by
  induction S generalizing i with
  | nil => simp at h
  | cons p r ih =>
    cases i with
    | zero => simp [cellsOf]
    | succ i =>
      have e : (i + 1) * 2 = i * 2 + 1 + 1 := by omega
      have h' := ih (i := i) (by simpa using h)
      simp only [cellsOf, List.flatMap_cons, List.cons_append, List.nil_append, e, List.getElem?_cons_succ, List.getElem_cons_succ] at *
      exact h'

theorem cellsOf_get1 {S : List Fl} {i : Nat} (h : i < S.length) : (cellsOf S)[i * 2 + 1]? = some (.string S[i].2) := by
  induction S generalizing i with
  | nil => simp at h
  | cons p r ih =>
    cases i with
    | zero => simp [cellsOf]
    | succ i =>
      have e : (i + 1) * 2 = i * 2 + 1 + 1 := by omega
      have h' := ih (i := i) (by simpa using h)
      simp only [cellsOf, List.flatMap_cons, List.cons_append, List.nil_append, e, List.getElem?_cons_succ, List.getElem_cons_succ] at *
      exact h'

theorem cellsOf_take (S : List Fl) (k : Nat) : cellsOf (S.take k) = (cellsOf S).take (k * 2) := by
  induction S generalizing k with
  | nil => simp [cellsOf]
  | cons p r ih =>
    cases k with
    | zero => simp [cellsOf]
    | succ k =>
      have e : (k + 1) * 2 = k * 2 + 1 + 1 := by omega
      have := ih k
      simp only [cellsOf, List.take_succ_cons, List.flatMap_cons, List.cons_append, List.nil_append, e] at *
      rw [this]

theorem cellsOf_drop (S : List Fl) (k : Nat) : cellsOf (S.drop k) = (cellsOf S).drop (k * 2) := by
  induction S generalizing k with
  | nil => simp [cellsOf]
  | cons p r ih =>
    cases k with
    | zero => simp
    | succ k =>
      have e : (k + 1) * 2 = k * 2 + 1 + 1 := by omega
      have := ih k
      simp only [cellsOf, List.drop_succ_cons, List.flatMap_cons, List.cons_append, List.nil_append, e] at *
      rw [this]

/-- From the place ⟨g, o⟩ on lie the files S. -/
def SlAt (w : World) (g o : Nat) (S : List Fl) : Prop := ∀ j u, (cellsOf S)[j]? = some u → w.cell? ⟨g, o + j, none⟩ = some u

/-- The slice value v holds the files S in w; its memory is in a block of Y. -/
def Sl (Y : Nat → Prop) (w : World) (v : Value) (S : List Fl) : Prop :=
  (S = [] ∧ ∃ p c, v = .slice p 0 c ∧ (p = none → c = 0)) ∨ ∃ g o c, v = .slice (some ⟨g, o, none⟩) S.length c ∧ S.length ≤ c ∧ Y g ∧ g < w.heap.size ∧ SlAt w g o S

theorem SlAt.at0 {w : World} {g o : Nat} {S : List Fl} (h : SlAt w g o S) {i : Nat} (hi : i < S.length) : w.cell? ⟨g, o + i * 2, none⟩ = some (.string S[i].1) := h _ _ (cellsOf_get0 hi)
theorem SlAt.at1 {w : World} {g o : Nat} {S : List Fl} (h : SlAt w g o S) {i : Nat} (hi : i < S.length) : w.cell? ⟨g, o + i * 2 + 1, none⟩ = some (.string S[i].2) := h _ _ (cellsOf_get1 hi)

theorem SlAt.keep {w w' : World} {g o : Nat} {S : List Fl} (h : SlAt w g o S) {X : Nat → Prop} (hx : Ext X w w') (hg : g < w.heap.size) (hn : ¬ X g) : SlAt w' g o S := fun j u hj => by
  rw [World.cell?_of_block (w := w) (a := ⟨g, o + j, none⟩) (hx.block g hg hn)]; exact h j u hj

theorem Sl.keep {Y : Nat → Prop} {w w' : World} {v : Value} {S : List Fl} (h : Sl Y w v S) {X : Nat → Prop} (hx : Ext X w w') (hn : ∀ g, Y g → g < w.heap.size → ¬ X g) : Sl Y w' v S := by
  rcases h with h | ⟨g, o, c, hv, hc, hy, hg, ha⟩
  · exact .inl h
  · exact .inr ⟨g, o, c, hv, hc, hy, Nat.lt_of_lt_of_le hg hx.size, ha.keep hx hg (hn g hy hg)⟩

theorem Sl.mono {Y Z : Nat → Prop} {w : World} {v : Value} {S : List Fl} (h : Sl Y w v S) (hz : ∀ g, g < w.heap.size → Y g → Z g) : Sl Z w v S := by
  rcases h with h | ⟨g, o, c, hv, hc, hy, hg, ha⟩
  · exact .inl h
  · exact .inr ⟨g, o, c, hv, hc, hz g hg hy, hg, ha⟩

theorem SlAt.take {w : World} {g o : Nat} {S : List Fl} (h : SlAt w g o S) (k : Nat) : SlAt w g o (S.take k) := fun j u hj => by
  rw [cellsOf_take, List.getElem?_take] at hj
  split at hj
  · exact h j u hj
  · cases hj

theorem SlAt.drop {w : World} {g o : Nat} {S : List Fl} (h : SlAt w g o S) (k : Nat) : SlAt w g (o + k * 2) (S.drop k) := fun j u hj => by
  rw [cellsOf_drop, List.getElem?_drop] at hj
  rw [Nat.add_assoc]
  exact h _ u hj

/-- A slice that the call owns holds what it owns. -/
theorem Sl.ofOwn {w : World} {base : Nat} {v : Value} {S : List Fl} (h : w.ownsRow base 44 2 v S.length (cellsOf S)) : Sl (fun g => base ≤ g) w v S := by
  rcases h.2 with ⟨hv, hn⟩ | ⟨g, cap, cur, hv, hg, hb, hc, _, hs, ht⟩
  · exact .inl ⟨List.length_eq_zero_iff.1 hn, none, 0, hv, fun _ => rfl⟩
  · refine .inr ⟨g, 0, cap, hv, hc, hg, (Array.getElem?_eq_some_iff.1 hb).1, fun j u hj => ?_⟩
    simp only [Nat.zero_add]
    have h1 : cur.toList[j]? = some u := by
      rw [← ht] at hj
      rw [List.getElem?_take] at hj
      split at hj
      · exact hj
      · cases hj
    simp [World.cell?, hb]
    simpa using h1

section
variable {P : Program} {t e : TypeId} {i : TypeInfo} {w : World} {Y : Nat → Prop} {v : Value} {S : List Fl}

/-- 'l[:k]'. -/
theorem Sl.runTake (h : Sl Y w v S) (ht : P.underlying t = some (.slice e)) (hi : P.info? e = some i) {k : Nat} (hk : k ≤ S.length) :
    ∃ v', (∀ w', (Instr.slice t v none (some (.int .i64 k)) none).run P w' = .ok v' w') ∧ Sl Y w v' (S.take k) := by
  have hmin : min k S.length = k := Nat.min_eq_left hk
  rcases h with ⟨rfl, p, c, rfl, hpc⟩ | ⟨g, o, c, rfl, hc, hy, hg, ha⟩
  · obtain rfl : k = 0 := by simpa using hk
    refine ⟨.slice p 0 c, fun w' => ?_, .inl ⟨rfl, p, c, rfl, hpc⟩⟩
    cases p with
    | none =>
      obtain rfl := hpc rfl
      simp [Instr.slice, Instr.sliceBounds, Instr.sliceBound, run_underlying ht, sizeOf, typeInfo, hi, Result.andThen, asIntOf]
    | some a => simp [Instr.slice, Instr.sliceBounds, Instr.sliceBound, run_underlying ht, sizeOf, typeInfo, hi, Result.andThen, asIntOf, Addr.add]
  · refine ⟨.slice (some ⟨g, o, none⟩) k c, fun w' => ?_, .inr ⟨g, o, c, by rw [List.length_take, hmin], by rw [List.length_take, hmin]; omega, hy, hg, ha.take k⟩⟩
    have h2 : k ≤ c := by omega
    simp [Instr.slice, Instr.sliceBounds, Instr.sliceBound, run_underlying ht, sizeOf, typeInfo, hi, Result.andThen, asIntOf, h2, Addr.add]

/-- 'l[k:]'. -/
theorem Sl.runDrop (h : Sl Y w v S) (ht : P.underlying t = some (.slice e)) (hi : P.info? e = some i) (hs : i.size = 2) {k : Nat} (hk : k ≤ S.length) :
    ∃ v', (∀ w', (Instr.slice t v (some (.int .i64 k)) none none).run P w' = .ok v' w') ∧ Sl Y w v' (S.drop k) := by
  rcases h with ⟨rfl, p, c, rfl, hpc⟩ | ⟨g, o, c, rfl, hc, hy, hg, ha⟩
  · obtain rfl : k = 0 := by simpa using hk
    refine ⟨.slice p 0 c, fun w' => ?_, .inl ⟨rfl, p, c, rfl, hpc⟩⟩
    cases p with
    | none =>
      obtain rfl := hpc rfl
      simp [Instr.slice, Instr.sliceBounds, Instr.sliceBound, run_underlying ht, sizeOf, typeInfo, hi, Result.andThen, asIntOf]
    | some a => simp [Instr.slice, Instr.sliceBounds, Instr.sliceBound, run_underlying ht, sizeOf, typeInfo, hi, Result.andThen, asIntOf, Addr.add]
  · by_cases hck : c = k
    · have hl : S.length = k := by omega
      refine ⟨.slice (some ⟨g, o, none⟩) (S.length - k) (c - k), fun w' => ?_, .inr ⟨g, o, c - k, by rw [List.length_drop], by rw [List.length_drop]; omega, hy, hg, ?_⟩⟩
      · simp [Instr.slice, Instr.sliceBounds, Instr.sliceBound, run_underlying ht, sizeOf, typeInfo, hi, Result.andThen, asIntOf, hk, hck]
      · rw [List.drop_eq_nil_of_le (by omega)]
        intro j u hj; simp [cellsOf] at hj
    · refine ⟨.slice (some (if k = 0 then ⟨g, o, none⟩ else ⟨g, o + k * 2, none⟩)) (S.length - k) (c - k), fun w' => ?_, .inr ⟨g, o + k * 2, c - k, ?_, by rw [List.length_drop]; omega, hy, hg, ha.drop k⟩⟩
      · simp [Instr.slice, Instr.sliceBounds, Instr.sliceBound, run_underlying ht, sizeOf, typeInfo, hi, Result.andThen, asIntOf, hk, hck, hs, Addr.add]
        by_cases h0 : k = 0
        · simp [h0]
        · rw [if_neg h0, if_neg (by omega)]
      · rw [List.length_drop]
        by_cases h0 : k = 0
        · subst h0; simp
        · simp [h0]

/-- 'append(l, x...)', l the call's own. -/
theorem Sl.runAppend {base : Nat} {z : Value} {d : Value} {D : List Fl} (hd : w.ownsRow base e 2 d D.length (cellsOf D)) (h : Sl Y w v S)
    (ht : P.underlying t = some (.slice e)) (hi : P.info? e = some i) (hz : i.zero = some z) (hs : i.size = 2) (hby : i.bytes = 32) (hzs : z.cells.size = 2) (ty : TypeId) (hlen : D.length + S.length ≤ 4398046511104) (hbase : base ≤ w.heap.size) :
    ∃ v' w', (Builtin.append_ #[t, t] ty #[d, v]).run P w = .ok v' w' ∧ w'.ownsRow base e 2 v' (D ++ S).length (cellsOf (D ++ S)) ∧ w.grownBy w' d.ownBlock := by
  rcases h with ⟨rfl, p, c, rfl, hpc⟩ | ⟨g, o, c, rfl, hc, hy, hg, ha⟩
  · cases p with
    | none =>
      obtain rfl := hpc rfl
      exact ⟨d, w, run_append_owned_none w base t ty e i 2 ht hi d _ _ hd, by simpa using hd, ⟨rfl, rfl, rfl, Nat.le_refl _, fun _ _ _ => rfl⟩⟩
    | some a =>
      obtain ⟨v', w', h1, h2, h3, _⟩ := run_append_own (P := P) w base t ty e i z 2 32 ht hi hz hs hby hzs (by decide) d D.length (cellsOf D) hd a 0 c [] rfl
        (fun j u hj => by simp at hj) (fun u hu => by simp at hu) (by unfold maxLen; simp at hlen; omega) (by omega) hbase
      exact ⟨v', w', h1, by simpa using h2, h3⟩
  · obtain ⟨v', w', h1, h2, h3, _⟩ := run_append_own (P := P) w base t ty e i z 2 32 ht hi hz hs hby hzs (by decide) d D.length (cellsOf D) hd ⟨g, o, none⟩ S.length c (cellsOf S) (cellsOf_length S)
      (fun j u hj => by
        have := ha j u hj
        unfold Addr.add
        split
        · rename_i h0; subst h0; simpa using this
        · exact this) (cellsOf_one S) (by unfold maxLen; omega) (by omega) hbase
    exact ⟨v', w', h1, by rw [List.length_append, cellsOf_append]; exact h2, h3⟩

end

theorem own_nil (w : World) (base : Nat) : w.ownsRow base 44 2 (.slice none 0 0) ([] : List Fl).length (cellsOf []) := ⟨rfl, .inl ⟨rfl, rfl⟩⟩

theorem own_keep {w w' : World} {base : Nat} {v : Value} {n : Nat} {xs : List Value} (h : w.ownsRow base 44 2 v n xs) {X : Nat → Prop} (hx : Ext X w w') (hn : ∀ g, base ≤ g → g < w.heap.size → ¬ X g) : w'.ownsRow base 44 2 v n xs := by
  obtain ⟨h1, h2⟩ := h
  refine ⟨h1, ?_⟩
  rcases h2 with h2 | ⟨g, cap, cur, hv, hg, hb, r⟩
  · exact .inl h2
  · have hlt := (Array.getElem?_eq_some_iff.1 hb).1
    exact .inr ⟨g, cap, cur, hv, hg, (hx.block g hlt (hn g hg hlt)).trans hb, r⟩

theorem Try.info44 : (Try.prog.info? 44).map (fun i => (i.zero, i.size, i.bytes)) = some (some (.agg #[.string ByteArray.empty, .string ByteArray.empty]), 2, 32) := by kernel_rfl

end Go.Proofs.Ytpmlmpibpmoclaa
