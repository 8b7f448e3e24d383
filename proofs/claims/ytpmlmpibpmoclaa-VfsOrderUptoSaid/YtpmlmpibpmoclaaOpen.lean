/-
  What comes in, opened: a list of files.
-/
import Derived.Test.YtpmlmpibpmoclaaSure
import Derived.Test.YtpmlmpibpmoclaaRows
import Derived.ProofKit
import Derived.Deep.Slices
import Derived.SizedLaws
import Derived.OpenShut
import Derived.JoinedCond
import Derived.Carry
namespace Go.Proofs.Ytpmlmpibpmoclaa
open Go.ChangeShapes Go.WideShapes Go.ChangeAt Go.RowKit
open Go.ChangeMaps (open_string shut_string)

theorem Try.own : ownKnob Try.prog.godebug = none := by kernel_rfl
theorem Try.laidOut : laidOutB Try.prog = true := by kernel_rfl
theorem Try.cells44 : Try.prog.cellsOf 44 = 2 := by kernel_rfl
theorem Try.cells9 : Try.prog.cellsOf 9 = 1 := by kernel_rfl
theorem Try.bytes44 : Try.prog.bytesOf 44 = 32 := by kernel_rfl

section
variable {H : Type} {enc : TypeId × Value → H} {W : World}

theorem add_off (a : Addr) (i : Nat) (h : a.spot = none) : a.add i = ⟨a.block, a.off + i, none⟩ := by
  unfold Addr.add
  split
  · rename_i h0; subst h0; cases a; simp at h; simp [h]
  · rfl

theorem spot_none {a : Addr} {v : Value} (h : W.cell? a = some v) : a.spot = none := by
  unfold World.cell? at h
  split at h
  · split at h
    · cases h
    · rename_i hs; simpa using hs
  · cases h

/-- A file's two cells. -/
theorem open_file {fuel : Nat} {cs : List Value} {x : DataW H × List MemPlace} (h : DataW.trod enc Try.prog W 0 (fun _ => true) true fuel 44 cs = some x) :
    ∃ p : Fl, cs = [.string p.1, .string p.2] ∧ p.1.size ≤ maxLen ∧ p.2.size ≤ maxLen ∧ x.1 = .agg [.lit (.string p.1.data.toList), .lit (.string p.2.data.toList)] := by
  obtain ⟨y0, y1, n, rfl, hl, h0, h1⟩ := trod_struct2 Try.underlying44 h
  rw [Try.cells44] at hl
  match cs, hl with
  | [c0, c1], _ =>
    rw [Try.cells9] at h0 h1
    obtain ⟨s0, e0, rfl, m0⟩ := DataW.trod_string Try.underlying9 h0
    obtain ⟨s1, e1, rfl, m1⟩ := DataW.trod_string Try.underlying9 h1
    simp at e0 e1
    exact ⟨(s0, s1), by rw [e0, e1], m0, m1, rfl⟩

/-- A file as data. -/
def fileD (p : Fl) : DataW H := .agg [.lit (.string p.1.data.toList), .lit (.string p.2.data.toList)]

/-- The cells of a slice of files, of whatever reading. -/
theorem files_cells {fuel : Nat} {cs : List Value} {x : DataW H × List MemPlace} (h : DataW.trod enc Try.prog W 0 (fun _ => true) true fuel 26 cs = some x) :
    ∃ v F, cs = [v] ∧ Sl (fun g => g < W.heap.size) W v F ∧ (∀ q ∈ F, q.2.size ≤ maxLen) ∧ ((x.1 = .nil ∧ F = []) ∨ ∃ sp, x.1 = .slice (F.map fileD) sp) := by
  rcases Deep.open_slice Try.underlying26 h with ⟨rfl, rfl⟩ | ⟨a, len, cap, m, n, D, Pl, rfl, hb, hl, hm, hmm, rfl, hx⟩
  · exact ⟨_, [], rfl, .inl ⟨rfl, none, 0, rfl, fun _ => rfl⟩, by simp, .inl ⟨rfl, rfl⟩⟩
  · simp only [if_true] at hmm
    subst hmm
    rw [Try.cells44] at hx
    have key : ∀ i, i < len → ∃ p : Fl, W.cell? (a.add (i * 2)) = some (.string p.1) ∧ W.cell? ((a.add (i * 2)).add 1) = some (.string p.2) ∧ p.2.size ≤ maxLen ∧ D i = fileD p := fun i hi => by
      obtain ⟨cs', h1, h2⟩ := hx i (by omega)
      obtain ⟨p, rfl, _, m1, e⟩ := open_file h2
      obtain ⟨_, _, hc⟩ := World.cells?_some h1
      exact ⟨p, by simpa [Addr.add] using hc 0 (by omega), by simpa using hc 1 (by omega), m1, e⟩
    obtain ⟨f, hf⟩ := Deep.choose_lt key
    refine ⟨_, (List.range len).map f, rfl, ?_, ?_, .inr ⟨(List.range (m - len)).map fun j => D (len + j), ?_⟩⟩
    · by_cases h0 : len = 0
      · subst h0
        exact .inl ⟨rfl, some a, m, rfl, fun h => by cases h⟩
      · have hs : a.spot = none := spot_none (by simpa [Addr.add] using (hf 0 (by omega)).1)
        refine .inr ⟨a.block, a.off, m, ?_, by simpa using hl, ?_, ?_, ?_⟩
        · cases a; simp at hs; simp [hs]
        · exact cell_lt (hf 0 (by omega)).1 |> fun h => by simpa [Addr.add] using h
        · exact cell_lt (hf 0 (by omega)).1 |> fun h => by simpa [Addr.add] using h
        · intro j u hj
          have hj' : j < len * 2 := by
            have := (List.getElem?_eq_some_iff.1 hj).1
            rw [cellsOf_length] at this; simpa using this
          have hi : j / 2 < len := by omega
          have hil : j / 2 < ((List.range len).map f).length := by simpa using hi
          have g0 := cellsOf_get0 hil
          have g1 := cellsOf_get1 hil
          obtain ⟨c0, c1, _, _⟩ := hf _ hi
          rw [add_off _ _ hs] at c0 c1
          rw [add_off _ _ rfl] at c1
          simp only [Nat.add_assoc] at c1
          rcases Nat.mod_two_eq_zero_or_one j with hmod | hmod
          · have e : j / 2 * 2 = j := by omega
            rw [e] at g0 c0
            rw [g0] at hj; cases hj
            simpa using c0
          · have e : j / 2 * 2 + 1 = j := by omega
            rw [e] at g1 c1
            rw [g1] at hj; cases hj
            simpa using c1
    · intro q hq
      simp only [List.mem_map, List.mem_range] at hq
      obtain ⟨i, hi, rfl⟩ := hq
      exact (hf i hi).2.2.1
    · show DataW.slice _ _ = _
      rw [List.map_map]
      congr 1
      exact List.map_congr_left fun i hi => (hf i (List.mem_range.1 hi)).2.2.2

theorem open_files {v : Value} {d : DataW H} {ps : List MemPlace} {b0 : Nat} (hval : Value.okWide Try.prog W .any b0 26 v) (h : DataW.Trod enc Try.prog W 0 (fun _ => true) true 26 v d ps) :
    ∃ F, Sl (fun g => g < W.heap.size) W v F ∧ (∀ q ∈ F, q.2.size ≤ maxLen) ∧ ((d = .nil ∧ F = []) ∨ ∃ sp, d = .slice (F.map fileD) sp) := by
  obtain ⟨a0, len, cap, rfl⟩ := okWide_slice Try.underlying26 hval
  obtain ⟨fuel, hf⟩ := h
  obtain ⟨v', F, e, hs, hm, hd⟩ := files_cells hf
  simp [Value.cells] at e
  subst e
  exact ⟨F, hs, hm, hd⟩

theorem files_len {ts : List TypeId} {ds : List (DataW H)} {j : Nat} {F : List Fl} {d : DataW H} (hsz : (DataW.weightsEach Try.prog ts ds).all (· ≤ reachBytes) = true) (ht : ts[j]? = some 26) (hd : ds[j]? = some d)
    (h : (d = .nil ∧ F = []) ∨ ∃ sp, d = .slice (F.map fileD) sp) : F.length ≤ 4398046510976 := by
  rcases h with ⟨_, rfl⟩ | ⟨sp, rfl⟩
  · simp
  · have := sized_slice hsz ht hd Try.underlying26
    rw [Try.bytes44] at this
    simp only [List.length_map, reachBytes] at this
    omega

end

end Go.Proofs.Ytpmlmpibpmoclaa
