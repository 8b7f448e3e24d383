/-
  The row of VfsPlays, where what comes in is of bulk at most 1048576.
-/
import Derived.Test.YtpmlmpibpmoclaaPlaysWalk
import Derived.Test.YtpmlmpibpmoclaaOpen
namespace Go.Proofs.Ytpmlmpibpmoclaa
open Go.ChangeShapes Go.WideShapes Go.ChangeAt Go.RowKit
open Go.ChangeMaps (open_string shut_string)

theorem Try.cells31 : Try.prog.cellsOf 31 = 5 := by kernel_rfl
theorem Try.cells3 : Try.prog.cellsOf 3 = 1 := by kernel_rfl
theorem Try.cells26 : Try.prog.cellsOf 26 = 1 := by kernel_rfl

section
variable {H : Type} {enc : TypeId × Value → H} {W : World}

theorem bulk_pos (d : DataW H) : 1 ≤ Rows.uptoBulk d := by cases d with
  | lit l => cases l <;> simp [Rows.uptoBulk]
  | _ => simp [Rows.uptoBulk]

theorem bulkAll_len (ds : List (DataW H)) : ds.length ≤ Rows.uptoBulkAll ds := by
  induction ds with
  | nil => simp [Rows.uptoBulkAll]
  | cons d r ih => have := bulk_pos d; simp only [Rows.uptoBulkAll, List.length_cons]; omega

theorem bulkAll_mem {d : DataW H} {ds : List (DataW H)} (h : d ∈ ds) : Rows.uptoBulk d ≤ Rows.uptoBulkAll ds := by
  induction ds with
  | nil => cases h
  | cons x r ih =>
    simp only [Rows.uptoBulkAll]
    rcases List.mem_cons.1 h with rfl | h
    · omega
    · have := ih h; omega

/-- A call's five cells. -/
theorem open_call {fuel : Nat} {cs : List Value} {x : DataW H × List MemPlace} (h : DataW.trod enc Try.prog W 0 (fun _ => true) true fuel 31 cs = some x) (hbk : Rows.uptoBulk x.1 ≤ 1048576) :
    ∃ o : Cl, cs = [.int .i64 o.k, .int .i64 o.n, .string o.p, .string o.b, o.fv] ∧ o.b.size ≤ maxLen ∧ Sl (fun g => g < W.heap.size) W o.fv o.F ∧ o.F.length ≤ 1048576 ∧ ∀ p ∈ o.F, p.2.size ≤ maxLen := by
  obtain ⟨xs, n, rfl, rfl, hl, hlen, hf⟩ := DataW.trod_struct Try.underlying31 h
  rw [Try.cells31] at hl
  match cs, hl, xs, hlen with
  | [c0, c1, c2, c3, c4], _, [x0, x1, x2, x3, x4], _ =>
    have f0 : DataW.trod enc Try.prog W 0 (fun _ => true) true n 3 (([c0, c1, c2, c3, c4].drop 0).take (Try.prog.cellsOf 3)) = some x0 := hf 0 _ rfl
    have f1 : DataW.trod enc Try.prog W 0 (fun _ => true) true n 3 (([c0, c1, c2, c3, c4].drop 1).take (Try.prog.cellsOf 3)) = some x1 := hf 1 _ rfl
    have f2 : DataW.trod enc Try.prog W 0 (fun _ => true) true n 9 (([c0, c1, c2, c3, c4].drop 2).take (Try.prog.cellsOf 9)) = some x2 := hf 2 _ rfl
    have f3 : DataW.trod enc Try.prog W 0 (fun _ => true) true n 9 (([c0, c1, c2, c3, c4].drop 3).take (Try.prog.cellsOf 9)) = some x3 := hf 3 _ rfl
    have f4 : DataW.trod enc Try.prog W 0 (fun _ => true) true n 26 (([c0, c1, c2, c3, c4].drop 4).take (Try.prog.cellsOf 26)) = some x4 := hf 4 _ rfl
    rw [Try.cells3] at f0 f1
    rw [Try.cells9] at f2 f3
    rw [Try.cells26] at f4
    obtain ⟨k, e0, _, _⟩ := DataW.trod_int Try.underlying3 f0
    obtain ⟨m, e1, _, _⟩ := DataW.trod_int Try.underlying3 f1
    obtain ⟨p, e2, _, _⟩ := DataW.trod_string Try.underlying9 f2
    obtain ⟨b, e3, _, mb⟩ := DataW.trod_string Try.underlying9 f3
    obtain ⟨v, F, e4, hs, hm, hd⟩ := files_cells f4
    simp at e0 e1 e2 e3 e4
    subst e0 e1 e2 e3 e4
    refine ⟨⟨k, m, p, b, c4, F⟩, rfl, mb, hs, ?_, hm⟩
    simp only [List.map_cons, List.map_nil, Rows.uptoBulk, Rows.uptoBulkAll] at hbk
    rcases hd with ⟨_, rfl⟩ | ⟨sp, hd⟩
    · simp
    · rw [hd] at hbk
      simp only [Rows.uptoBulk] at hbk
      have := bulkAll_len (F.map (fileD (H := H)))
      rw [List.length_map] at this
      simp only
      omega

theorem open_script {v : Value} {d : DataW H} {ps : List MemPlace} {b0 : Nat} (hval : Value.okWide Try.prog W .any b0 22 v) (h : DataW.Trod enc Try.prog W 0 (fun _ => true) true 22 v d ps) (hbk : Rows.uptoBulk d ≤ 1048576) :
    ∃ R, Script W v R ∧ R.length ≤ 1048576 := by
  obtain ⟨a0, len, cap, rfl⟩ := okWide_slice Try.underlying22 hval
  obtain ⟨fuel, hf⟩ := h
  rcases Deep.open_slice Try.underlying22 hf with ⟨hcs, hx⟩ | ⟨a, len', cap', m, n, D, Pl, hcs, hb, hl, hm, hmm, hx, hc⟩
  · simp [Value.cells] at hcs
    obtain ⟨rfl, rfl, rfl⟩ := hcs
    exact ⟨[], ⟨none, 0, rfl, fun i h => by simp at h⟩, by simp⟩
  · simp [Value.cells] at hcs
    obtain ⟨rfl, rfl, rfl⟩ := hcs
    simp only [if_true] at hmm
    subst hmm
    simp only [Prod.mk.injEq] at hx
    obtain ⟨rfl, _⟩ := hx
    simp only [Rows.uptoBulk] at hbk
    have hll := bulkAll_len ((List.range len).map D)
    rw [List.length_map, List.length_range] at hll
    rw [Try.cells31] at hc
    have key : ∀ i, i < len → ∃ o : Cl, (∀ j c, [Value.int .i64 o.k, .int .i64 o.n, .string o.p, .string o.b, o.fv][j]? = some c → W.cell? ((a.add (i * 5)).add j) = some c) ∧ o.b.size ≤ maxLen ∧
        Sl (fun g => g < W.heap.size) W o.fv o.F ∧ o.F.length ≤ 1048576 ∧ ∀ p ∈ o.F, p.2.size ≤ maxLen := fun i hi => by
      obtain ⟨cs', h1, h2⟩ := hc i (by omega)
      have hbi : Rows.uptoBulk (D i) ≤ 1048576 := by
        have := bulkAll_mem (d := D i) (ds := (List.range len).map D) (List.mem_map.2 ⟨i, List.mem_range.2 hi, rfl⟩)
        omega
      obtain ⟨o, rfl, r⟩ := open_call h2 hbi
      obtain ⟨_, _, hcc⟩ := World.cells?_some h1
      refine ⟨o, fun j c hj => ?_, r⟩
      have hj5 : j < 5 := by have := (List.getElem?_eq_some_iff.1 hj).1; simpa using this
      rw [hcc j hj5]; exact hj
    have hin : Inhabited Cl := ⟨⟨0, 0, ByteArray.empty, ByteArray.empty, .bool false, []⟩⟩
    obtain ⟨f, hf'⟩ := Deep.choose_lt (α := Cl) (h := key)
    refine ⟨(List.range len).map f, ⟨some a, m, by simp, fun i hi => ?_⟩, by simp; omega⟩
    have hi' : i < len := by simpa using hi
    obtain ⟨hcell, hb', hs, hF, hw⟩ := hf' i hi'
    have hs0 : a.spot = none := by
      have := (hf' 0 (by omega)).1 0 _ rfl
      exact spot_none (by simpa [Addr.add] using this)
    have e : ∀ j, (a.add (i * 5)).add j = ⟨a.block, a.off + i * 5 + j, none⟩ := fun j => by
      rw [add_off _ _ hs0, add_off _ _ rfl]
    simp only [List.getElem_map, List.getElem_range]
    refine ⟨a.block, a.off, by cases a; simp at hs0; simp [hs0], ?_, ?_, ?_, ?_, ?_, ?_, hs, by omega, fun p hp => ?_⟩
    · have := hcell 0 _ rfl; rwa [e] at this
    · have := hcell 1 _ rfl; rwa [e] at this
    · have := hcell 2 _ rfl; rwa [e] at this
    · have := hcell 3 _ rfl; rwa [e] at this
    · have := hcell 4 _ rfl; rwa [e] at this
    · unfold maxLen at hb'; omega
    · have := hw p hp; unfold maxLen at this; omega
end

set_option maxRecDepth 100000 in
theorem vfsPlays_lifted (os : Os) (started : os.Started) (H : Type) (enc : TypeId × Value → H) (F : Stop.Interp) :
    ReturnsInHanded {} Try.checked os 3 .any ((Rows.OpenSpec.upto Rows.vfsPlaysSpec).pre6 enc Try.prog Try.f3 Rows.vfsPlaysUptoRow.domain false) (((Rows.OpenSpec.upto Rows.vfsPlaysSpec).at F).post enc Try.prog Try.f3 false true false false) := by
  refine returnsInHanded_of_cond (C := Try.checked) (s := Rows.OpenSpec.upto Rows.vfsPlaysSpec) (k := Rows.uptoSmall) rfl Try.own started (by kernel_rfl) Try.func3
    (OpenSpec.witness (enc := enc) (C := Try.checked) (s := Rows.OpenSpec.upto Rows.vfsPlaysSpec) (k := Rows.uptoSmall) rfl false ⟨#[], #[.slice none 0 0], []⟩ 8 (by kernel_rfl) (by kernel_rfl) (by kernel_rfl)
      (x := ([.nil], [], [])) (by kernel_rfl) rfl (by kernel_rfl)) ?_
  intro W base args ds gs before hval0 hW _ hk _
  have hval : ∀ (j : Nat) t v, Try.f3.params[j]? = some t → args[j]? = some v → Value.okWide Try.prog W .any base t v := hval0
  have hW' := hW
  obtain ⟨p, q, hA0, hV, rfl, hfz, hnd⟩ := hW
  have hA : DataW.TrodAll enc Try.prog W 0 (fun _ => true) true Try.f3.params.toList args.toList ds p := hA0
  rw [Try.params3] at hA hval
  obtain ⟨v0, d0, rfl, rfl, h0⟩ := trodAll_one hA
  obtain ⟨rfl, rfl⟩ := trodVars_none hV
  have hbk : Rows.uptoBulk d0 ≤ 1048576 := by
    have h : Rows.uptoBulkAll ([d0] ++ []) ≤ 1048576 := of_decide_eq_true hk
    simp only [List.append_nil, Rows.uptoBulkAll] at h
    omega
  obtain ⟨R, hR, hl⟩ := open_script (hval 0 22 v0 rfl rfl) h0 hbk
  clear hA0 hval0
  simp only [List.append_nil] at hW'
  have hlt : ∀ x ∈ p, x.block < W.heap.size := fun x hx => by simpa using hW'.lt x hx
  refine (vfsPlays_walk W v0 R hR (by omega)).mono fun e W' ⟨he, hx⟩ => ?_
  subst he
  have hnx : Below W.heap.size W W' := hx.below (Nat.le_refl _) (fun _ _ h => h.elim)
  refine ⟨_, rfl, _, _, _, [], p, [], hW', ?_, ?_, rfl, hnx.frame _, fun h => by cases h⟩
  · exact trodAll_mk1 (shut_bool Try.underlying4 _)
  · exact trodAll_mk1 (Below.trod Try.laidOut (by kernel_rfl) (of_decide_eq_true (by kernel_rfl)) h0 hnx hlt)

theorem vfsPlays_proved : Rows.VfsPlaysUptoSaid :=
  OpenClaim.holds_of_cond 3 Try.f3 rfl rfl rfl rfl rfl rfl rfl ⟨rfl, rfl, rfl, rfl, rfl⟩ rfl rfl rfl rfl rfl (by kernel_rfl) Try.func3 (by kernel_rfl)
    (of_decide_eq_true (by kernel_rfl)) (by unfold Func.isWrapper; first | (rw [if_pos (by decide +kernel)]; kernel_rfl) | (rw [if_neg (by decide +kernel)]; exact ⟨rfl, rfl⟩))
    (fun os started H enc _ F => vfsPlays_lifted os started H enc F)
#print axioms vfsPlays_proved

end Go.Proofs.Ytpmlmpibpmoclaa
