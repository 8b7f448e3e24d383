/-
  The row of VfsBack.
-/
import Derived.Test.YtpmlmpibpmoclaaBackWalk
import Derived.Test.YtpmlmpibpmoclaaOpen
import Derived.SliceStrings
namespace Go.Proofs.Ytpmlmpibpmoclaa
open Go.ChangeShapes Go.WideShapes Go.ChangeAt Go.RowKit
open Go.ChangeMaps (open_string shut_string)

theorem Try.bytes9 : Try.prog.bytesOf 9 = 16 := by kernel_rfl

section
variable {H : Type} {enc : TypeId × Value → H} {W : World}

theorem open_one {v : Value} {d : DataW H} {ps : List MemPlace} {b0 : Nat} (hval : Value.okWide Try.prog W .any b0 44 v) (h : DataW.Trod enc Try.prog W 0 (fun _ => true) true 44 v d ps) :
    ∃ k b : ByteArray, v = .agg #[.string k, .string b] ∧ b.size ≤ maxLen := by
  obtain ⟨cs, rfl, hn⟩ := okWide_struct Try.underlying44 hval
  obtain ⟨fuel, hf⟩ := h
  obtain ⟨p, e, _, hm, _⟩ := open_file hf
  exact ⟨p.1, p.2, by
    have : cs.toList = [.string p.1, .string p.2] := by simpa [Value.cells] using e
    have h2 : cs = #[.string p.1, .string p.2] := Array.toList_inj.1 this
    rw [h2], hm⟩

theorem open_strs {v : Value} {d : DataW H} {ps : List MemPlace} {b0 : Nat} (hval : Value.okWide Try.prog W .any b0 45 v) (h : DataW.Trod enc Try.prog W 0 (fun _ => true) true 45 v d ps) :
    ∃ L, Strs W v L ∧ ((d = .nil ∧ L = []) ∨ ∃ es sp, d = .slice es sp ∧ es.length = L.length) := by
  obtain ⟨a0, len, cap, rfl⟩ := okWide_slice Try.underlying45 hval
  obtain ⟨fuel, hf⟩ := h
  rcases open_strings Try.underlying45 Try.underlying9 Try.cells9 hf with ⟨hcs, hx⟩ | ⟨a, len', cap', ss, hcs, _, hl, hm, hz, hx, hcell, hws⟩
  · simp [Value.cells] at hcs
    obtain ⟨rfl, rfl, rfl⟩ := hcs
    simp only [Prod.mk.injEq] at hx
    exact ⟨[], ⟨none, 0, rfl, fun i h => by simp at h⟩, .inl ⟨hx.1, rfl⟩⟩
  · simp [Value.cells] at hcs
    obtain ⟨rfl, rfl, rfl⟩ := hcs
    simp only [if_true] at hz
    simp only [Prod.mk.injEq] at hx
    have hlen : (ss.take len).length = len := by rw [List.length_take]; omega
    refine ⟨ss.take len, ⟨some a, cap, by rw [hlen], fun i hi => ?_⟩, .inr ⟨_, _, hx.1, by simp [strs]⟩⟩
    have hi' : i < len := by omega
    have hs : a.spot = none := spot_none (by simpa [Addr.add] using hcell 0 (by omega))
    have hc := hcell i (by omega)
    rw [add_off _ _ hs] at hc
    refine ⟨a.block, a.off, by cases a; simp at hs; simp [hs], ?_⟩
    rw [hc, List.getElem_take]
    simp [List.getD, show i < ss.length by omega]
end

set_option maxRecDepth 100000 in
theorem vfsBack_lifted (os : Os) (started : os.Started) (H : Type) (enc : TypeId × Value → H) :
    ReturnsInHanded {} Try.checked os 5 .any (Rows.vfsBackSpec.pre6 enc Try.prog Try.f5 Rows.vfsBackRow.domain false) (Rows.vfsBackSpec.post enc Try.prog Try.f5 false true false false) := by
  refine returnsInHanded_of_change_sized (C := Try.checked) Try.own started (by kernel_rfl) Try.func5
    (ChangeSpec.witness6 (enc := enc) (C := Try.checked) false ⟨#[], #[.slice none 0 0, .agg #[.string .empty, .string .empty], .slice none 0 0], []⟩ 8 (by kernel_rfl) (by kernel_rfl) (by kernel_rfl) (by kernel_rfl)) ?_
  intro W base args ds gs before hval0 hW _ hsz0 _
  have hsz : (DataW.weightsEach Try.prog (Try.f5.params.toList ++ Rows.vfsBackSpec.plain.varTypes Try.prog) (ds ++ gs)).all (· ≤ reachBytes) = true := hsz0
  have hval : ∀ (j : Nat) t v, Try.f5.params[j]? = some t → args[j]? = some v → Value.okWide Try.prog W .any base t v := hval0
  have hW' := hW
  obtain ⟨p, q, hA0, hV, rfl, hfz, hnd⟩ := hW
  have hA : DataW.TrodAll enc Try.prog W 0 (fun _ => true) true Try.f5.params.toList args.toList ds p := hA0
  rw [Try.params5] at hA hval hsz
  obtain ⟨v0, v1, v2, d0, d1, d2, p0, p1, p2, rfl, rfl, rfl, h0, h1, h2⟩ := trodAll_three hA
  obtain ⟨rfl, rfl⟩ := trodVars_none hV
  simp only [List.append_nil] at hW'
  have hlt : ∀ x, x ∈ p0 ∨ x ∈ p1 ∨ x ∈ p2 → x.block < W.heap.size := fun x hx => by simpa using hW'.lt x (by simpa [or_assoc] using hx)
  obtain ⟨F, hF, hm, hd⟩ := open_files (hval 0 26 v0 rfl rfl) h0
  obtain ⟨k, b, rfl, hb⟩ := open_one (hval 1 44 v1 rfl rfl) h1
  obtain ⟨L, hL, hdL⟩ := open_strs (hval 2 45 v2 rfl rfl) h2
  have hlen : F.length ≤ 4398046510976 := files_len hsz (j := 0) rfl rfl hd
  have hlenL : L.length ≤ 4611686018427387904 := by
    rcases hdL with ⟨_, rfl⟩ | ⟨es, sp, rfl, he⟩
    · simp
    · have := sized_slice hsz (j := 2) rfl rfl Try.underlying45
      rw [Try.bytes9] at this
      simp only [reachBytes] at this
      omega
  clear hA0 hval0 hsz0
  refine (vfsBack_walk W v0 v2 F L k b hF (by omega) (fun q hq => hm q hq) hb hL hlenL).mono fun e W' ⟨he, hx⟩ => ?_
  subst he
  have hnx : Below W.heap.size W W' := hx.below (Nat.le_refl _) (fun _ _ h => h.elim)
  refine ⟨_, rfl, _, _, _, [], p0 ++ (p1 ++ p2), [], hW', ?_, ?_, rfl, hnx.frame _, fun h => by cases h⟩
  · exact trodAll_mk1 (shut_bool Try.underlying4 _)
  · exact trodAll_mk3 (Below.trod Try.laidOut (by kernel_rfl) (of_decide_eq_true (by kernel_rfl)) h0 hnx (fun x hx => hlt x (.inl hx)))
      (Below.trod Try.laidOut (by kernel_rfl) (of_decide_eq_true (by kernel_rfl)) h1 hnx (fun x hx => hlt x (.inr (.inl hx))))
      (Below.trod Try.laidOut (by kernel_rfl) (of_decide_eq_true (by kernel_rfl)) h2 hnx (fun x hx => hlt x (.inr (.inr hx))))

theorem vfsBack_proved : Rows.VfsBackSaid :=
  OpenClaim.holds_of_wide 5 Try.f5 rfl rfl rfl rfl rfl rfl rfl ⟨rfl, rfl, rfl, rfl, rfl⟩ rfl rfl rfl rfl rfl (by kernel_rfl) Try.func5 (by kernel_rfl)
    (of_decide_eq_true (by kernel_rfl)) (by unfold Func.isWrapper; first | (rw [if_pos (by decide +kernel)]; kernel_rfl) | (rw [if_neg (by decide +kernel)]; exact ⟨rfl, rfl⟩))
    (fun os started H enc _ => vfsBack_lifted os started H enc)
#print axioms vfsBack_proved

end Go.Proofs.Ytpmlmpibpmoclaa
