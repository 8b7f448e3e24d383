/-
  The row and the card of ShowApart: two trees of one form have one text only if they are the same; where what comes in is of bulk at most 1048576.
-/
import Derived.Test.YtpmlmpibpmoclaaGreatDoorLw
import Derived.Test.YtpmlmpibpmoclaaGreatDoorOp
import Derived.Test.YtpmlmpibpmoclaaGreatDoorCards
import Derived.Test.YtpmlmpibpmoclaaGreatDoorTie
import Derived.Deep.DeepHandedRow
import Derived.Lib.LaidU8T
import Derived.PinnedBridge
import Derived.WalkSmall
namespace Go.Proofs.YtpmlmpibpmoclaaGreatDoor
set_option linter.all false
set_option maxRecDepth 100000
open Go.ChangeShapes Go.WideShapes Go.ChangeAt Go.RowKit Go.Lib

theorem own : ownKnob Tryz.prog.godebug = none := by kernel_rfl
theorem laidOut : laidOutB Tryz.prog = true := by kernel_rfl

/-! ### the tables -/
def z64 : List Int := [0, 1, 56, 2, 57, 49, 28, 3, 61, 58, 42, 50, 38, 29, 17, 4, 62, 47, 59, 36, 45, 43, 51, 22, 53, 39, 33, 30, 24, 18, 12, 5, 63, 55, 48, 27, 60, 41, 37, 16, 46, 35, 44, 21, 52, 32, 23, 11, 54, 26, 40, 15, 34, 20, 31, 10, 25, 14, 19, 9, 13, 8, 7, 6]
def z32 : List Int := [0, 1, 28, 2, 29, 14, 24, 3, 30, 22, 20, 15, 25, 17, 4, 8, 31, 27, 13, 23, 21, 19, 16, 7, 26, 12, 18, 6, 11, 5, 10, 9]
def zAcc : List Int := [128, 191, 160, 191, 128, 159, 144, 191, 128, 143, 0, 0, 0, 0, 0, 0, 0, 0, 0, 0, 0, 0, 0, 0, 0, 0, 0, 0, 0, 0, 0, 0]
theorem d64_eq : (Rows.laid_math_bits_deBruijn64tab : DataW Unit) = tabData .u8 z64 := by kernel_rfl
theorem pow_eq : (Rows.laid_internal_strconv_uint64pow10 : DataW Unit) = tabData .u64 pow10Tab := by kernel_rfl
theorem acc_eq : (Rows.laid_unicode_utf8_acceptRanges : DataW Unit) = acceptData := by kernel_rfl
theorem first_eq : Rows.laid_unicode_utf8_first = firstData := Pinned.utf8First_eq
theorem extra : U8Extra Tryz.prog Tryz.lv_ren := { n3 := by kernel_rfl, n4 := by kernel_rfl, y3 := by kernel_rfl, y4 := by kernel_rfl, c5 := by kernel_rfl, c119 := by kernel_rfl, c138 := by kernel_rfl }

theorem tab_of_reads {P : Program} {W : World} {name : String} {k : IntKind} {zs : List Int} {g : Nat} {t e : TypeId} {n : Nat} (hg : P.globalNamed name = some g) (hty : (P.globals[g]?).map (·.type) = some t) (ht : P.underlying t = some (.array n e)) (he : P.underlying e = some (.int k))
  (hce : P.cellsOf e = 1) (hct : P.cellsOf t = n) (h : VarReads P W name (tabData k zs)) : TabIs P W name k zs := by
 obtain ⟨g', t', cs, fuel, p, hg', ht', hvar, hd⟩ := h
 obtain rfl := Option.some.inj (hg.symm.trans hg')
 obtain rfl := Option.some.inj (hty.symm.trans ht')
 unfold TabIs
 rw [hvar, ← cells_of_tab ht he hce hct hd]
theorem var_lt {P : Program} {W : World} {n : String} {g : Nat} {cs : Array Value} (hg : P.globalNamed n = some g) (h : W.var? P n = some cs) : g < W.heap.size := by
 simp only [World.var?, hg, Option.bind_some] at h
 rcases Nat.lt_or_ge g W.heap.size with h1 | h1
 ·exact h1
 ·rw [Array.getElem?_eq_none h1] at h; cases h

/-- What the row's list gives. -/
theorem tables {W : World} (h : laidMetH Tryz.prog Rows.showApartUptoRow.laid W) : Tabs W.heap.size W ∧ Pow W.heap.size W := by
 have hl : laidMet Tryz.prog [("math/bits.deBruijn32tab", Rows.laid_math_bits_deBruijn32tab), ("math/bits.deBruijn64tab", Rows.laid_math_bits_deBruijn64tab), ("internal/strconv.uint64pow10", Rows.laid_internal_strconv_uint64pow10), ("unicode/utf8.acceptRanges", Rows.laid_unicode_utf8_acceptRanges), ("unicode/utf8.first", Rows.laid_unicode_utf8_first)] W := h
 have r1 : VarReads Tryz.prog W "math/bits.deBruijn64tab" (tabData .u8 z64) := d64_eq ▸ laidMet.reads hl (by simp)
 have r2 : VarReads Tryz.prog W "internal/strconv.uint64pow10" (tabData .u64 pow10Tab) := pow_eq ▸ laidMet.reads hl (by simp)
 have r3 : VarReads Tryz.prog W "unicode/utf8.acceptRanges" acceptData := acc_eq ▸ laidMet.reads hl (by simp)
 have r4 : VarReads Tryz.prog W "unicode/utf8.first" firstData := first_eq ▸ laidMet.reads hl (by simp)
 have hU : Utf8Tabs (Tryz.lv_ren.g 3) (Tryz.lv_ren.g 4) W := utf8Tabs_of_readsT (U8Types.of196 Tryz.lv) extra r4 r3
 have t1 : TabIs Tryz.prog W "math/bits.deBruijn64tab" .u8 z64 := tab_of_reads (g := 7) (t := 202) (e := 5) (n := 64) (by kernel_rfl) (by kernel_rfl) (by kernel_rfl) (by kernel_rfl) (by kernel_rfl) (by kernel_rfl) r1
 have t2 : TabIs Tryz.prog W "internal/strconv.uint64pow10" .u64 pow10Tab := tab_of_reads (g := 3) (t := 186) (e := 145) (n := 20) (by kernel_rfl) (by kernel_rfl) (by kernel_rfl) (by kernel_rfl) (by kernel_rfl) (by kernel_rfl) r2
 have g64 : Tryz.prog.globalNamed "math/bits.deBruijn64tab" = some 7 := by kernel_rfl
 have gpw : Tryz.prog.globalNamed "internal/strconv.uint64pow10" = some 3 := by kernel_rfl
 refine ⟨⟨Nat.le_refl _, fun w' hb => Utf8Tabs_below hU hb, fun w' hb => ?_⟩, ⟨Nat.le_refl _, fun w' hb => var?_below hb gpw (var_lt gpw t2) t2⟩⟩
 have : TabIs Tryz.prog w' "math/bits.deBruijn64tab" .u8 z64 := var?_below hb g64 (var_lt g64 t1) t1
 exact this.cell g64 15 (by decide)

/-! ### the call -/
theorem agg_of_cells {v : Value} {c0 c1 c2 c3 : Value} (h : v.cells.toList = [c0, c1, c2, c3]) : v = .agg #[c0, c1, c2, c3] := by
 cases v <;> simp [Value.cells] at h ⊢
 rename_i a
 cases a; simp_all

theorem contract (H : Type) (enc : TypeId × Value → H) (F : Stop.Interp) (W : World) (base : Nat) (args : Array Value) (ds gs : List (DataW H)) (before : List MemPlace)
  (hW : DataW.Whole enc Tryz.prog Tryz.f3.params.toList Rows.showApartSpec.vars false W args.toList ds gs before) (hk : Rows.uptoBulkAll (ds ++ gs) ≤ 1048576) (hL : laidMetH Tryz.prog Rows.showApartUptoRow.laid W) :
  Calls Tryz.prog 3 args W fun e W' => ∃ v, e = .returned v ∧ ((Rows.OpenSpec.upto Rows.showApartSpec).at F).post enc Tryz.prog Tryz.f3 false true false false W args v W' := by
 have hW' := hW
 obtain ⟨p, q, hA0, hV, rfl, hfz, hnd⟩ := hW
 have hA : DataW.TrodAll enc Tryz.prog W 0 (fun _ => true) true Tryz.f3.params.toList args.toList ds p := hA0
 rw [Tryz.params3] at hA
 obtain ⟨v0, v1, d0, d1, p0, p1, rfl, rfl, rfl, h0, h1⟩ := trodAll_two hA
 obtain ⟨rfl, rfl⟩ := trodVars_none hV
 simp only [List.append_nil] at hW' hk
 simp only [Rows.uptoBulkAll] at hk
 have hlt : ∀ x, x ∈ p0 ∨ x ∈ p1 → x.block < W.heap.size := fun x hx => by simpa using hW'.lt x (by simpa using hx)
 obtain ⟨n0, f0⟩ := id h0
 obtain ⟨n1, f1⟩ := id h1
 obtain ⟨a, sa, ea, na, wa⟩ := open_nd 1048576 (by decide) n0 _ _ f0 (by show Rows.uptoBulk d0 ≤ _; omega)
 obtain ⟨b, sb, eb, nb, wb⟩ := open_nd 1048576 (by decide) n1 _ _ f1 (by show Rows.uptoBulk d1 ≤ _; omega)
 have ea' := agg_of_cells ea
 have eb' := agg_of_cells eb
 subst ea' eb'
 obtain ⟨hT, hP⟩ := tables hL
 clear hA0
 have wa' : wt a ≤ Rows.uptoBulk d0 := wa
 have wb' : wt b ≤ Rows.uptoBulk d1 := wb
 refine (law_p W _ _ a b W.heap.size na nb hT hP (by unfold BW; omega) (by unfold BW; omega)).mono fun e W' ⟨he, hx⟩ => ?_
 subst he
 have hnx : Below W.heap.size W W' := hx.below (Nat.le_refl _) (fun _ _ h => h.elim)
 refine ⟨_, rfl, _, _, _, [], p0 ++ p1, [], hW', ?_, ?_, rfl, hnx.frame _, fun h => by cases h⟩
 ·exact trodAll_mk1 (shut_bool Tryz.underlying4 _)
 ·exact trodAll_mk2 (Below.trod laidOut (by kernel_rfl) (of_decide_eq_true (by kernel_rfl)) h0 hnx (fun x hx => hlt x (.inl hx)))
   (Below.trod laidOut (by kernel_rfl) (of_decide_eq_true (by kernel_rfl)) h1 hnx (fun x hx => hlt x (.inr hx)))

/-- A world for the witness: the tables hold what their initialisers lay. -/
noncomputable def laidWorld (os : Os) : World :=
 { World.holding Tryz.prog os ⟨#[], #[], []⟩ with heap := ((((((World.holding Tryz.prog os ⟨#[], #[], []⟩).heap.modify 0 (fun | .cells _ t fr => .cells (firstTab.map fun z => Value.int .u8 z).toArray t fr | o => o)).modify 1
  (fun | .cells _ t fr => .cells (zAcc.map fun z => Value.int .u8 z).toArray t fr | o => o)).modify 3 (fun | .cells _ t fr => .cells (pow10Tab.map fun z => Value.int .u64 z).toArray t fr | o => o)).modify 6
  (fun | .cells _ t fr => .cells (z32.map fun z => Value.int .u8 z).toArray t fr | o => o)).modify 7 (fun | .cells _ t fr => .cells (z64.map fun z => Value.int .u8 z).toArray t fr | o => o)) }
def zeroNode : Value := .agg #[.int .i64 0, .string ⟨#[]⟩, .int .i64 0, .slice none 0 0]
theorem laid_met (os : Os) : laidMet Tryz.prog Rows.showApartUptoRow.laid ((laidWorld os).forCall (fun _ _ => 0) ⟨#[], #[zeroNode, zeroNode], []⟩).memory :=
 laidMet_of_run' 12 (by kernel_rfl) (by kernel_rfl)
theorem reads (os : Os) {H : Type} (enc : TypeId × Value → H) : ∃ ds places, DataW.whole enc Tryz.prog ((laidWorld os).forCall (fun _ _ => 0) ⟨#[], #[zeroNode, zeroNode], []⟩).memory Tryz.f3.params.toList Rows.showApartSpec.vars false #[zeroNode, zeroNode].toList 12 = some (ds, [], places) ∧ Rows.uptoBulkAll ds ≤ 1048576 :=
 ⟨[.agg [.lit (.int .i64 0), .lit (.string []), .lit (.int .i64 0), .nil], .agg [.lit (.int .i64 0), .lit (.string []), .lit (.int .i64 0), .nil]], [], by kernel_rfl, by simp [Rows.uptoBulkAll, Rows.uptoBulk]⟩

theorem lifted (os : Os) (started : os.Started) (H : Type) (enc : TypeId × Value → H) (F : Stop.Interp) :
  ReturnsInHanded {} Tryz.checked os 3 .any ((Rows.OpenSpec.upto Rows.showApartSpec).preRow enc Tryz.prog Tryz.f3 Rows.showApartUptoRow.domain false Rows.showApartUptoRow.laid) (((Rows.OpenSpec.upto Rows.showApartSpec).at F).post enc Tryz.prog Tryz.f3 false true false false) := by
 obtain ⟨ds, places, hx, hb⟩ := reads os enc
 refine returnsInHanded_of_row (C := Tryz.checked) (s := Rows.OpenSpec.upto Rows.showApartSpec) own started (by kernel_rfl) Tryz.func3
  (witness_row_at (enc := enc) (C := Tryz.checked) false (laidWorld os) #[zeroNode, zeroNode] rfl (by kernel_rfl) (by kernel_rfl) (by kernel_rfl)
   (OpenSpec.preRow_of_cond 12 hx (by rfl) (fun k hk => by cases hk; exact decide_eq_true (by simpa using hb)) (by kernel_rfl) (laid_met os))) ?_
 intro W base args ds gs before _ hW _ hcond _ hL _ _
 exact contract H enc F W base args ds gs before hW (of_decide_eq_true (hcond _ rfl)) hL

theorem showApart_upto : Rows.ShowApartUptoSaid :=
 OpenClaim.holds_of_cond 3 Tryz.f3 rfl rfl rfl rfl rfl rfl rfl ⟨rfl, rfl, rfl, rfl, rfl⟩ rfl rfl rfl rfl rfl (by kernel_rfl) Tryz.func3 (by kernel_rfl)
  (of_decide_eq_true (by kernel_rfl)) (by unfold Func.isWrapper; first | (rw [if_pos (by decide +kernel)]; kernel_rfl) | (rw [if_neg (by decide +kernel)]; exact ⟨rfl, rfl⟩))
  (fun os started H enc _ F => by rw [OpenClaim.pre_eq_preRow]; exact lifted os started H enc F)

/-- No parameter wants a stand-in; the program's own looks hold. -/
theorem plain_card (f : FuncId) (fn : Func) (hf : Tryz.pinned.checked.prog.funcNamed "gusset/gussetlaw08.ShowApart" = some f) (hfn : Tryz.pinned.checked.prog.funcs[f]? = some fn) :
  true = Tryz.pinned.checked.prog.looks [] ∧ ∀ (j : Nat) t, fn.params[j]? = some t → Tryz.pinned.checked.prog.wantsStandIn t = false := by
 obtain rfl : f = 3 := Option.some.inj ((show Tryz.prog.funcNamed "gusset/gussetlaw08.ShowApart" = some 3 by kernel_rfl).symm.trans hf) |>.symm
 obtain rfl : fn = Tryz.f3 := (Option.some.inj (Tryz.func3.symm.trans hfn)).symm
 refine ⟨by kernel_rfl, fun j t ht => ?_⟩
 rw [Tryz.params3] at ht
 obtain rfl : t = 24 := by simpa using Array.mem_of_getElem? ht
 exact (show Tryz.prog.wantsStandIn 24 = false by kernel_rfl)

/-- THE CARD. -/
theorem showApart_proved : Rows.ShowApartUptoCardSaid :=
 Claim7.holds_tied_plain_at .later [] _ _ _ _ showApart_upto (fun _ h => by cases h) (by kernel_rfl) (fun _ h => by cases h) showApartUpto_row_tie rfl ⟨rfl, rfl⟩ (by kernel_rfl) rfl plain_card (by kernel_rfl)
#print axioms showApart_proved

end Go.Proofs.YtpmlmpibpmoclaaGreatDoor
