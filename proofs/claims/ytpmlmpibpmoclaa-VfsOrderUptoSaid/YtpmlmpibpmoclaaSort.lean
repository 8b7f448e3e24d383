/-
  The library's sort of a slice of files by their paths, at a slice that the call owns: what the slice holds behind it is a permutation, sorted.
-/
import Derived.Test.YtpmlmpibpmoclaaCopy
import Derived.Shelf.SlSortFuncK.WholeK
import Derived.Shelf.GgSortFunc.Tiny
import Derived.Deep.QuietTactic
import Derived.BigQuiet
namespace Go.Proofs
open Go.Shelf

def Try.sl6_ren : Go.Shelf.Ren := ⟨fun | 6 => 25 | 10 => 29 | 11 => 30 | 12 => 31 | 13 => 32 | 14 => 33 | 24 => 43 | 25 => 44 | 26 => 45 | 27 => 46 | 28 => 47 | 29 => 48 | 30 => 49 | 31 => 50 | 32 => 51 | 33 => 52 | 34 => 53 | 35 => 54 | 36 => 55 | 37 => 56 | 38 => 57 | 39 => 58 | n => n, fun | 20 => 20 | 26 => 56 | 35 => 63 | 0 => 0 | 37 => 65 | 3 => 3 | 41 => 68 | 44 => 71 | 49 => 76 | 51 => 78 | 4 => 4 | 54 => 81 | 53 => 80 | 58 => 57 | 5 => 5 | 9 => 9 | 60 => 86 | 64 => 90 | 66 => 92 | 67 => 93 | 17 => 17 | 32 => 60 | 33 => 61 | 82 => 108 | 12 => 12 | 75 => 101 | 76 => 102 | 77 => 103 | 78 => 104 | 79 => 105 | 80 => 106 | n => n, fun | n => n⟩

theorem Try.sl6 : Go.Proofs.LaysGg.n6 Try.prog Try.sl6_ren :=
  {  mixed := by kernel_rfl,
     f6 := Try.func25.trans (congrArg some (by kernel_rfl)),
     f10 := Try.func29.trans (congrArg some (by kernel_rfl)),
     f11 := Try.func30.trans (congrArg some (by kernel_rfl)),
     f12 := Try.func31.trans (congrArg some (by kernel_rfl)),
     f13 := Try.func32.trans (congrArg some (by kernel_rfl)),
     f14 := Try.func33.trans (congrArg some (by kernel_rfl)),
     f24 := Try.func43.trans (congrArg some (by kernel_rfl)),
     f25 := Try.func44.trans (congrArg some (by kernel_rfl)),
     f26 := Try.func45.trans (congrArg some (by kernel_rfl)),
     f27 := Try.func46.trans (congrArg some (by kernel_rfl)),
     f28 := Try.func47.trans (congrArg some (by kernel_rfl)),
     f29 := Try.func48.trans (congrArg some (by kernel_rfl)),
     f30 := Try.func49.trans (congrArg some (by kernel_rfl)),
     f31 := Try.func50.trans (congrArg some (by kernel_rfl)),
     f32 := Try.func51.trans (congrArg some (by kernel_rfl)),
     f33 := Try.func52.trans (congrArg some (by kernel_rfl)),
     f34 := Try.func53.trans (congrArg some (by kernel_rfl)),
     f35 := Try.func54.trans (congrArg some (by kernel_rfl)),
     f36 := Try.func55.trans (congrArg some (by kernel_rfl)),
     f37 := Try.func56.trans (congrArg some (by kernel_rfl)),
     f38 := Try.func57.trans (congrArg some (by kernel_rfl)),
     f39 := Try.func58.trans (congrArg some (by kernel_rfl)),
     t0 := Try.underlying0,
     a0 := Try.isAgg0,
     z0 := Try.sizeOf0,
     v0 := Try.zeroValue0,
     i0 := by kernel_rfl,
     t3 := Try.underlying3,
     a3 := Try.isAgg3,
     z3 := Try.sizeOf3,
     v3 := Try.zeroValue3,
     i3 := by kernel_rfl,
     t4 := Try.underlying4,
     a4 := Try.isAgg4,
     z4 := Try.sizeOf4,
     v4 := Try.zeroValue4,
     i4 := by kernel_rfl,
     t5 := Try.underlying5,
     a5 := Try.isAgg5,
     z5 := Try.sizeOf5,
     v5 := Try.zeroValue5,
     i5 := by kernel_rfl,
     t9 := Try.underlying9,
     a9 := Try.isAgg9,
     z9 := Try.sizeOf9,
     v9 := Try.zeroValue9,
     i9 := by kernel_rfl,
     t12 := Try.underlying12,
     a12 := Try.isAgg12,
     z12 := Try.sizeOf12,
     v12 := Try.zeroValue12,
     i12 := by kernel_rfl,
     t17 := Try.underlying17,
     a17 := Try.isAgg17,
     z17 := Try.sizeOf17,
     v17 := Try.zeroValue17,
     i17 := by kernel_rfl,
     t20 := Try.underlying20,
     a20 := Try.isAgg20,
     z20 := Try.sizeOf20,
     v20 := Try.zeroValue20,
     i20 := by kernel_rfl,
     t26 := Try.underlying56,
     a26 := Try.isAgg56,
     z26 := Try.sizeOf56,
     v26 := Try.zeroValue56,
     i26 := by kernel_rfl,
     t32 := Try.underlying60,
     a32 := Try.isAgg60,
     z32 := Try.sizeOf60,
     v32 := Try.zeroValue60,
     i32 := by kernel_rfl,
     t33 := Try.underlying61,
     a33 := Try.isAgg61,
     z33 := Try.sizeOf61,
     v33 := Try.zeroValue61,
     i33 := by kernel_rfl,
     t35 := Try.underlying63,
     a35 := Try.isAgg63,
     z35 := Try.sizeOf63,
     v35 := Try.zeroValue63,
     i35 := by kernel_rfl,
     t37 := Try.underlying65,
     a37 := Try.isAgg65,
     z37 := Try.sizeOf65,
     v37 := Try.zeroValue65,
     i37 := by kernel_rfl,
     t41 := Try.underlying68,
     a41 := Try.isAgg68,
     z41 := Try.sizeOf68,
     v41 := Try.zeroValue68,
     i41 := by kernel_rfl,
     t44 := Try.underlying71,
     a44 := Try.isAgg71,
     z44 := Try.sizeOf71,
     v44 := Try.zeroValue71,
     i44 := by kernel_rfl,
     t49 := Try.underlying76,
     a49 := Try.isAgg76,
     z49 := Try.sizeOf76,
     v49 := Try.zeroValue76,
     i49 := by kernel_rfl,
     t51 := Try.underlying78,
     a51 := Try.isAgg78,
     z51 := Try.sizeOf78,
     v51 := Try.zeroValue78,
     i51 := by kernel_rfl,
     t53 := Try.underlying80,
     a53 := Try.isAgg80,
     z53 := Try.sizeOf80,
     v53 := Try.zeroValue80,
     i53 := by kernel_rfl,
     t54 := Try.underlying81,
     a54 := Try.isAgg81,
     z54 := Try.sizeOf81,
     v54 := Try.zeroValue81,
     i54 := by kernel_rfl,
     t58 := Try.underlying57,
     a58 := Try.isAgg57,
     z58 := Try.sizeOf57,
     v58 := Try.zeroValue57,
     i58 := by kernel_rfl,
     t60 := Try.underlying86,
     a60 := Try.isAgg86,
     z60 := Try.sizeOf86,
     v60 := Try.zeroValue86,
     i60 := by kernel_rfl,
     t64 := Try.underlying90,
     a64 := Try.isAgg90,
     z64 := Try.sizeOf90,
     v64 := Try.zeroValue90,
     i64 := by kernel_rfl,
     t66 := Try.underlying92,
     a66 := Try.isAgg92,
     z66 := Try.sizeOf92,
     v66 := Try.zeroValue92,
     i66 := by kernel_rfl,
     t67 := Try.underlying93,
     a67 := Try.isAgg93,
     z67 := Try.sizeOf93,
     v67 := Try.zeroValue93,
     i67 := by kernel_rfl,
     t75 := Try.underlying101,
     a75 := Try.isAgg101,
     z75 := Try.sizeOf101,
     v75 := Try.zeroValue101,
     i75 := by kernel_rfl,
     t76 := Try.underlying102,
     a76 := Try.isAgg102,
     z76 := Try.sizeOf102,
     v76 := Try.zeroValue102,
     i76 := by kernel_rfl,
     t77 := Try.underlying103,
     a77 := Try.isAgg103,
     z77 := Try.sizeOf103,
     v77 := Try.zeroValue103,
     i77 := by kernel_rfl,
     t78 := Try.underlying104,
     a78 := Try.isAgg104,
     z78 := Try.sizeOf104,
     v78 := Try.zeroValue104,
     i78 := by kernel_rfl,
     t79 := Try.underlying105,
     a79 := Try.isAgg105,
     z79 := Try.sizeOf105,
     v79 := Try.zeroValue105,
     i79 := by kernel_rfl,
     t80 := Try.underlying106,
     a80 := Try.isAgg106,
     z80 := Try.sizeOf106,
     v80 := Try.zeroValue106,
     i80 := by kernel_rfl,
     t82 := Try.underlying108,
     a82 := Try.isAgg108,
     z82 := Try.sizeOf108,
     v82 := Try.zeroValue108,
     i82 := by kernel_rfl }

end Go.Proofs
namespace Go.Proofs.Ytpmlmpibpmoclaa
open Go.RowKit Go.Lib Go.Sort

theorem SlAt.mk {w : World} {g o : Nat} {S : List Fl} (h : ∀ i (h : i < S.length), w.cell? ⟨g, o + i * 2, none⟩ = some (.string S[i].1) ∧ w.cell? ⟨g, o + i * 2 + 1, none⟩ = some (.string S[i].2)) : SlAt w g o S := by
  intro j u hj
  have hl := (List.getElem?_eq_some_iff.1 hj).1
  rw [cellsOf_length] at hl
  have hi : j / 2 < S.length := by omega
  obtain ⟨h0, h1⟩ := h (j / 2) hi
  rcases Nat.mod_two_eq_zero_or_one j with e | e
  · have ej : j / 2 * 2 = j := by omega
    have := cellsOf_get0 hi
    rw [ej] at this h0
    rw [this] at hj
    rw [h0]; exact hj
  · have ej : j / 2 * 2 + 1 = j := by omega
    have := cellsOf_get1 hi
    rw [ej] at this
    rw [Nat.add_assoc, ej] at h1
    rw [this] at hj
    rw [h1]; exact hj

def encF (p : Fl) : List Value := [.string p.1, .string p.2]
def ltF (p q : Fl) : Bool := plt p.1 q.1
theorem swo_ltF : SWO ltF where
  irrefl := fun x => plt_irrefl _
  trans := fun x y z h1 h2 => plt_trans h1 h2
  ntrans := fun x y z h1 h2 => by
    unfold ltF at *
    cases h : plt x.1 z.1
    · rfl
    · by_cases e : x.1 = y.1
      · rw [e] at h; rw [h] at h2; cases h2
      · rcases plt_total e with h3 | h3
        · rw [h3] at h1; cases h1
        · rw [plt_trans h3 h] at h2; cases h2

noncomputable def Try.svT : TypeInfo := (Try.prog.info? 26).get (by kernel_rfl)
noncomputable def Try.svE : TypeInfo := (Try.prog.info? 44).get (by kernel_rfl)
theorem Try.svK (n : Nat) (h2 : 2 ≤ n) : Lib.swapperK n Try.svE 25 = 9 := by
  have a : Try.svE.hasPointers = true := by kernel_rfl
  have b : Try.svE.bytes = 32 := by kernel_rfl
  have c : (n == 0) = false := by simp; omega
  have d : (n == 1) = false := by simp; omega
  simp [Lib.swapperK, a, b, c, d]

set_option maxHeartbeats 2000000 in
/-- The closure that compares. -/
theorem less_any (blk c lb size : Nat) (W : World) (G : Nat → ByteArray) (hs : W.cell? ⟨lb, 0, none⟩ = some (.slice (some ⟨blk, 0, none⟩) size c))
    (hc : ∀ t, t < size → W.cell? ⟨blk, t * 2, none⟩ = some (.string (G t))) (i j : Nat) (hi : i < size) (hj : j < size) (_hsz : size < 4611686018427387904) :
    Calls Try.prog 26 #[.int .i64 i, .int .i64 j, .pointer (some ⟨lb, 0, none⟩)] W fun e w' => e = .returned (.bool (plt (G i) (G j))) ∧ ∃ q, w' = W.drewN q := by
  have ci := hc i hi
  have cj := hc j hj
  have hi' : (i : Int) < (size : Int) := by omega
  have hj' : (j : Int) < (size : Int) := by omega
  clear hc
  go_enter Try.func26, Try.ntmps26
  go_wp2
  go_quiet (fail)
  go_wp2
  go_ret
  exact ⟨rfl, nq, rfl⟩

end Go.Proofs.Ytpmlmpibpmoclaa
