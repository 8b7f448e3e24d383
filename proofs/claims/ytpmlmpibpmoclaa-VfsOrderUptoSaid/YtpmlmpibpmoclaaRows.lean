/-
  No cell of these rows narrows 'for every input' (looked for: loops, veiled, ifaces, maps, wideKeys, modest, calm, conditions, laid).
  DERIVED. THE GIVEN ROWS OF THIS SEAT. 5 by the template 'for every input the law returns true; each argument reads behind the call as it read before'; 0 by the template 'total and deterministic' (their statements: YtpmlmpibpmoclaaTotals.lean).
  GIVEN WITH THE SEED: the statements are not yours to turn. If you find one false, say at which input.
  Laid BY PROGRAM, IN A SANDBOX (cutbox-rows.mjs): the forced cells as the released guide's own fill.sh prints them over the translation e9e77d81fd49c0dc… (all of the seat's roots in one cut). By AI agents, Wed Nov 11 2026. No macro, syntax, notation, axiom, sorry.
-/
import Derived.Test.YtpmlmpibpmoclaaChecked
import GoSem.Claim
import GoSem.ClaimJoined
import GoSem.ClaimMapViews
import Derived.JoinedTies
import Derived.KernelRfl
namespace Go.Proofs.Ytpmlmpibpmoclaa
/- THE CELL 'sum', in the pinned program and in every row, IS THE sha256 OF THE DUMP (.gsa) THAT YtpmlmpibpmoclaaProg.lean LOADS. Nothing in Lean hashes anything: it is a label: what it is worth is what the hold of that sum in a sandbox is worth. -/
noncomputable def Try.pinned : Pinned := { name := "ytpmlmpibpmoclaa", sum := "e9e77d81fd49c0dc3d60ea1631aaf376124326af1b99fe9957d5d114901da231", checked := Try.checked }
namespace Rows
def none {H : Type} : Left H := { results := [], args := [] }

/-- 'gussetlaw02.VfsPlays': WHATEVER THE INPUT: true; the input reads as it did. -/
def vfsPlaysSpec : ChangeSpec := { name := "vfsPlays", fn := fun _ => fun
  | [d] => { results := [.lit (.bool true)], args := [d] }
  | _ => none }
def vfsPlaysRow : OpenClaim := { program := "ytpmlmpibpmoclaa", sum := "e9e77d81fd49c0dc3d60ea1631aaf376124326af1b99fe9957d5d114901da231", func := "gusset/gussetlaw02.VfsPlays", spec := "vfsPlays", inPlace := ["internal/reflectlite.ValueOf", "internal/reflectlite.Swapper", "(internal/reflectlite.Value).Len"], unfollowed := true, recurses := true, apart := false }
def VfsPlaysSaid : Prop := vfsPlaysRow.holds Try.pinned (OpenSpec.ofChange vfsPlaysSpec)

/-- ITS FALSE NEIGHBOUR: 'it returns false'. Refute it at one input. -/
def vfsPlaysWrong : ChangeSpec := { name := "vfsPlays", fn := fun _ => fun
  | [d] => { results := [.lit (.bool false)], args := [d] }
  | _ => none }
def VfsPlaysWrongFalsely : Prop := vfsPlaysRow.holds Try.pinned (OpenSpec.ofChange vfsPlaysWrong)

/-- 'gussetlaw02.VfsLoads': WHATEVER THE INPUT: true; the input reads as it did. -/
def vfsLoadsSpec : ChangeSpec := { name := "vfsLoads", fn := fun _ => fun
  | [d1, d2] => { results := [.lit (.bool true)], args := [d1, d2] }
  | _ => none }
def vfsLoadsRow : OpenClaim := { program := "ytpmlmpibpmoclaa", sum := "e9e77d81fd49c0dc3d60ea1631aaf376124326af1b99fe9957d5d114901da231", func := "gusset/gussetlaw02.VfsLoads", spec := "vfsLoads", inPlace := ["internal/reflectlite.ValueOf", "internal/reflectlite.Swapper", "(internal/reflectlite.Value).Len"], unfollowed := true, recurses := true, apart := false }
def VfsLoadsSaid : Prop := vfsLoadsRow.holds Try.pinned (OpenSpec.ofChange vfsLoadsSpec)

/-- ITS FALSE NEIGHBOUR: 'it returns false'. Refute it at one input. -/
def vfsLoadsWrong : ChangeSpec := { name := "vfsLoads", fn := fun _ => fun
  | [d1, d2] => { results := [.lit (.bool false)], args := [d1, d2] }
  | _ => none }
def VfsLoadsWrongFalsely : Prop := vfsLoadsRow.holds Try.pinned (OpenSpec.ofChange vfsLoadsWrong)

/-- 'gussetlaw02.VfsBack': WHATEVER THE INPUT: true; the input reads as it did. -/
def vfsBackSpec : ChangeSpec := { name := "vfsBack", fn := fun _ => fun
  | [d1, d2, d3] => { results := [.lit (.bool true)], args := [d1, d2, d3] }
  | _ => none }
def vfsBackRow : OpenClaim := { program := "ytpmlmpibpmoclaa", sum := "e9e77d81fd49c0dc3d60ea1631aaf376124326af1b99fe9957d5d114901da231", func := "gusset/gussetlaw02.VfsBack", spec := "vfsBack", inPlace := ["internal/reflectlite.ValueOf", "internal/reflectlite.Swapper", "(internal/reflectlite.Value).Len"], unfollowed := true, recurses := true, apart := false }
def VfsBackSaid : Prop := vfsBackRow.holds Try.pinned (OpenSpec.ofChange vfsBackSpec)

/-- ITS FALSE NEIGHBOUR: 'it returns false'. Refute it at one input. -/
def vfsBackWrong : ChangeSpec := { name := "vfsBack", fn := fun _ => fun
  | [d1, d2, d3] => { results := [.lit (.bool false)], args := [d1, d2, d3] }
  | _ => none }
def VfsBackWrongFalsely : Prop := vfsBackRow.holds Try.pinned (OpenSpec.ofChange vfsBackWrong)

/-- 'gussetlaw02.VfsOrder': WHATEVER THE INPUT: true; the input reads as it did. -/
def vfsOrderSpec : ChangeSpec := { name := "vfsOrder", fn := fun _ => fun
  | [d] => { results := [.lit (.bool true)], args := [d] }
  | _ => none }
def vfsOrderRow : OpenClaim := { program := "ytpmlmpibpmoclaa", sum := "e9e77d81fd49c0dc3d60ea1631aaf376124326af1b99fe9957d5d114901da231", func := "gusset/gussetlaw02.VfsOrder", spec := "vfsOrder", inPlace := ["internal/reflectlite.ValueOf", "internal/reflectlite.Swapper", "(internal/reflectlite.Value).Len"], unfollowed := true, recurses := true, apart := false }
def VfsOrderSaid : Prop := vfsOrderRow.holds Try.pinned (OpenSpec.ofChange vfsOrderSpec)

/-- ITS FALSE NEIGHBOUR: 'it returns false'. Refute it at one input. -/
def vfsOrderWrong : ChangeSpec := { name := "vfsOrder", fn := fun _ => fun
  | [d] => { results := [.lit (.bool false)], args := [d] }
  | _ => none }
def VfsOrderWrongFalsely : Prop := vfsOrderRow.holds Try.pinned (OpenSpec.ofChange vfsOrderWrong)

/-- 'gussetlaw02.VfsCopies': WHATEVER THE INPUT: true; the input reads as it did. -/
def vfsCopiesSpec : ChangeSpec := { name := "vfsCopies", fn := fun _ => fun
  | [d1, d2] => { results := [.lit (.bool true)], args := [d1, d2] }
  | _ => none }
def vfsCopiesRow : OpenClaim := { program := "ytpmlmpibpmoclaa", sum := "e9e77d81fd49c0dc3d60ea1631aaf376124326af1b99fe9957d5d114901da231", func := "gusset/gussetlaw02.VfsCopies", spec := "vfsCopies", inPlace := ["internal/reflectlite.ValueOf", "internal/reflectlite.Swapper", "(internal/reflectlite.Value).Len"], unfollowed := true, recurses := true, apart := false }
def VfsCopiesSaid : Prop := vfsCopiesRow.holds Try.pinned (OpenSpec.ofChange vfsCopiesSpec)

/-- ITS FALSE NEIGHBOUR: 'it returns false'. Refute it at one input. -/
def vfsCopiesWrong : ChangeSpec := { name := "vfsCopies", fn := fun _ => fun
  | [d1, d2] => { results := [.lit (.bool false)], args := [d1, d2] }
  | _ => none }
def VfsCopiesWrongFalsely : Prop := vfsCopiesRow.holds Try.pinned (OpenSpec.ofChange vfsCopiesWrong)

/- THE SECOND FORM. 'bulk': how many values and letters a reading holds, each counted each time it is reached (what is shared counts as often as it is met; a slice's spare places count too). A statement '..UptoSaid' is the law's where the arguments, and the package variables that the reading takes, are together of bulk at most 1048576: NARROWER than '..Said'. Prove '..Said' where nothing that the law and all that it calls make is longer than what came in: it says more and counts as full. Else prove '..UptoSaid'. A law counts once. -/
mutual
def uptoBulk {H : Type} : DataW H → Nat
  | .lit (.string bytes) => bytes.length + 1
  | .lit _ => 1
  | .nil => 1
  | .ptr d => uptoBulk d + 1
  | .slice elems spare => uptoBulkAll elems + uptoBulkAll spare + 1
  | .agg parts => uptoBulkAll parts + 1
  | .iface _ d => uptoBulk d + 1
  | .map entries => uptoBulkEntries entries + 1
  | .held _ => 1
def uptoBulkAll {H : Type} : List (DataW H) → Nat
  | [] => 0
  | d :: r => uptoBulk d + uptoBulkAll r
def uptoBulkEntries {H : Type} : List (Lit × DataW H) → Nat
  | [] => 0
  | x :: r => uptoBulkEntry x + uptoBulkEntries r
def uptoBulkEntry {H : Type} : Lit × DataW H → Nat
  | (.string bytes, d) => bytes.length + uptoBulk d + 1
  | (_, d) => uptoBulk d + 1
 end
def uptoSmall : (H : Type) → List (DataW H) → Bool := fun _ ds => decide (uptoBulkAll ds ≤ 1048576)
def OpenSpec.upto (s : _root_.Go.ChangeSpec) : _root_.Go.OpenSpec := { _root_.Go.OpenSpec.ofChange s with cond := some uptoSmall }

/-- 'gussetlaw02.VfsPlays', WHERE WHAT IT READS IS OF BULK AT MOST 1048576: true; the input reads as it did. -/
def vfsPlaysUptoRow : OpenClaim := { program := "ytpmlmpibpmoclaa", sum := "e9e77d81fd49c0dc3d60ea1631aaf376124326af1b99fe9957d5d114901da231", func := "gusset/gussetlaw02.VfsPlays", spec := "vfsPlays", inPlace := ["internal/reflectlite.ValueOf", "internal/reflectlite.Swapper", "(internal/reflectlite.Value).Len"], unfollowed := true, recurses := true, apart := false, narrowed := true }
def VfsPlaysUptoSaid : Prop := vfsPlaysUptoRow.holds Try.pinned (OpenSpec.upto vfsPlaysSpec)

/-- 'gussetlaw02.VfsLoads', WHERE WHAT IT READS IS OF BULK AT MOST 1048576: true; the input reads as it did. -/
def vfsLoadsUptoRow : OpenClaim := { program := "ytpmlmpibpmoclaa", sum := "e9e77d81fd49c0dc3d60ea1631aaf376124326af1b99fe9957d5d114901da231", func := "gusset/gussetlaw02.VfsLoads", spec := "vfsLoads", inPlace := ["internal/reflectlite.ValueOf", "internal/reflectlite.Swapper", "(internal/reflectlite.Value).Len"], unfollowed := true, recurses := true, apart := false, narrowed := true }
def VfsLoadsUptoSaid : Prop := vfsLoadsUptoRow.holds Try.pinned (OpenSpec.upto vfsLoadsSpec)

/-- 'gussetlaw02.VfsBack', WHERE WHAT IT READS IS OF BULK AT MOST 1048576: true; the input reads as it did. -/
def vfsBackUptoRow : OpenClaim := { program := "ytpmlmpibpmoclaa", sum := "e9e77d81fd49c0dc3d60ea1631aaf376124326af1b99fe9957d5d114901da231", func := "gusset/gussetlaw02.VfsBack", spec := "vfsBack", inPlace := ["internal/reflectlite.ValueOf", "internal/reflectlite.Swapper", "(internal/reflectlite.Value).Len"], unfollowed := true, recurses := true, apart := false, narrowed := true }
def VfsBackUptoSaid : Prop := vfsBackUptoRow.holds Try.pinned (OpenSpec.upto vfsBackSpec)

/-- 'gussetlaw02.VfsOrder', WHERE WHAT IT READS IS OF BULK AT MOST 1048576: true; the input reads as it did. -/
def vfsOrderUptoRow : OpenClaim := { program := "ytpmlmpibpmoclaa", sum := "e9e77d81fd49c0dc3d60ea1631aaf376124326af1b99fe9957d5d114901da231", func := "gusset/gussetlaw02.VfsOrder", spec := "vfsOrder", inPlace := ["internal/reflectlite.ValueOf", "internal/reflectlite.Swapper", "(internal/reflectlite.Value).Len"], unfollowed := true, recurses := true, apart := false, narrowed := true }
def VfsOrderUptoSaid : Prop := vfsOrderUptoRow.holds Try.pinned (OpenSpec.upto vfsOrderSpec)

/-- 'gussetlaw02.VfsCopies', WHERE WHAT IT READS IS OF BULK AT MOST 1048576: true; the input reads as it did. -/
def vfsCopiesUptoRow : OpenClaim := { program := "ytpmlmpibpmoclaa", sum := "e9e77d81fd49c0dc3d60ea1631aaf376124326af1b99fe9957d5d114901da231", func := "gusset/gussetlaw02.VfsCopies", spec := "vfsCopies", inPlace := ["internal/reflectlite.ValueOf", "internal/reflectlite.Swapper", "(internal/reflectlite.Value).Len"], unfollowed := true, recurses := true, apart := false, narrowed := true }
def VfsCopiesUptoSaid : Prop := vfsCopiesUptoRow.holds Try.pinned (OpenSpec.upto vfsCopiesSpec)

end Rows
end Go.Proofs.Ytpmlmpibpmoclaa
