/-
  The program's own tests on trees: all.
-/
import Derived.Test.YtpmlmpibpmoclaaGreatDoorT0
namespace Go.Proofs.YtpmlmpibpmoclaaGreatDoor
set_option linter.all false
open Go.RowKit
set_option maxRecDepth 20000
set_option maxHeartbeats 8000000

theorem gr0_ {f0 : Nat} (hf_ : f0 = 64 ∨ f0 = 58 ∨ f0 = 59 ∨ f0 = 60 ∨ f0 = 61 ∨ f0 = 122 ∨ f0 = 124 ∨ f0 = 128) (l : List Tr) (B : Nat) (v : Value) (w : World) (h : KidsAt B w v l) (hT : Tabs B w)
  (hf : ∀ y ∈ l, ∀ u w', NT B w' u y → Calls Tryz.prog f0 #[u] w' (Ans true w')) : Calls Tryz.prog 57 #[v, .func (.func f0) #[] #[]] w (Ans true w) := by
 rcases hf_ with rfl | rfl | rfl | rfl | rfl | rfl | rfl | rfl
 all_goals
  obtain ⟨p, c, rfl, hcp, hkid⟩ := h.kid
  have K := hid hkid
  have hll := hid hcp.2
  have HF := hid hf
  have HT := hid hT
  clear h hkid hcp hf hT
  go_enter Tryz.func57, Tryz.ntmps57
  go_wp2
  go_loopw [9] (fun i wr => ∃ j : Nat, j ≤ l.length ∧ i = .int .i64 j ∧ Fx w wr) (fun i _ => l.length - (intOf i).toNat)
  case atStart => exact ⟨0, Nat.zero_le _, rfl, Ext.refl _ _⟩
  case round =>
   obtain ⟨j, hj, rfl, xx⟩ := hrel
   have hj4 : (j : Int) ≤ 4398046511104 := by have := hll.out; omega
   by_cases hlt : j < l.length
   ·obtain ⟨g, o, s, rfl, hgB, e0, e1, e2, e3, hy⟩ := K.out j hlt
    have hfy := hid (HF.out l[j] (List.getElem_mem hlt))
    generalize l[j] = y at *
    obtain ⟨sl', hs', hks', _⟩ := id hy.open
    obtain rfl : s = sl' := by simpa [nv] using hs'
    clear hs'
    obtain ⟨p', c', rfl, _⟩ := hks'.kid
    clear hks'
    replace ⟨e0, e1, e2, e3⟩ := F4 xx e0 e1 e2 e3
    replace hy := hid ((hy.keepF xx).keepF (Ext.alloc (fun _ => False) wr (.cells #[.int .i64 y.k, .string (sv y.t), .int .i64 y.n, .slice p' y.l.length c'] 24)))
    replace xx := xx.of_eq (Ext.alloc (fun _ => False) wr (.cells #[.int .i64 y.k, .string (sv y.t), .int .i64 y.n, .slice p' y.l.length c'] 24))
    obtain ⟨d0, d1, d2, d3⟩ := nd_cells wr y.k y.n (sv y.t) (.slice p' y.l.length c')
    simp only [nv] at hy
    go_wp2_with ((first | go_at_call 64 | go_at_call 58 | go_at_call 59 | go_at_call 60 | go_at_call 61 | go_at_call 122 | go_at_call 124 | go_at_call 128); refine (hfy.out _ _ ⟨hy.out, HT.out.keepF xx⟩).mono ?_; rintro e w1 ⟨rfl, x1⟩)

    go_roundw
    case rel => exact ⟨j + 1, by omega, by go_num, xx.of_eq x1⟩
    case measure => simp [intOf]; omega
   ·go_wp2
    go_ret
    exact .mk rfl xx

def all_64 := @gr0_ 64 (by simp)
def all_58 := @gr0_ 58 (by simp)
def all_59 := @gr0_ 59 (by simp)
def all_60 := @gr0_ 60 (by simp)
def all_61 := @gr0_ 61 (by simp)
def all_122 := @gr0_ 122 (by simp)
def all_124 := @gr0_ 124 (by simp)
def all_128 := @gr0_ 128 (by simp)
theorem all_129 (l : List Tr) (B : Nat) (v : Value) (w : World) (h : KidsAt B w v l) (hT : Tabs B w)
  (hf : ∀ y ∈ l, ∀ u w', NT B w' u y → Calls Tryz.prog 129 #[u] w' (Ans true w')) : Calls Tryz.prog 57 #[v, .func (.func 129) #[] #[]] w (Ans true w) := by
 obtain ⟨p, c, rfl, hcp, hkid⟩ := h.kid
 have K := hid hkid
 have hll := hid hcp.2
 have HF := hid hf
 have HT := hid hT
 clear h hkid hcp hf hT
 go_enter Tryz.func57, Tryz.ntmps57
 go_wp2
 go_loopw [9] (fun i wr => ∃ j : Nat, j ≤ l.length ∧ i = .int .i64 j ∧ Fx w wr) (fun i _ => l.length - (intOf i).toNat)
 case atStart => exact ⟨0, Nat.zero_le _, rfl, Ext.refl _ _⟩
 case round =>
  obtain ⟨j, hj, rfl, xx⟩ := hrel
  have hj4 : (j : Int) ≤ 4398046511104 := by have := hll.out; omega
  by_cases hlt : j < l.length
  ·obtain ⟨g, o, s, rfl, hgB, e0, e1, e2, e3, hy⟩ := K.out j hlt
   have hfy := hid (HF.out l[j] (List.getElem_mem hlt))
   generalize l[j] = y at *
   obtain ⟨sl', hs', hks', _⟩ := id hy.open
   obtain rfl : s = sl' := by simpa [nv] using hs'
   clear hs'
   obtain ⟨p', c', rfl, _⟩ := hks'.kid
   clear hks'
   replace ⟨e0, e1, e2, e3⟩ := F4 xx e0 e1 e2 e3
   replace hy := hid ((hy.keepF xx).keepF (Ext.alloc (fun _ => False) wr (.cells #[.int .i64 y.k, .string (sv y.t), .int .i64 y.n, .slice p' y.l.length c'] 24)))
   replace xx := xx.of_eq (Ext.alloc (fun _ => False) wr (.cells #[.int .i64 y.k, .string (sv y.t), .int .i64 y.n, .slice p' y.l.length c'] 24))
   obtain ⟨d0, d1, d2, d3⟩ := nd_cells wr y.k y.n (sv y.t) (.slice p' y.l.length c')
   simp only [nv] at hy
   go_wp2_with (go_at_call 129; refine (hfy.out _ _ ⟨hy.out, HT.out.keepF xx⟩).mono ?_; rintro e w1 ⟨rfl, x1⟩)

   go_roundw
   case rel => exact ⟨j + 1, by omega, by go_num, xx.of_eq x1⟩
   case measure => simp [intOf]; omega
  ·go_wp2
   go_ret
   exact .mk rfl xx

end Go.Proofs.YtpmlmpibpmoclaaGreatDoor
