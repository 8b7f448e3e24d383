/-
  The program's own tests on trees: kids one by one.
-/
import Derived.Test.YtpmlmpibpmoclaaGreatDoorT2
namespace Go.Proofs.YtpmlmpibpmoclaaGreatDoor
set_option linter.all false
open Go.RowKit
set_option maxRecDepth 20000
set_option maxHeartbeats 8000000

theorem gr1_ {f0 : Nat} (hf_ : f0 = 64 ∨ f0 = 119 ∨ f0 = 65 ∨ f0 = 115 ∨ f0 = 123 ∨ f0 = 111 ∨ f0 = 112) (k n : Int) (t : Bs) (ya : Tr) (B : Nat) (v : Value) (w : World) (h : NT B w v (.mk k t n [ya])) (fa : ∀ u w', NT B w' u ya → Calls Tryz.prog f0 #[u] w' (Ans true w')) (gg cc : Nat) (q0 : w.cell? ⟨gg, 0, none⟩ = some (.func (.func f0) #[] #[])) : Calls Tryz.prog 109 #[v, .slice (some ⟨gg, 0, none⟩) 1 cc] w (Ans true w) := by
 rcases hf_ with rfl | rfl | rfl | rfl | rfl | rfl | rfl
 all_goals
  obtain ⟨sl, rfl, hks, hkr, hnr, htl⟩ := id h.node.open
  have hT := hid h.tab
  simp only [Tr.t, Tr.l] at hks htl
  obtain ⟨p, c, rfl, hcp, hkid⟩ := hks.kid
  have xw : Fx w (w.alloc (.cells #[.int .i64 k, .string (sv t), .int .i64 n, .slice p 1 c] 24)) := Ext.alloc _ _ _
  have C := hid (nd_cells w k n (sv t) (.slice p 1 c))
  have K := hid hkid
  clear h hks hkid hcp hkr hnr
  simp only [nv, Tr.k, Tr.t, Tr.n, Tr.l]
  obtain ⟨g, o, s0, rfl, hgB, a0, a1, a2, a3, ha⟩ := K.out 0 (by simp)
  simp only [gZ, gS, zM, oM, aZ, lC, lN, zA, Nat.reduceAdd, Nat.reduceMul] at *
  replace ⟨a0, a1, a2, a3⟩ := F4 xw a0 a1 a2 a3
  replace ha := hid (ha.keepF xw)
  simp only [nv] at ha
  replace q0 := xw.cellF q0
  replace hT := hid (hT.out.keepF xw)
  obtain ⟨c0, c1, c2, c3⟩ := C.out
  clear K
  replace fa := hid fa
  go_enter Tryz.func109, Tryz.ntmps109
  go_wp2
  go_loopw [15] (fun i wr => Hid True ∧ (i = .int .i64 0 ∨ i = .int .i64 1) ∧ Fx (w.alloc (.cells #[.int .i64 k, .string (sv t), .int .i64 n, .slice (some ⟨g, o, none⟩) 1 c] 24)) wr) (fun i _ => 1 - (intOf i).toNat)
  case atStart => exact ⟨trivial, .inl rfl, Ext.refl _ _⟩
  case round =>
   obtain ⟨_, hi, xx⟩ := hrel
   replace c3 := xx.cellF c3
   replace q0 := xx.cellF q0
   replace ⟨a0, a1, a2, a3⟩ := F4 xx a0 a1 a2 a3
   replace hT := hid (hT.out.keepF xx)
   replace ha := hid (ha.out.keepF xx)
   rcases hi with rfl | rfl
   ·go_wp2_with ((first | go_at_call 64 | go_at_call 119 | go_at_call 65 | go_at_call 115 | go_at_call 123 | go_at_call 111 | go_at_call 112); refine (fa.out _ _ ⟨ha.out, hT.out⟩).mono ?_; rintro e w1 ⟨rfl, x1⟩)
    go_roundw
    case rel => exact ⟨trivial, by simp, xx.of_eq x1⟩
    case measure => simp [intOf]
   ·go_wp2
    go_ret
    exact .mk rfl (xw.of_eq xx)

def rowc_64 := @gr1_ 64 (by simp)
def rowc_119 := @gr1_ 119 (by simp)
def rowc_65 := @gr1_ 65 (by simp)
def rowc_115 := @gr1_ 115 (by simp)
def rowc_123 := @gr1_ 123 (by simp)
def rowc_111 := @gr1_ 111 (by simp)
def rowc_112 := @gr1_ 112 (by simp)
theorem row_64 (k n : Int) (t : Bs) (ya : Tr) (B : Nat) (v : Value) (w : World) (h : NT B w v (.mk k t n [ya])) (fa : ∀ u w', NT B w' u ya → Calls Tryz.prog 64 #[u] w' (Ans true w')) (T : TypeId) (gg cc : Nat) (hg : w.heap.size = gg) : Calls Tryz.prog 109 #[v, .slice (some ⟨gg, 0, none⟩) 1 cc] (w.alloc (.cells #[.func (.func 64) #[] #[]] T)) (Ans true w) := by
 subst hg
 exact (rowc_64 k n t ya B v _ (h.keepF (Ext.alloc _ _ _)) fa _ cc (cell_alloc _ _ _ 0 _ rfl)).mono fun _ _ h => ⟨h.1, (Ext.alloc _ _ _).of_eq h.2⟩

theorem gr2_ {f0 : Nat} {f1 : Nat} (hf_ : (f0 = 64 ∧ f1 = 64) ∨ (f0 = 126 ∧ f1 = 64) ∨ (f0 = 115 ∧ f1 = 64) ∨ (f0 = 64 ∧ f1 = 117) ∨ (f0 = 116 ∧ f1 = 117)) (k n : Int) (t : Bs) (ya yb : Tr) (B : Nat) (v : Value) (w : World) (h : NT B w v (.mk k t n [ya, yb])) (fa : ∀ u w', NT B w' u ya → Calls Tryz.prog f0 #[u] w' (Ans true w')) (fb : ∀ u w', NT B w' u yb → Calls Tryz.prog f1 #[u] w' (Ans true w')) (gg cc : Nat) (q0 : w.cell? ⟨gg, 0, none⟩ = some (.func (.func f0) #[] #[])) (q1 : w.cell? ⟨gg, 1, none⟩ = some (.func (.func f1) #[] #[])) : Calls Tryz.prog 109 #[v, .slice (some ⟨gg, 0, none⟩) 2 cc] w (Ans true w) := by
 rcases hf_ with ⟨rfl, rfl⟩ | ⟨rfl, rfl⟩ | ⟨rfl, rfl⟩ | ⟨rfl, rfl⟩ | ⟨rfl, rfl⟩
 all_goals
  obtain ⟨sl, rfl, hks, hkr, hnr, htl⟩ := id h.node.open
  have hT := hid h.tab
  simp only [Tr.t, Tr.l] at hks htl
  obtain ⟨p, c, rfl, hcp, hkid⟩ := hks.kid
  have xw : Fx w (w.alloc (.cells #[.int .i64 k, .string (sv t), .int .i64 n, .slice p 2 c] 24)) := Ext.alloc _ _ _
  have C := hid (nd_cells w k n (sv t) (.slice p 2 c))
  have K := hid hkid
  clear h hks hkid hcp hkr hnr
  simp only [nv, Tr.k, Tr.t, Tr.n, Tr.l]
  obtain ⟨g, o, s0, rfl, hgB, a0, a1, a2, a3, ha⟩ := K.out 0 (by simp)
  obtain ⟨g1, o1, s1, hgo, hgB1, b0, b1, b2, b3, hb⟩ := K.out 1 (by simp)
  simp only [Option.some.injEq, Addr.mk.injEq, and_true] at hgo
  obtain ⟨rfl, rfl⟩ := hgo
  simp only [gZ, gS, zM, oM, aZ, lC, lN, zA, Nat.reduceAdd, Nat.reduceMul] at *
  replace ⟨a0, a1, a2, a3⟩ := F4 xw a0 a1 a2 a3
  replace ha := hid (ha.keepF xw)
  simp only [nv] at ha
  replace ⟨b0, b1, b2, b3⟩ := F4 xw b0 b1 b2 b3
  replace hb := hid (hb.keepF xw)
  simp only [nv] at hb
  replace q0 := xw.cellF q0
  replace q1 := xw.cellF q1
  replace hT := hid (hT.out.keepF xw)
  obtain ⟨c0, c1, c2, c3⟩ := C.out
  clear K
  replace fa := hid fa
  replace fb := hid fb
  go_enter Tryz.func109, Tryz.ntmps109
  go_wp2
  go_loopw [15] (fun i wr => Hid True ∧ (i = .int .i64 0 ∨ i = .int .i64 1 ∨ i = .int .i64 2) ∧ Fx (w.alloc (.cells #[.int .i64 k, .string (sv t), .int .i64 n, .slice (some ⟨g, o, none⟩) 2 c] 24)) wr) (fun i _ => 2 - (intOf i).toNat)
  case atStart => exact ⟨trivial, .inl rfl, Ext.refl _ _⟩
  case round =>
   obtain ⟨_, hi, xx⟩ := hrel
   replace c3 := xx.cellF c3
   replace q0 := xx.cellF q0
   replace q1 := xx.cellF q1
   replace ⟨a0, a1, a2, a3⟩ := F4 xx a0 a1 a2 a3
   replace ⟨b0, b1, b2, b3⟩ := F4 xx b0 b1 b2 b3
   replace hT := hid (hT.out.keepF xx)
   replace ha := hid (ha.out.keepF xx)
   replace hb := hid (hb.out.keepF xx)
   rcases hi with rfl | rfl | rfl
   ·go_wp2_with ((first | go_at_call 64 | go_at_call 126 | go_at_call 115 | go_at_call 116); refine (fa.out _ _ ⟨ha.out, hT.out⟩).mono ?_; rintro e w1 ⟨rfl, x1⟩)
    go_roundw
    case rel => exact ⟨trivial, by simp, xx.of_eq x1⟩
    case measure => simp [intOf]
   ·go_wp2_with ((first | go_at_call 64 | go_at_call 117); refine (fb.out _ _ ⟨hb.out, hT.out⟩).mono ?_; rintro e w1 ⟨rfl, x1⟩)
    go_roundw
    case rel => exact ⟨trivial, by simp, xx.of_eq x1⟩
    case measure => simp [intOf]
   ·go_wp2
    go_ret
    exact .mk rfl (xw.of_eq xx)

def rowc_64_64 := @gr2_ 64 64 (by simp)
def rowc_126_64 := @gr2_ 126 64 (by simp)
def rowc_115_64 := @gr2_ 115 64 (by simp)
def rowc_64_117 := @gr2_ 64 117 (by simp)
def rowc_116_117 := @gr2_ 116 117 (by simp)
theorem row_64_64 (k n : Int) (t : Bs) (ya yb : Tr) (B : Nat) (v : Value) (w : World) (h : NT B w v (.mk k t n [ya, yb])) (fa : ∀ u w', NT B w' u ya → Calls Tryz.prog 64 #[u] w' (Ans true w')) (fb : ∀ u w', NT B w' u yb → Calls Tryz.prog 64 #[u] w' (Ans true w')) (T : TypeId) (gg cc : Nat) (hg : w.heap.size = gg) : Calls Tryz.prog 109 #[v, .slice (some ⟨gg, 0, none⟩) 2 cc] (w.alloc (.cells #[.func (.func 64) #[] #[], .func (.func 64) #[] #[]] T)) (Ans true w) := by
 subst hg
 exact (rowc_64_64 k n t ya yb B v _ (h.keepF (Ext.alloc _ _ _)) fa fb _ cc (cell_alloc _ _ _ 0 _ rfl) (cell_alloc _ _ _ 1 _ rfl)).mono fun _ _ h => ⟨h.1, (Ext.alloc _ _ _).of_eq h.2⟩

theorem gr3_ {f0 : Nat} {f1 : Nat} {f2 : Nat} (hf_ : (f0 = 64 ∧ f1 = 64 ∧ f2 = 64) ∨ (f0 = 116 ∧ f1 = 115 ∧ f2 = 117) ∨ (f0 = 64 ∧ f1 = 117 ∧ f2 = 118)) (k n : Int) (t : Bs) (ya yb yd : Tr) (B : Nat) (v : Value) (w : World) (h : NT B w v (.mk k t n [ya, yb, yd])) (fa : ∀ u w', NT B w' u ya → Calls Tryz.prog f0 #[u] w' (Ans true w')) (fb : ∀ u w', NT B w' u yb → Calls Tryz.prog f1 #[u] w' (Ans true w')) (fd : ∀ u w', NT B w' u yd → Calls Tryz.prog f2 #[u] w' (Ans true w')) (gg cc : Nat) (q0 : w.cell? ⟨gg, 0, none⟩ = some (.func (.func f0) #[] #[])) (q1 : w.cell? ⟨gg, 1, none⟩ = some (.func (.func f1) #[] #[])) (q2 : w.cell? ⟨gg, 2, none⟩ = some (.func (.func f2) #[] #[])) : Calls Tryz.prog 109 #[v, .slice (some ⟨gg, 0, none⟩) 3 cc] w (Ans true w) := by
 rcases hf_ with ⟨rfl, rfl, rfl⟩ | ⟨rfl, rfl, rfl⟩ | ⟨rfl, rfl, rfl⟩
 all_goals
  obtain ⟨sl, rfl, hks, hkr, hnr, htl⟩ := id h.node.open
  have hT := hid h.tab
  simp only [Tr.t, Tr.l] at hks htl
  obtain ⟨p, c, rfl, hcp, hkid⟩ := hks.kid
  have xw : Fx w (w.alloc (.cells #[.int .i64 k, .string (sv t), .int .i64 n, .slice p 3 c] 24)) := Ext.alloc _ _ _
  have C := hid (nd_cells w k n (sv t) (.slice p 3 c))
  have K := hid hkid
  clear h hks hkid hcp hkr hnr
  simp only [nv, Tr.k, Tr.t, Tr.n, Tr.l]
  obtain ⟨g, o, s0, rfl, hgB, a0, a1, a2, a3, ha⟩ := K.out 0 (by simp)
  obtain ⟨g1, o1, s1, hgo, hgB1, b0, b1, b2, b3, hb⟩ := K.out 1 (by simp)
  simp only [Option.some.injEq, Addr.mk.injEq, and_true] at hgo
  obtain ⟨rfl, rfl⟩ := hgo
  obtain ⟨g2, o2, s2, hgo, hgB2, d0, d1, d2, d3, hd⟩ := K.out 2 (by simp)
  simp only [Option.some.injEq, Addr.mk.injEq, and_true] at hgo
  obtain ⟨rfl, rfl⟩ := hgo
  simp only [gZ, gS, zM, oM, aZ, lC, lN, zA, Nat.reduceAdd, Nat.reduceMul] at *
  replace ⟨a0, a1, a2, a3⟩ := F4 xw a0 a1 a2 a3
  replace ha := hid (ha.keepF xw)
  simp only [nv] at ha
  replace ⟨b0, b1, b2, b3⟩ := F4 xw b0 b1 b2 b3
  replace hb := hid (hb.keepF xw)
  simp only [nv] at hb
  replace ⟨d0, d1, d2, d3⟩ := F4 xw d0 d1 d2 d3
  replace hd := hid (hd.keepF xw)
  simp only [nv] at hd
  replace q0 := xw.cellF q0
  replace q1 := xw.cellF q1
  replace q2 := xw.cellF q2
  replace hT := hid (hT.out.keepF xw)
  obtain ⟨c0, c1, c2, c3⟩ := C.out
  clear K
  replace fa := hid fa
  replace fb := hid fb
  replace fd := hid fd
  go_enter Tryz.func109, Tryz.ntmps109
  go_wp2
  go_loopw [15] (fun i wr => Hid True ∧ (i = .int .i64 0 ∨ i = .int .i64 1 ∨ i = .int .i64 2 ∨ i = .int .i64 3) ∧ Fx (w.alloc (.cells #[.int .i64 k, .string (sv t), .int .i64 n, .slice (some ⟨g, o, none⟩) 3 c] 24)) wr) (fun i _ => 3 - (intOf i).toNat)
  case atStart => exact ⟨trivial, .inl rfl, Ext.refl _ _⟩
  case round =>
   obtain ⟨_, hi, xx⟩ := hrel
   replace c3 := xx.cellF c3
   replace q0 := xx.cellF q0
   replace q1 := xx.cellF q1
   replace q2 := xx.cellF q2
   replace ⟨a0, a1, a2, a3⟩ := F4 xx a0 a1 a2 a3
   replace ⟨b0, b1, b2, b3⟩ := F4 xx b0 b1 b2 b3
   replace ⟨d0, d1, d2, d3⟩ := F4 xx d0 d1 d2 d3
   replace hT := hid (hT.out.keepF xx)
   replace ha := hid (ha.out.keepF xx)
   replace hb := hid (hb.out.keepF xx)
   replace hd := hid (hd.out.keepF xx)
   rcases hi with rfl | rfl | rfl | rfl
   ·go_wp2_with ((first | go_at_call 64 | go_at_call 116); refine (fa.out _ _ ⟨ha.out, hT.out⟩).mono ?_; rintro e w1 ⟨rfl, x1⟩)
    go_roundw
    case rel => exact ⟨trivial, by simp, xx.of_eq x1⟩
    case measure => simp [intOf]
   ·go_wp2_with ((first | go_at_call 64 | go_at_call 115 | go_at_call 117); refine (fb.out _ _ ⟨hb.out, hT.out⟩).mono ?_; rintro e w1 ⟨rfl, x1⟩)
    go_roundw
    case rel => exact ⟨trivial, by simp, xx.of_eq x1⟩
    case measure => simp [intOf]
   ·go_wp2_with ((first | go_at_call 64 | go_at_call 117 | go_at_call 118); refine (fd.out _ _ ⟨hd.out, hT.out⟩).mono ?_; rintro e w1 ⟨rfl, x1⟩)
    go_roundw
    case rel => exact ⟨trivial, by simp, xx.of_eq x1⟩
    case measure => simp [intOf]
   ·go_wp2
    go_ret
    exact .mk rfl (xw.of_eq xx)

def rowc_64_64_64 := @gr3_ 64 64 64 (by simp)
def rowc_116_115_117 := @gr3_ 116 115 117 (by simp)
def rowc_64_117_118 := @gr3_ 64 117 118 (by simp)
theorem row_64_64_64 (k n : Int) (t : Bs) (ya yb yd : Tr) (B : Nat) (v : Value) (w : World) (h : NT B w v (.mk k t n [ya, yb, yd])) (fa : ∀ u w', NT B w' u ya → Calls Tryz.prog 64 #[u] w' (Ans true w')) (fb : ∀ u w', NT B w' u yb → Calls Tryz.prog 64 #[u] w' (Ans true w')) (fd : ∀ u w', NT B w' u yd → Calls Tryz.prog 64 #[u] w' (Ans true w')) (T : TypeId) (gg cc : Nat) (hg : w.heap.size = gg) : Calls Tryz.prog 109 #[v, .slice (some ⟨gg, 0, none⟩) 3 cc] (w.alloc (.cells #[.func (.func 64) #[] #[], .func (.func 64) #[] #[], .func (.func 64) #[] #[]] T)) (Ans true w) := by
 subst hg
 exact (rowc_64_64_64 k n t ya yb yd B v _ (h.keepF (Ext.alloc _ _ _)) fa fb fd _ cc (cell_alloc _ _ _ 0 _ rfl) (cell_alloc _ _ _ 1 _ rfl) (cell_alloc _ _ _ 2 _ rfl)).mono fun _ _ h => ⟨h.1, (Ext.alloc _ _ _).of_eq h.2⟩

theorem row_126_64 (k n : Int) (t : Bs) (ya yb : Tr) (B : Nat) (v : Value) (w : World) (h : NT B w v (.mk k t n [ya, yb])) (fa : ∀ u w', NT B w' u ya → Calls Tryz.prog 126 #[u] w' (Ans true w')) (fb : ∀ u w', NT B w' u yb → Calls Tryz.prog 64 #[u] w' (Ans true w')) (T : TypeId) (gg cc : Nat) (hg : w.heap.size = gg) : Calls Tryz.prog 109 #[v, .slice (some ⟨gg, 0, none⟩) 2 cc] (w.alloc (.cells #[.func (.func 126) #[] #[], .func (.func 64) #[] #[]] T)) (Ans true w) := by
 subst hg
 exact (rowc_126_64 k n t ya yb B v _ (h.keepF (Ext.alloc _ _ _)) fa fb _ cc (cell_alloc _ _ _ 0 _ rfl) (cell_alloc _ _ _ 1 _ rfl)).mono fun _ _ h => ⟨h.1, (Ext.alloc _ _ _).of_eq h.2⟩

theorem row_116_115_117 (k n : Int) (t : Bs) (ya yb yd : Tr) (B : Nat) (v : Value) (w : World) (h : NT B w v (.mk k t n [ya, yb, yd])) (fa : ∀ u w', NT B w' u ya → Calls Tryz.prog 116 #[u] w' (Ans true w')) (fb : ∀ u w', NT B w' u yb → Calls Tryz.prog 115 #[u] w' (Ans true w')) (fd : ∀ u w', NT B w' u yd → Calls Tryz.prog 117 #[u] w' (Ans true w')) (T : TypeId) (gg cc : Nat) (hg : w.heap.size = gg) : Calls Tryz.prog 109 #[v, .slice (some ⟨gg, 0, none⟩) 3 cc] (w.alloc (.cells #[.func (.func 116) #[] #[], .func (.func 115) #[] #[], .func (.func 117) #[] #[]] T)) (Ans true w) := by
 subst hg
 exact (rowc_116_115_117 k n t ya yb yd B v _ (h.keepF (Ext.alloc _ _ _)) fa fb fd _ cc (cell_alloc _ _ _ 0 _ rfl) (cell_alloc _ _ _ 1 _ rfl) (cell_alloc _ _ _ 2 _ rfl)).mono fun _ _ h => ⟨h.1, (Ext.alloc _ _ _).of_eq h.2⟩

theorem row_115_64 (k n : Int) (t : Bs) (ya yb : Tr) (B : Nat) (v : Value) (w : World) (h : NT B w v (.mk k t n [ya, yb])) (fa : ∀ u w', NT B w' u ya → Calls Tryz.prog 115 #[u] w' (Ans true w')) (fb : ∀ u w', NT B w' u yb → Calls Tryz.prog 64 #[u] w' (Ans true w')) (T : TypeId) (gg cc : Nat) (hg : w.heap.size = gg) : Calls Tryz.prog 109 #[v, .slice (some ⟨gg, 0, none⟩) 2 cc] (w.alloc (.cells #[.func (.func 115) #[] #[], .func (.func 64) #[] #[]] T)) (Ans true w) := by
 subst hg
 exact (rowc_115_64 k n t ya yb B v _ (h.keepF (Ext.alloc _ _ _)) fa fb _ cc (cell_alloc _ _ _ 0 _ rfl) (cell_alloc _ _ _ 1 _ rfl)).mono fun _ _ h => ⟨h.1, (Ext.alloc _ _ _).of_eq h.2⟩

theorem row_64_117_118 (k n : Int) (t : Bs) (ya yb yd : Tr) (B : Nat) (v : Value) (w : World) (h : NT B w v (.mk k t n [ya, yb, yd])) (fa : ∀ u w', NT B w' u ya → Calls Tryz.prog 64 #[u] w' (Ans true w')) (fb : ∀ u w', NT B w' u yb → Calls Tryz.prog 117 #[u] w' (Ans true w')) (fd : ∀ u w', NT B w' u yd → Calls Tryz.prog 118 #[u] w' (Ans true w')) (T : TypeId) (gg cc : Nat) (hg : w.heap.size = gg) : Calls Tryz.prog 109 #[v, .slice (some ⟨gg, 0, none⟩) 3 cc] (w.alloc (.cells #[.func (.func 64) #[] #[], .func (.func 117) #[] #[], .func (.func 118) #[] #[]] T)) (Ans true w) := by
 subst hg
 exact (rowc_64_117_118 k n t ya yb yd B v _ (h.keepF (Ext.alloc _ _ _)) fa fb fd _ cc (cell_alloc _ _ _ 0 _ rfl) (cell_alloc _ _ _ 1 _ rfl) (cell_alloc _ _ _ 2 _ rfl)).mono fun _ _ h => ⟨h.1, (Ext.alloc _ _ _).of_eq h.2⟩

theorem row_64_117 (k n : Int) (t : Bs) (ya yb : Tr) (B : Nat) (v : Value) (w : World) (h : NT B w v (.mk k t n [ya, yb])) (fa : ∀ u w', NT B w' u ya → Calls Tryz.prog 64 #[u] w' (Ans true w')) (fb : ∀ u w', NT B w' u yb → Calls Tryz.prog 117 #[u] w' (Ans true w')) (T : TypeId) (gg cc : Nat) (hg : w.heap.size = gg) : Calls Tryz.prog 109 #[v, .slice (some ⟨gg, 0, none⟩) 2 cc] (w.alloc (.cells #[.func (.func 64) #[] #[], .func (.func 117) #[] #[]] T)) (Ans true w) := by
 subst hg
 exact (rowc_64_117 k n t ya yb B v _ (h.keepF (Ext.alloc _ _ _)) fa fb _ cc (cell_alloc _ _ _ 0 _ rfl) (cell_alloc _ _ _ 1 _ rfl)).mono fun _ _ h => ⟨h.1, (Ext.alloc _ _ _).of_eq h.2⟩

theorem row_119 (k n : Int) (t : Bs) (ya : Tr) (B : Nat) (v : Value) (w : World) (h : NT B w v (.mk k t n [ya])) (fa : ∀ u w', NT B w' u ya → Calls Tryz.prog 119 #[u] w' (Ans true w')) (T : TypeId) (gg cc : Nat) (hg : w.heap.size = gg) : Calls Tryz.prog 109 #[v, .slice (some ⟨gg, 0, none⟩) 1 cc] (w.alloc (.cells #[.func (.func 119) #[] #[]] T)) (Ans true w) := by
 subst hg
 exact (rowc_119 k n t ya B v _ (h.keepF (Ext.alloc _ _ _)) fa _ cc (cell_alloc _ _ _ 0 _ rfl)).mono fun _ _ h => ⟨h.1, (Ext.alloc _ _ _).of_eq h.2⟩

theorem row_116_117 (k n : Int) (t : Bs) (ya yb : Tr) (B : Nat) (v : Value) (w : World) (h : NT B w v (.mk k t n [ya, yb])) (fa : ∀ u w', NT B w' u ya → Calls Tryz.prog 116 #[u] w' (Ans true w')) (fb : ∀ u w', NT B w' u yb → Calls Tryz.prog 117 #[u] w' (Ans true w')) (T : TypeId) (gg cc : Nat) (hg : w.heap.size = gg) : Calls Tryz.prog 109 #[v, .slice (some ⟨gg, 0, none⟩) 2 cc] (w.alloc (.cells #[.func (.func 116) #[] #[], .func (.func 117) #[] #[]] T)) (Ans true w) := by
 subst hg
 exact (rowc_116_117 k n t ya yb B v _ (h.keepF (Ext.alloc _ _ _)) fa fb _ cc (cell_alloc _ _ _ 0 _ rfl) (cell_alloc _ _ _ 1 _ rfl)).mono fun _ _ h => ⟨h.1, (Ext.alloc _ _ _).of_eq h.2⟩

theorem row_65 (k n : Int) (t : Bs) (ya : Tr) (B : Nat) (v : Value) (w : World) (h : NT B w v (.mk k t n [ya])) (fa : ∀ u w', NT B w' u ya → Calls Tryz.prog 65 #[u] w' (Ans true w')) (T : TypeId) (gg cc : Nat) (hg : w.heap.size = gg) : Calls Tryz.prog 109 #[v, .slice (some ⟨gg, 0, none⟩) 1 cc] (w.alloc (.cells #[.func (.func 65) #[] #[]] T)) (Ans true w) := by
 subst hg
 exact (rowc_65 k n t ya B v _ (h.keepF (Ext.alloc _ _ _)) fa _ cc (cell_alloc _ _ _ 0 _ rfl)).mono fun _ _ h => ⟨h.1, (Ext.alloc _ _ _).of_eq h.2⟩

theorem row_115 (k n : Int) (t : Bs) (ya : Tr) (B : Nat) (v : Value) (w : World) (h : NT B w v (.mk k t n [ya])) (fa : ∀ u w', NT B w' u ya → Calls Tryz.prog 115 #[u] w' (Ans true w')) (T : TypeId) (gg cc : Nat) (hg : w.heap.size = gg) : Calls Tryz.prog 109 #[v, .slice (some ⟨gg, 0, none⟩) 1 cc] (w.alloc (.cells #[.func (.func 115) #[] #[]] T)) (Ans true w) := by
 subst hg
 exact (rowc_115 k n t ya B v _ (h.keepF (Ext.alloc _ _ _)) fa _ cc (cell_alloc _ _ _ 0 _ rfl)).mono fun _ _ h => ⟨h.1, (Ext.alloc _ _ _).of_eq h.2⟩

theorem row_123 (k n : Int) (t : Bs) (ya : Tr) (B : Nat) (v : Value) (w : World) (h : NT B w v (.mk k t n [ya])) (fa : ∀ u w', NT B w' u ya → Calls Tryz.prog 123 #[u] w' (Ans true w')) (T : TypeId) (gg cc : Nat) (hg : w.heap.size = gg) : Calls Tryz.prog 109 #[v, .slice (some ⟨gg, 0, none⟩) 1 cc] (w.alloc (.cells #[.func (.func 123) #[] #[]] T)) (Ans true w) := by
 subst hg
 exact (rowc_123 k n t ya B v _ (h.keepF (Ext.alloc _ _ _)) fa _ cc (cell_alloc _ _ _ 0 _ rfl)).mono fun _ _ h => ⟨h.1, (Ext.alloc _ _ _).of_eq h.2⟩

theorem row_111 (k n : Int) (t : Bs) (ya : Tr) (B : Nat) (v : Value) (w : World) (h : NT B w v (.mk k t n [ya])) (fa : ∀ u w', NT B w' u ya → Calls Tryz.prog 111 #[u] w' (Ans true w')) (T : TypeId) (gg cc : Nat) (hg : w.heap.size = gg) : Calls Tryz.prog 109 #[v, .slice (some ⟨gg, 0, none⟩) 1 cc] (w.alloc (.cells #[.func (.func 111) #[] #[]] T)) (Ans true w) := by
 subst hg
 exact (rowc_111 k n t ya B v _ (h.keepF (Ext.alloc _ _ _)) fa _ cc (cell_alloc _ _ _ 0 _ rfl)).mono fun _ _ h => ⟨h.1, (Ext.alloc _ _ _).of_eq h.2⟩

theorem row_112 (k n : Int) (t : Bs) (ya : Tr) (B : Nat) (v : Value) (w : World) (h : NT B w v (.mk k t n [ya])) (fa : ∀ u w', NT B w' u ya → Calls Tryz.prog 112 #[u] w' (Ans true w')) (T : TypeId) (gg cc : Nat) (hg : w.heap.size = gg) : Calls Tryz.prog 109 #[v, .slice (some ⟨gg, 0, none⟩) 1 cc] (w.alloc (.cells #[.func (.func 112) #[] #[]] T)) (Ans true w) := by
 subst hg
 exact (rowc_112 k n t ya B v _ (h.keepF (Ext.alloc _ _ _)) fa _ cc (cell_alloc _ _ _ 0 _ rfl)).mono fun _ _ h => ⟨h.1, (Ext.alloc _ _ _).of_eq h.2⟩

end Go.Proofs.YtpmlmpibpmoclaaGreatDoor
