/-
  The program's own tests on trees: expressions and statements, all; what is no expression, no type, no statement.
-/
import Derived.Test.YtpmlmpibpmoclaaGreatDoorT8
namespace Go.Proofs.YtpmlmpibpmoclaaGreatDoor
set_option linter.all false
set_option maxRecDepth 20000
set_option maxHeartbeats 2000000
open Go.RowKit

theorem allE_mem {l : List Tr} (h : allE l = true) : ∀ y ∈ l, isE y = true := by
 induction l with
 | nil => intro y hy; cases hy
 | cons x r ih =>
  simp [allE] at h
  intro y hy
  rcases List.mem_cons.1 hy with rfl | hy
  ·exact h.1
  ·exact ih h.2 y hy
theorem allS_mem {l : List Tr} (h : allS l = true) : ∀ y ∈ l, isS y = true := by
 induction l with
 | nil => intro y hy; cases hy
 | cons x r ih =>
  simp [allS] at h
  intro y hy
  rcases List.mem_cons.1 hy with rfl | hy
  ·exact h.1
  ·exact ih h.2 y hy
theorem propsE_mem {l : List Tr} (h : propsE l = true) : ∀ y ∈ l, ∃ t z, y = .mk 10 t 0 [z] ∧ signs t = true ∧ isE z = true := by
 induction l with
 | nil => intro y hy; cases hy
 | cons x r ih =>
  obtain ⟨k, t, n, m⟩ := x
  rcases m with _ | ⟨z, _ | ⟨z2, m⟩⟩ <;> simp [propsE] at h
  obtain ⟨⟨⟨⟨rfl, rfl⟩, h3⟩, h4⟩, h5⟩ := h
  intro y hy
  rcases List.mem_cons.1 hy with rfl | hy
  ·exact ⟨t, z, rfl, h3, h4⟩
  ·exact ih h5 y hy
theorem blk_of {k n : Int} {t : Bs} {l : List Tr} (h : k = 52 ∧ allS l = true ∧ t = [] ∧ n = 0) : isBlk (.mk k t n l) = true := by
 obtain ⟨rfl, h, rfl, rfl⟩ := h
 unfold isBlk isS
 simp [Tr.k, h]

theorem texpr_step {N : Nat} (ih : TExprC N) (ihS : TStmtC N) : TExprC (N + 1) := by
 rintro ⟨k, t, n, l⟩ hx hE B v w h
 have hc : cnts l < N := by simp [cnt] at hx; omega
 unfold isE at hE
 by_cases h1 : k = 1
 ·subst h1; simp at hE
  obtain ⟨⟨⟨rfl, a⟩, b⟩, rfl⟩ := hE
  exact t64_1 n B v w h a b
 by_cases h2 : k = 2
 ·subst h2; simp at hE
  obtain ⟨⟨rfl, a⟩, rfl⟩ := hE
  exact t64_2 t B v w h a
 by_cases h3 : k = 3
 ·subst h3; simp at hE
  obtain ⟨⟨rfl, rfl | rfl⟩, rfl⟩ := hE
  ·exact t64_3_0 B v w h
  ·exact t64_3_1 B v w h
 by_cases h4 : k = 4
 ·subst h4; simp at hE
  obtain ⟨⟨rfl, rfl⟩, rfl⟩ := hE
  exact t64_4 B v w h
 by_cases h5 : k = 5
 ·subst h5; simp at hE
  obtain ⟨⟨rfl, rfl⟩, rfl⟩ := hE
  exact t64_5 B v w h
 by_cases h7 : k = 7
 ·subst h7; simp at hE
  obtain ⟨⟨rfl, rfl⟩, rfl⟩ := hE
  exact t64_7 B v w h
 by_cases h6 : k = 6
 ·subst h6; simp at hE
  obtain ⟨⟨rfl, a⟩, rfl⟩ := hE
  exact t64_6 t B v w h a
 by_cases h8 : k = 8
 ·subst h8; simp at hE
  obtain ⟨⟨rfl, rfl⟩, a⟩ := hE
  exact t64_8 ih l B v w h hc (allE_mem a)
 by_cases h9 : k = 9
 ·subst h9; simp at hE
  obtain ⟨a, rfl, rfl⟩ := hE
  exact t64_9 ih l B v w h hc (propsE_mem a)
 by_cases h11 : k = 11
 ·subst h11
  rcases l with _ | ⟨p, _ | ⟨ty, _ | ⟨⟨bk, bt, bn, bl⟩, _ | ⟨z, m⟩⟩⟩⟩ <;> simp at hE
  obtain ⟨⟨rfl, rfl⟩, ⟨a, b⟩, d⟩ := hE
  exact t64_11 ihS p ty _ B v w h (by simp only [cnts] at hc; omega) a b (blk_of d)
 by_cases h15 : k = 15
 ·subst h15
  rcases l with _ | ⟨x, _ | ⟨y, m⟩⟩ <;> simp [unOps] at hE
  have hc1 : cnt x < N := by simp only [cnts] at hc; omega
  obtain ⟨⟨rfl, rfl | rfl | rfl⟩, a⟩ := hE
  ·exact t64_15_0 ih x B v w h hc1 a
  ·exact t64_15_1 ih x B v w h hc1 a
  ·exact t64_15_2 ih x B v w h hc1 a
 by_cases h16 : k = 16
 ·subst h16
  rcases l with _ | ⟨x, _ | ⟨y, _ | ⟨z, m⟩⟩⟩ <;> simp at hE
  have hc1 : cnt x < N ∧ cnt y < N := by simp only [cnts] at hc; omega
  obtain ⟨⟨rfl, d⟩, a, b⟩ := hE
  exact t64_16 ih t x y B v w h hc1.1 hc1.2 a b (by simpa using d)
 by_cases h17 : k = 17
 ·subst h17
  rcases l with _ | ⟨x, _ | ⟨y, _ | ⟨z, _ | ⟨z2, m⟩⟩⟩⟩ <;> simp at hE
  have hc1 : cnt x < N ∧ cnt y < N ∧ cnt z < N := by simp only [cnts] at hc; omega
  obtain ⟨⟨rfl, rfl⟩, ⟨a, b⟩, d⟩ := hE
  exact t64_17 ih x y z B v w h hc1.1 hc1.2.1 a b hc1.2.2 d
 by_cases h18 : k = 18
 ·subst h18
  rcases l with _ | ⟨x, _ | ⟨y, _ | ⟨z, m⟩⟩⟩ <;> simp at hE
  have hc1 : cnt x < N ∧ cnt y < N := by simp only [cnts] at hc; omega
  obtain ⟨⟨rfl, rfl⟩, ⟨a, b⟩, d⟩ := hE
  exact t64_18 ih x y B v w h hc1.1 hc1.2 a b d
 by_cases h19 : k = 19
 ·subst h19; simp at hE
  obtain ⟨⟨⟨rfl, rfl⟩, b⟩, a⟩ := hE
  exact t64_19 ih l B v w h hc (allE_mem a) (by cases l <;> simp at b ⊢)
 by_cases h20 : k = 20
 ·subst h20; simp at hE
  obtain ⟨⟨rfl, b⟩, a⟩ := hE
  exact t64_20 ih t l B v w h hc (allE_mem a) b
 by_cases h21 : k = 21
 ·subst h21
  rcases l with _ | ⟨x, _ | ⟨y, m⟩⟩ <;> simp at hE
  have hc1 : cnt x < N := by simp only [cnts] at hc; omega
  obtain ⟨⟨rfl, b⟩, a⟩ := hE
  exact t64_21 ih t x B v w h hc1 a b
 by_cases h22 : k = 22
 ·subst h22
  rcases l with _ | ⟨x, _ | ⟨y, _ | ⟨z, m⟩⟩⟩ <;> simp at hE
  have hc1 : cnt x < N ∧ cnt y < N := by simp only [cnts] at hc; omega
  obtain ⟨⟨rfl, rfl⟩, a, b⟩ := hE
  exact t64_22 ih x y B v w h hc1.1 hc1.2 a b
 ·exfalso
  simp [h1, h2, h3, h4, h5, h6, h7, h8, h9, h11, h15, h16, h17, h18, h19, h20, h21, h22] at hE

theorem tstmt_step {N : Nat} (ih : TExprC N) (ihS : TStmtC N) : TStmtC (N + 1) := by
 rintro ⟨k, t, n, l⟩ hx hS B v w h
 have hc : cnts l < N := by simp [cnt] at hx; omega
 unfold isS at hS
 by_cases h40 : k = 40
 ·subst h40
  rcases l with _ | ⟨x, _ | ⟨y, _ | ⟨z, m⟩⟩⟩ <;> simp at hS
  have hc1 : cnt x < N ∧ cnt y < N := by simp only [cnts] at hc; omega
  obtain ⟨⟨d, rfl | rfl⟩, a, b⟩ := hS
  ·exact t61_40_0 ih t x y B v w h hc1.2 a b d
  ·exact t61_40_1 ih t x y B v w h hc1.2 a b d
 by_cases h41 : k = 41
 ·subst h41
  rcases l with _ | ⟨p, _ | ⟨ty, _ | ⟨⟨bk, bt, bn, bl⟩, _ | ⟨z, m⟩⟩⟩⟩ <;> simp at hS
  obtain ⟨⟨e, rfl⟩, ⟨a, b⟩, d⟩ := hS
  exact t61_41 ihS t p ty _ B v w h (by simp only [cnts] at hc; omega) a b (blk_of d) e
 by_cases h47 : k = 47
 ·subst h47
  rcases l with _ | ⟨x, _ | ⟨y, m⟩⟩ <;> simp at hS
  obtain ⟨⟨rfl, rfl⟩, a⟩ := hS
  exact t61_47 ih x B v w h (by simp only [cnts] at hc; omega) a
 by_cases h51 : k = 51
 ·subst h51
  rcases l with _ | ⟨x, _ | ⟨y, m⟩⟩ <;> simp at hS
  obtain ⟨⟨rfl, rfl⟩, a⟩ := hS
  exact t61_51 ih x B v w h (by simp only [cnts] at hc; omega) a
 by_cases h48 : k = 48
 ·subst h48
  rcases l with _ | ⟨x, _ | ⟨⟨bk, bt, bn, bl⟩, _ | ⟨⟨ck, ct, cn, cl⟩, _ | ⟨z, m⟩⟩⟩⟩ <;> simp at hS
  obtain ⟨⟨rfl, rfl⟩, ⟨a, b⟩, d⟩ := hS
  refine t61_48 ih ihS x _ _ B v w h (by simp only [cnts] at hc; omega) (by simp only [cnts] at hc; omega) (by simp only [cnts] at hc; omega) a (blk_of b) ?_
  unfold isBlkOr
  rcases d with d | d
  ·simp [d]
  ·simp [blk_of d]
 by_cases h49 : k = 49
 ·subst h49
  rcases l with _ | ⟨x, _ | ⟨⟨bk, bt, bn, bl⟩, _ | ⟨z, m⟩⟩⟩ <;> simp at hS
  obtain ⟨⟨rfl, rfl⟩, a, b⟩ := hS
  exact t61_49 ih ihS x _ B v w h (by simp only [cnts] at hc; omega) (by simp only [cnts] at hc; omega) a (blk_of b)
 by_cases h50 : k = 50
 ·subst h50
  rcases l with _ | ⟨x, _ | ⟨y, m⟩⟩ <;> simp at hS
  obtain ⟨⟨rfl, rfl⟩, a⟩ := hS
  exact t61_50 ih x B v w h (by simp only [cnts] at hc; omega) (by unfold isEOr; rcases a with a | a <;> simp [a])
 by_cases h52 : k = 52
 ·subst h52; simp at hS
  obtain ⟨a, rfl, rfl⟩ := hS
  exact t61_52 ihS l B v w h hc (allS_mem a)
 ·exfalso
  simp [h40, h41, h47, h51, h48, h49, h50, h52] at hS

theorem texpr_all (N : Nat) : TExprC N ∧ TStmtC N := by
 induction N with
 | zero => exact ⟨fun x hx => by omega, fun x hx => by omega⟩
 | succ N ih => exact ⟨texpr_step ih.1 ih.2, tstmt_step ih.1 ih.2⟩
theorem expr_t (x : Tr) (hx : isE x = true) (B : Nat) (v : Value) (w : World) (h : NT B w v x) : Calls Tryz.prog 64 #[v] w (Ans true w) := (texpr_all (cnt x + 1)).1 x (Nat.lt_succ_self _) hx B v w h
theorem stmt_t (x : Tr) (hx : isS x = true) (B : Nat) (v : Value) (w : World) (h : NT B w v x) : Calls Tryz.prog 61 #[v] w (Ans true w) := (texpr_all (cnt x + 1)).2 x (Nat.lt_succ_self _) hx B v w h
theorem blk_t (x : Tr) (hx : isBlk x = true) (B : Nat) (v : Value) (w : World) (h : NT B w v x) : Calls Tryz.prog 117 #[v] w (Ans true w) := block_t (texpr_all (cnt x + 1)).2 x (Nat.lt_succ_self _) hx B v w h

/-! ### what is of another kind -/

theorem leaf_no (k : Int) (t : Bs) (n : Int) (l : List Tr) (hk : True ∧ ∀ i ∈ ([1, 2, 3, 4, 5, 6, 7] : List Int), ¬ k = i) (B : Nat) (v : Value) (w : World) (h : NT B w v (.mk k t n l)) : Calls Tryz.prog 127 #[v] w (Ans false w) := by
 obtain ⟨p, c, rfl, hks, hkr, hnr, htl, hcp, hkid, xw, ⟨c0, c1, c2, c3⟩, hd, _, _⟩ := hT_ h
 have xx := xw
 have hk9 := hid hk
 have k1 : (k == 1) = false := by simpa using hk.2 1 (by decide)
 have k2 : (k == 2) = false := by simpa using hk.2 2 (by decide)
 have k3 : (k == 3) = false := by simpa using hk.2 3 (by decide)
 have k4 : (k == 4) = false := by simpa using hk.2 4 (by decide)
 have k5 : (k == 5) = false := by simpa using hk.2 5 (by decide)
 have k6 : (k == 6) = false := by simpa using hk.2 6 (by decide)
 have k7 : (k == 7) = false := by simpa using hk.2 7 (by decide)
 clear h hks hkid hcp hkr hnr hk
 simp only [nv, Tr.k, Tr.t, Tr.n, Tr.l] at *
 go_enter Tryz.func127, Tryz.ntmps127
 go_wp2
 go_ret
 exact .mk rfl xx

theorem expr_no (k : Int) (t : Bs) (n : Int) (l : List Tr) (hk : True ∧ ∀ i ∈ ([1, 2, 3, 4, 5, 6, 7, 8, 9, 11, 15, 16, 17, 18, 19, 20, 21, 22] : List Int), ¬ k = i) (B : Nat) (v : Value) (w : World) (h : NT B w v (.mk k t n l)) : Calls Tryz.prog 64 #[v] w (Ans false w) := by
 obtain ⟨p, c, rfl, hks, hkr, hnr, htl, hcp, hkid, xw, ⟨c0, c1, c2, c3⟩, hd, _, _⟩ := hT_ h
 have xx := xw
 have hk9 := hid hk
 have k1 : (k == 1) = false := by simpa using hk.2 1 (by decide)
 have k2 : (k == 2) = false := by simpa using hk.2 2 (by decide)
 have k3 : (k == 3) = false := by simpa using hk.2 3 (by decide)
 have k4 : (k == 4) = false := by simpa using hk.2 4 (by decide)
 have k5 : (k == 5) = false := by simpa using hk.2 5 (by decide)
 have k6 : (k == 6) = false := by simpa using hk.2 6 (by decide)
 have k7 : (k == 7) = false := by simpa using hk.2 7 (by decide)
 have k8 : (k == 8) = false := by simpa using hk.2 8 (by decide)
 have k9 : (k == 9) = false := by simpa using hk.2 9 (by decide)
 have k11 : (k == 11) = false := by simpa using hk.2 11 (by decide)
 have k15 : (k == 15) = false := by simpa using hk.2 15 (by decide)
 have k16 : (k == 16) = false := by simpa using hk.2 16 (by decide)
 have k17 : (k == 17) = false := by simpa using hk.2 17 (by decide)
 have k18 : (k == 18) = false := by simpa using hk.2 18 (by decide)
 have k19 : (k == 19) = false := by simpa using hk.2 19 (by decide)
 have k20 : (k == 20) = false := by simpa using hk.2 20 (by decide)
 have k21 : (k == 21) = false := by simpa using hk.2 21 (by decide)
 have k22 : (k == 22) = false := by simpa using hk.2 22 (by decide)
 clear h hks hkid hcp hkr hnr hk
 simp only [nv, Tr.k, Tr.t, Tr.n, Tr.l] at *
 by_cases hl : l = []
 ·subst hl
  go_enter Tryz.func64, Tryz.ntmps64
  go_wp2_with ((first | (go_at_call 56; refine (like_any B _ _ _ hd.out.node).mono ?_; rintro e w56 ⟨rfl, z_⟩) | (go_at_call 127; refine (leaf_no k t n [] ⟨trivial, fun i hi => hk9.out.2 i (by revert hi; simp; omega)⟩ B _ _ hd.out).mono ?_; rintro e w127 ⟨rfl, z_⟩)) <;> (replace ⟨xx, ⟨c0, c1, c2, c3⟩, hd⟩ := X5 z_ xx c0 c1 c2 c3 hd))
  go_ret
  exact .mk rfl xx
 ·have hl2 : ((l.length : Int) == 0) = false := by simpa using hl
  go_enter Tryz.func64, Tryz.ntmps64
  go_wp2_with (go_at_call 56; refine (like_any B _ _ _ hd.out.node).mono ?_; rintro e w56 ⟨rfl, z_⟩; replace ⟨xx, ⟨c0, c1, c2, c3⟩, hd⟩ := X5 z_ xx c0 c1 c2 c3 hd)
  go_ret
  exact .mk rfl xx

theorem type_no (k : Int) (t : Bs) (n : Int) (l : List Tr) (hk : True ∧ ∀ i ∈ ([30, 31, 32, 33, 35] : List Int), ¬ k = i) (B : Nat) (v : Value) (w : World) (h : NT B w v (.mk k t n l)) : Calls Tryz.prog 65 #[v] w (Ans false w) := by
 obtain ⟨p, c, rfl, hks, hkr, hnr, htl, hcp, hkid, xw, ⟨c0, c1, c2, c3⟩, hd, _, _⟩ := hT_ h
 have xx := xw
 have hk9 := hid hk
 have k30 : (k == 30) = false := by simpa using hk.2 30 (by decide)
 have k31 : (k == 31) = false := by simpa using hk.2 31 (by decide)
 have k32 : (k == 32) = false := by simpa using hk.2 32 (by decide)
 have k33 : (k == 33) = false := by simpa using hk.2 33 (by decide)
 have k35 : (k == 35) = false := by simpa using hk.2 35 (by decide)
 clear h hks hkid hcp hkr hnr hk
 simp only [nv, Tr.k, Tr.t, Tr.n, Tr.l] at *
 go_enter Tryz.func65, Tryz.ntmps65
 go_wp2_with (go_at_call 56; refine (like_any B _ _ _ hd.out.node).mono ?_; rintro e w56 ⟨rfl, z_⟩; replace ⟨xx, ⟨c0, c1, c2, c3⟩, hd⟩ := X5 z_ xx c0 c1 c2 c3 hd)
 go_ret
 exact .mk rfl xx

theorem stmt_no (k : Int) (t : Bs) (n : Int) (l : List Tr) (hk : True ∧ ∀ i ∈ ([40, 41, 47, 48, 49, 50, 51, 52] : List Int), ¬ k = i) (B : Nat) (v : Value) (w : World) (h : NT B w v (.mk k t n l)) : Calls Tryz.prog 61 #[v] w (Ans false w) := by
 obtain ⟨p, c, rfl, hks, hkr, hnr, htl, hcp, hkid, xw, ⟨c0, c1, c2, c3⟩, hd, _, _⟩ := hT_ h
 have xx := xw
 have hk9 := hid hk
 have k40 : (k == 40) = false := by simpa using hk.2 40 (by decide)
 have k41 : (k == 41) = false := by simpa using hk.2 41 (by decide)
 have k47 : (k == 47) = false := by simpa using hk.2 47 (by decide)
 have k48 : (k == 48) = false := by simpa using hk.2 48 (by decide)
 have k49 : (k == 49) = false := by simpa using hk.2 49 (by decide)
 have k50 : (k == 50) = false := by simpa using hk.2 50 (by decide)
 have k51 : (k == 51) = false := by simpa using hk.2 51 (by decide)
 have k52 : (k == 52) = false := by simpa using hk.2 52 (by decide)
 clear h hks hkid hcp hkr hnr hk
 simp only [nv, Tr.k, Tr.t, Tr.n, Tr.l] at *
 go_enter Tryz.func61, Tryz.ntmps61
 go_wp2_with (go_at_call 56; refine (like_any B _ _ _ hd.out.node).mono ?_; rintro e w56 ⟨rfl, z_⟩; replace ⟨xx, ⟨c0, c1, c2, c3⟩, hd⟩ := X5 z_ xx c0 c1 c2 c3 hd)
 go_ret
 exact .mk rfl xx

theorem class_no (k : Int) (t : Bs) (n : Int) (l : List Tr) (hk : ¬ k = 42) (B : Nat) (v : Value) (w : World) (h : NT B w v (.mk k t n l)) : Calls Tryz.prog 62 #[v] w (Ans false w) := by
 obtain ⟨p, c, rfl, hks, hkr, hnr, htl, hcp, hkid, xw, ⟨c0, c1, c2, c3⟩, _, _, _⟩ := hT_ h
 have k42 : (k != 42) = true := by simpa using hk
 clear h hks hkid hcp hkr hnr hk
 simp only [nv, Tr.k, Tr.t, Tr.n, Tr.l] at *
 go_enter Tryz.func62, Tryz.ntmps62
 go_wp2
 go_ret
 exact .mk rfl xw

theorem name_t' (t : Bs) (ht : isId t = true) (B : Nat) (v : Value) (w : World) (h : NT B w v (.mk 6 t 0 [])) : Calls Tryz.prog 123 #[v] w (Ans true w) := by
 have H := hid (t64_6 t B)
 have Ht := hid ht
 obtain ⟨sl, rfl, hks, hkr, hnr, htl⟩ := id h.node.open
 obtain ⟨p, c, rfl, _⟩ := hks.kid
 have xw : Fx w (w.alloc (.cells #[.int .i64 6, .string (sv t), .int .i64 0, .slice p (List.length ([] : List Tr)) c] 24)) := Ext.alloc _ _ _
 obtain ⟨c0, c1, c2, c3⟩ := nd_cells w 6 0 (sv t) (.slice p (List.length ([] : List Tr)) c)
 have hd := hid (h.keepF xw)
 clear h hks hkr hnr ht
 simp only [nv, Tr.k, Tr.t, Tr.n, Tr.l, lN] at *
 go_enter Tryz.func123, Tryz.ntmps123
 go_wp2_with (go_at_call 64; refine (H.out _ _ hd.out Ht.out).mono ?_; rintro e w64 ⟨rfl, x64⟩)
 go_ret
 exact .mk rfl (xw.of_eq x64)
theorem name_t (x : Tr) (hx : isName false x = true) (B : Nat) (v : Value) (w : World) (h : NT B w v x) : Calls Tryz.prog 123 #[v] w (Ans true w) := by
 obtain ⟨k, t, n, l⟩ := x
 simp [isName, bare, Tr.k, Tr.t, Tr.n, Tr.l] at hx
 obtain ⟨⟨⟨rfl, rfl⟩, rfl⟩, ht⟩ := hx
 exact name_t' t ht B v w h

end Go.Proofs.YtpmlmpibpmoclaaGreatDoor
