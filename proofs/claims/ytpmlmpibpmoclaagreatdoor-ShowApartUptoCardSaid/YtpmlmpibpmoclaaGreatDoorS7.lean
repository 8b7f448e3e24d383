/-
  The printer on expressions and statements, all.
-/
import Derived.Test.YtpmlmpibpmoclaaGreatDoorS6
import Derived.Test.YtpmlmpibpmoclaaGreatDoorPb
namespace Go.Proofs.YtpmlmpibpmoclaaGreatDoor
set_option linter.all false
set_option maxHeartbeats 2000000
open Go.RowKit

theorem layB_of (x : Tr) (hE : isE x = true) (hw : wt x ≤ BW) : LayB x := by
 have h := lay_bound x hE (by unfold BW at hw; exact hw)
 exact ⟨h.1, (lays_E 1 x).ok, h.2⟩
theorem wt_mem {x : Tr} {l : List Tr} (h : x ∈ l) : wt x ≤ wts l := by
 induction l with
 | nil => cases h
 | cons p r ih =>
  rcases List.mem_cons.1 h with rfl | h
  ·simp [wts]
  ·have := ih h; simp [wts]; omega
theorem blk_is {k n : Int} {t : Bs} {l : List Tr} (h : isBlk (.mk k t n l) = true) : k = 52 ∧ t = [] ∧ n = 0 ∧ ∀ y ∈ l, isS y = true := by
 simp [isBlk, Tr.k] at h
 obtain ⟨rfl, h⟩ := h
 unfold isS at h
 simp at h
 exact ⟨rfl, h.2.1, h.2.2, allS_mem h.1⟩

/-- What the statements of a block do. -/
theorem mem_stmt {N : Nat} (ihS : StmtP N) {l : List Tr} (hc : cnts l < N) (hw : wts l ≤ BW) (hm : ∀ y ∈ l, isS y = true) (B pb : Nat) : ∀ y ∈ l, (∀ {L : List Pc} (w : World), PrAt B w pb L → ∀ v, NT B w v y → (L ++ qS y).length ≤ 4398046511104 → Calls Tryz.prog 31 #[.pointer (some ⟨pb, 0, none⟩), v] w (Pts B pb w (L ++ qS y))) ∧ True :=
 fun y hy => ⟨fun {L} w hp v h hl => ihS y (Nat.lt_of_le_of_lt (cnt_mem hy) hc) (hm y hy) (Nat.le_trans (wt_mem hy) hw) B pb L w v hp h hl, trivial⟩

theorem bare_step {N : Nat} (ihE : ExprP N) (ihS : StmtP N) (x : Tr) (hx : cnt x < N + 1) (hE : isE x = true) (hw : wt x ≤ BW) {B pb : Nat} {L : List Pc} {w : World} {v : Value} (hp : PrAt B w pb L) (h : NT B w v x) : Pn 68 B pb w L v (qE 0 x) := by
 intro hl
 obtain ⟨k, t, n, l⟩ := x
 have hc : cnts l < N := by simp [cnt] at hx; omega
 have hwl : wts l ≤ BW := by simp only [wt] at hw; omega
 unfold isE at hE
 by_cases h1 : k = 1
 ·subst h1
  simp at hE
  obtain ⟨⟨⟨rfl, a⟩, b⟩, rfl⟩ := hE
  have e : qE 0 (.mk 1 [] n []) = [wd (Lib.itoa n)] := by (conv => lhs; unfold qE); simp
  rw [e] at hl ⊢
  exact b1 n B pb L w v hp h a b hl
 by_cases h2 : k = 2
 ·subst h2
  simp at hE
  obtain ⟨⟨rfl, a⟩, rfl⟩ := hE
  have e : qE 0 (.mk 2 t 0 []) = [wd (quote t)] := by (conv => lhs; unfold qE); simp
  rw [e] at hl ⊢
  exact b2 t B pb L w v hp h a hl
 by_cases h3 : k = 3
 ·subst h3
  simp at hE
  obtain ⟨⟨rfl, rfl | rfl⟩, rfl⟩ := hE
  ·have e : qE 0 (.mk 3 [] 0 []) = [wd (boolT false)] := by (conv => lhs; unfold qE); simp [boolT]
   rw [e] at hl ⊢
   exact b3_0 B pb L w v hp h hl
  ·have e : qE 0 (.mk 3 [] 1 []) = [wd (boolT true)] := by (conv => lhs; unfold qE); simp [boolT]
   rw [e] at hl ⊢
   exact b3_1 B pb L w v hp h hl
 by_cases h4 : k = 4
 ·subst h4
  simp at hE
  obtain ⟨⟨rfl, rfl⟩, rfl⟩ := hE
  have e : qE 0 (.mk 4 [] 0 []) = [wd [110, 117, 108, 108]] := by (conv => lhs; unfold qE); simp
  rw [e] at hl ⊢
  exact b4 B pb L w v hp h hl
 by_cases h5 : k = 5
 ·subst h5
  simp at hE
  obtain ⟨⟨rfl, rfl⟩, rfl⟩ := hE
  have e : qE 0 (.mk 5 [] 0 []) = [wd [117, 110, 100, 101, 102, 105, 110, 101, 100]] := by (conv => lhs; unfold qE); simp
  rw [e] at hl ⊢
  exact b5 B pb L w v hp h hl
 by_cases h7 : k = 7
 ·subst h7
  simp at hE
  obtain ⟨⟨rfl, rfl⟩, rfl⟩ := hE
  have e : qE 0 (.mk 7 [] 0 []) = [wd [116, 104, 105, 115]] := by (conv => lhs; unfold qE); simp
  rw [e] at hl ⊢
  exact b7 B pb L w v hp h hl
 by_cases h6 : k = 6
 ·subst h6
  simp at hE
  obtain ⟨⟨rfl, a⟩, rfl⟩ := hE
  have e : qE 0 (.mk 6 t 0 []) = [wd t] := by (conv => lhs; unfold qE); simp
  rw [e] at hl ⊢
  exact b6 t B pb L w v hp h hl
 by_cases h8 : k = 8
 ·subst h8
  simp at hE
  obtain ⟨⟨rfl, rfl⟩, a⟩ := hE
  have e : qE 0 (.mk 8 [] 0 l) = [wd [91]] ++ listP true l ++ [wd [93]] := by (conv => lhs; unfold qE); simp
  rw [e] at hl ⊢
  exact b8 ihE l B pb L w v hp h hc (fun y hy => ⟨allE_mem a y hy, Nat.le_trans (wt_mem hy) hwl⟩) hl
 by_cases h9 : k = 9
 ·subst h9
  simp at hE
  obtain ⟨a, rfl, rfl⟩ := hE
  by_cases h0 : l = []
  ·subst h0
   have e : qE 0 (.mk 9 [] 0 []) = [wd [123, 125]] := by (conv => lhs; unfold qE); simp
   rw [e] at hl ⊢
   exact b9_0 B pb L w v hp h hl
  ·have e : qE 0 (.mk 9 [] 0 l) = [wd [123, 32]] ++ propsP true l ++ [wd [32, 125]] := by (conv => lhs; unfold qE); simp [h0]
   rw [e] at hl ⊢
   refine b9 ihE l B pb L w v hp h hc (List.length_pos_iff.2 h0) (fun y hy => ?_) hl
   obtain ⟨kt, z, rfl, _, hz⟩ := propsE_mem a y hy
   have := wt_mem hy
   exact ⟨kt, z, rfl, hz, by simp only [wt, wts] at this; omega⟩
 by_cases h11 : k = 11
 ·subst h11
  rcases l with _ | ⟨p, _ | ⟨ty, _ | ⟨⟨bk, bt, bn, bl⟩, _ | ⟨z, m⟩⟩⟩⟩ <;> simp at hE
  obtain ⟨⟨rfl, rfl⟩, ⟨a, b⟩, d⟩ := hE
  have e : qE 0 (.mk 11 [] 0 [p, ty, .mk bk bt bn bl]) = [wd [102, 117, 110, 99, 116, 105, 111, 110, 32]] ++ (pmsP p ++ tyOrP ty ++ [wd [32]] ++ (Pc.opn :: (linesG qS (Tr.mk bk bt bn bl).l ++ [Pc.shut]))) := by (conv => lhs; unfold qE); simp [linesP_G, Tr.l]
  rw [e] at hl ⊢
  exact b11 p ty _ B pb L w v hp h a b (mem_stmt ihS (show cnts (Tr.mk bk bt bn bl).l < N by simp only [cnts, cnt, Tr.l] at hc ⊢; omega) (show wts (Tr.mk bk bt bn bl).l ≤ BW by simp only [wts, wt, Tr.l] at hwl ⊢; omega) (show ∀ y ∈ (Tr.mk bk bt bn bl).l, isS y = true from allS_mem d.2.1) B pb) hl
 by_cases h15 : k = 15
 ·subst h15
  rcases l with _ | ⟨x, _ | ⟨y, m⟩⟩ <;> simp [unOps] at hE
  have hc1 : cnt x < N := by simp only [cnts] at hc; omega
  have hw1 : wt x ≤ BW := by simp only [wts] at hwl; omega
  obtain ⟨⟨rfl, rfl | rfl | rfl⟩, a⟩ := hE
  ·have e : qE 0 (.mk 15 [45] 0 [x]) = [wd [45]] ++ qE 9 x := by (conv => lhs; unfold qE); simp
   rw [e] at hl ⊢
   exact b15_0 ihE x B pb L w v hp h hc1 a hw1 hl
  ·have e : qE 0 (.mk 15 [33] 0 [x]) = [wd [33]] ++ qE 9 x := by (conv => lhs; unfold qE); simp
   rw [e] at hl ⊢
   exact b15_1 ihE x B pb L w v hp h hc1 a hw1 hl
  ·have e : qE 0 (.mk 15 [116, 121, 112, 101, 111, 102] 0 [x]) = [wd [116, 121, 112, 101, 111, 102]] ++ [wd [32]] ++ qE 9 x := by (conv => lhs; unfold qE); simp
   rw [e] at hl ⊢
   exact b15_2 ihE x B pb L w v hp h hc1 a hw1 hl
 by_cases h16 : k = 16
 ·subst h16
  rcases l with _ | ⟨x, _ | ⟨y, _ | ⟨z, m⟩⟩⟩ <;> simp at hE
  obtain ⟨⟨rfl, d⟩, a, b⟩ := hE
  have hc1 : cnt x < N := by simp only [cnts] at hc; omega
  have hw1 : wt x ≤ BW := by simp only [wts] at hwl; omega
  have hc2 : cnt y < N := by simp only [cnts] at hc; omega
  have hw2 : wt y ≤ BW := by simp only [wts] at hwl; omega
  have e : qE 0 (.mk 16 t 0 [x, y]) = qE (binRank t) x ++ [wd [32], wd t, wd [32]] ++ qE (binRank t + 1) y := by (conv => lhs; unfold qE); simp
  rw [e] at hl ⊢
  exact b16 ihE t x y B pb L w v hp h hc1 a hw1 hc2 b hw2 (by simpa using d) hl
 by_cases h17 : k = 17
 ·subst h17
  rcases l with _ | ⟨x, _ | ⟨y, _ | ⟨z, _ | ⟨z2, m⟩⟩⟩⟩ <;> simp at hE
  obtain ⟨⟨rfl, rfl⟩, ⟨a, b⟩, d⟩ := hE
  have hc1 : cnt x < N := by simp only [cnts] at hc; omega
  have hw1 : wt x ≤ BW := by simp only [wts] at hwl; omega
  have hc2 : cnt y < N := by simp only [cnts] at hc; omega
  have hw2 : wt y ≤ BW := by simp only [wts] at hwl; omega
  have hc3 : cnt z < N := by simp only [cnts] at hc; omega
  have hw3 : wt z ≤ BW := by simp only [wts] at hwl; omega
  have e : qE 0 (.mk 17 [] 0 [x, y, z]) = qE 3 x ++ [wd [32, 63, 32]] ++ qE 1 y ++ [wd [32, 58, 32]] ++ qE 1 z := by (conv => lhs; unfold qE); simp
  rw [e] at hl ⊢
  exact b17 ihE x y z B pb L w v hp h hc1 a hw1 hc2 b hw2 hc3 d hw3 hl
 by_cases h18 : k = 18
 ·subst h18
  rcases l with _ | ⟨x, _ | ⟨y, _ | ⟨z, m⟩⟩⟩ <;> simp at hE
  obtain ⟨⟨rfl, rfl⟩, ⟨a, b⟩, d⟩ := hE
  have hc1 : cnt x < N := by simp only [cnts] at hc; omega
  have hw1 : wt x ≤ BW := by simp only [wts] at hwl; omega
  have hc2 : cnt y < N := by simp only [cnts] at hc; omega
  have hw2 : wt y ≤ BW := by simp only [wts] at hwl; omega
  have e : qE 0 (.mk 18 [] 0 [x, y]) = qE 10 x ++ [wd [32, 61, 32]] ++ qE 1 y := by (conv => lhs; unfold qE); simp
  rw [e] at hl ⊢
  exact b18 ihE x y B pb L w v hp h hc1 a hw1 hc2 b hw2 hl
 by_cases h19 : k = 19
 ·subst h19
  simp at hE
  obtain ⟨⟨⟨rfl, rfl⟩, b⟩, a⟩ := hE
  rcases l with _ | ⟨x, r⟩
  ·exact absurd rfl b
  have a1 := allE_mem a
  have hc1 : cnt x < N := by simp only [cnts] at hc; omega
  have hw1 : wt x ≤ BW := by simp only [wts] at hwl; omega
  have hcr : cnts r < N := by simp only [cnts] at hc; omega
  have hwr : wts r ≤ BW := by simp only [wts] at hwl; omega
  have e : qE 0 (.mk 19 [] 0 (x :: r)) = qE 10 x ++ [wd [40]] ++ listP true r ++ [wd [41]] := by (conv => lhs; unfold qE); simp
  rw [e] at hl ⊢
  exact b19 ihE x r B pb L w v hp h hc1 (a1 x (by simp)) hw1 hcr (fun y hy => ⟨a1 y (by simp [hy]), Nat.le_trans (wt_mem hy) hwr⟩) hl
 by_cases h20 : k = 20
 ·subst h20
  simp at hE
  obtain ⟨⟨rfl, b⟩, a⟩ := hE
  have e : qE 0 (.mk 20 t 0 l) = [wd [110, 101, 119, 32], wd t, wd [40]] ++ listP true l ++ [wd [41]] := by (conv => lhs; unfold qE); simp
  rw [e] at hl ⊢
  exact b20 ihE t l B pb L w v hp h hc (fun y hy => ⟨allE_mem a y hy, Nat.le_trans (wt_mem hy) hwl⟩) hl
 by_cases h21 : k = 21
 ·subst h21
  rcases l with _ | ⟨x, _ | ⟨y, m⟩⟩ <;> simp at hE
  obtain ⟨⟨rfl, b⟩, a⟩ := hE
  have hc1 : cnt x < N := by simp only [cnts] at hc; omega
  have hw1 : wt x ≤ BW := by simp only [wts] at hwl; omega
  have e : qE 0 (.mk 21 t 0 [x]) = qE 10 x ++ [wd [46], wd t] := by (conv => lhs; unfold qE); simp
  rw [e] at hl ⊢
  exact b21 ihE t x B pb L w v hp h hc1 a hw1 hl
 by_cases h22 : k = 22
 ·subst h22
  rcases l with _ | ⟨x, _ | ⟨y, _ | ⟨z, m⟩⟩⟩ <;> simp at hE
  obtain ⟨⟨rfl, rfl⟩, a, b⟩ := hE
  have hc1 : cnt x < N := by simp only [cnts] at hc; omega
  have hw1 : wt x ≤ BW := by simp only [wts] at hwl; omega
  have hc2 : cnt y < N := by simp only [cnts] at hc; omega
  have hw2 : wt y ≤ BW := by simp only [wts] at hwl; omega
  have e : qE 0 (.mk 22 [] 0 [x, y]) = qE 10 x ++ [wd [91]] ++ qE 1 y ++ [wd [93]] := by (conv => lhs; unfold qE); simp
  rw [e] at hl ⊢
  exact b22 ihE x y B pb L w v hp h hc1 a hw1 hc2 b hw2 hl
 ·exfalso
  simp [h1, h2, h3, h4, h5, h6, h7, h8, h9, h11, h15, h16, h17, h18, h19, h20, h21, h22] at hE

theorem bin_of {x : Tr} (hE : isE x = true) : x.k = 16 → binOps.contains x.t = true := by
 obtain ⟨k, t, n, l⟩ := x
 simp only [Tr.k, Tr.t]
 rintro rfl
 unfold isE at hE
 rcases l with _ | ⟨x, _ | ⟨y, _ | ⟨z, m⟩⟩⟩ <;> simp at hE
 simpa using hE.1.2

theorem exprP_step {N : Nat} (ihE : ExprP N) (ihS : StmtP N) : ExprP (N + 1) := fun x hc hE hw r ri hr B pb L w v hp h hl =>
 expr_of r hr x (bin_of hE) (fun L w hp v h hl => bare_step ihE ihS x hc hE hw hp h hl) hp h hl

theorem stmtP_step {N : Nat} (ihE : ExprP N) (ihS : StmtP N) : StmtP (N + 1) := by
 rintro ⟨k, t, n, l⟩ hx hS hw B pb L w v hp h hl
 have hc : cnts l < N := by simp [cnt] at hx; omega
 have hwl : wts l ≤ BW := by simp only [wt] at hw; omega
 unfold isS at hS
 by_cases h40 : k = 40
 ·subst h40
  rcases l with _ | ⟨x, _ | ⟨y, _ | ⟨z, m⟩⟩⟩ <;> simp at hS
  have hc1 : cnt x < N := by simp only [cnts] at hc; omega
  have hw1 : wt x ≤ BW := by simp only [wts] at hwl; omega
  have hc2 : cnt y < N := by simp only [cnts] at hc; omega
  have hw2 : wt y ≤ BW := by simp only [wts] at hwl; omega
  obtain ⟨⟨d, rfl | rfl⟩, a, b⟩ := hS
  ·have e : qS (.mk 40 t 0 [x, y]) = [wd [108, 101, 116, 32], wd t] ++ tyOrP x ++ [wd [32, 61, 32]] ++ qE 1 y ++ [wd [59]] := by (conv => lhs; unfold qS); simp
   rw [e] at hl ⊢
   exact p31_40_0 ihE t x y B pb L w v hp h a hc2 b hw2 hl
  ·have e : qS (.mk 40 t 1 [x, y]) = [wd [99, 111, 110, 115, 116, 32], wd t] ++ tyOrP x ++ [wd [32, 61, 32]] ++ qE 1 y ++ [wd [59]] := by (conv => lhs; unfold qS); simp
   rw [e] at hl ⊢
   exact p31_40_1 ihE t x y B pb L w v hp h a hc2 b hw2 hl
 by_cases h41 : k = 41
 ·subst h41
  rcases l with _ | ⟨p, _ | ⟨ty, _ | ⟨⟨bk, bt, bn, bl⟩, _ | ⟨z, m⟩⟩⟩⟩ <;> simp at hS
  obtain ⟨⟨e0, rfl⟩, ⟨a, b⟩, d⟩ := hS
  have e : qS (.mk 41 t 0 [p, ty, .mk bk bt bn bl]) = [wd [102, 117, 110, 99, 116, 105, 111, 110, 32], wd t] ++ (pmsP p ++ tyOrP ty ++ [wd [32]] ++ (Pc.opn :: (linesG qS (Tr.mk bk bt bn bl).l ++ [Pc.shut]))) := by (conv => lhs; unfold qS); simp [linesP_G, Tr.l]
  rw [e] at hl ⊢
  exact p31_41 t p ty _ B pb L w v hp h a b (mem_stmt ihS (show cnts (Tr.mk bk bt bn bl).l < N by simp only [cnts, cnt, Tr.l] at hc ⊢; omega) (show wts (Tr.mk bk bt bn bl).l ≤ BW by simp only [wts, wt, Tr.l] at hwl ⊢; omega) (show ∀ y ∈ (Tr.mk bk bt bn bl).l, isS y = true from allS_mem d.2.1) B pb) hl
 by_cases h47 : k = 47
 ·subst h47
  rcases l with _ | ⟨x, _ | ⟨y, m⟩⟩ <;> simp at hS
  obtain ⟨⟨rfl, rfl⟩, a⟩ := hS
  have hc1 : cnt x < N := by simp only [cnts] at hc; omega
  have hw1 : wt x ≤ BW := by simp only [wts] at hwl; omega
  have e : qS (.mk 47 [] 0 [x]) = aloneP x := by (conv => lhs; unfold qS); simp [aloneP]
  rw [e] at hl ⊢
  exact p31_47 ihE x B pb L w v hp h hc1 a hw1 (layB_of x a hw1) hl
 by_cases h48 : k = 48
 ·subst h48
  rcases l with _ | ⟨x, _ | ⟨⟨bk, bt, bn, bl⟩, _ | ⟨⟨ck, ct, cn, cl⟩, _ | ⟨z, m⟩⟩⟩⟩ <;> simp at hS
  have hc1 : cnt x < N := by simp only [cnts] at hc; omega
  have hw1 : wt x ≤ BW := by simp only [wts] at hwl; omega
  obtain ⟨⟨rfl, rfl⟩, ⟨a, b⟩, d⟩ := hS
  by_cases hk : ck = 14
  ·have e : qS (.mk 48 [] 0 [x, .mk bk bt bn bl, .mk ck ct cn cl]) = [wd [105, 102, 32, 40]] ++ qE 1 x ++ [wd [41, 32]] ++ (Pc.opn :: (linesG qS (Tr.mk bk bt bn bl).l ++ [Pc.shut])) := by (conv => lhs; unfold qS); simp [linesP_G, Tr.l, hk]
   rw [e] at hl ⊢
   have hcl : ∀ y ∈ (Tr.mk ck ct cn cl).l, isS y = true := by
    rcases d with d | d
    ·simp [isNone, bare, Tr.l] at d; simp [Tr.l, d.2]
    ·exact allS_mem d.2.1
   exact p31_48_0 ihE x _ _ B pb L w v hp h hc1 a hw1 (mem_stmt ihS (show cnts (Tr.mk bk bt bn bl).l < N by simp only [cnts, cnt, Tr.l] at hc ⊢; omega) (show wts (Tr.mk bk bt bn bl).l ≤ BW by simp only [wts, wt, Tr.l] at hwl ⊢; omega) (show ∀ y ∈ (Tr.mk bk bt bn bl).l, isS y = true from allS_mem b.2.1) B pb) (mem_stmt ihS (show cnts (Tr.mk ck ct cn cl).l < N by simp only [cnts, cnt, Tr.l] at hc ⊢; omega) (show wts (Tr.mk ck ct cn cl).l ≤ BW by simp only [wts, wt, Tr.l] at hwl ⊢; omega) (show ∀ y ∈ (Tr.mk ck ct cn cl).l, isS y = true from hcl) B pb) hk hl
  ·have e : qS (.mk 48 [] 0 [x, .mk bk bt bn bl, .mk ck ct cn cl]) = [wd [105, 102, 32, 40]] ++ qE 1 x ++ [wd [41, 32]] ++ (Pc.opn :: (linesG qS (Tr.mk bk bt bn bl).l ++ [Pc.shut])) ++ ([wd [32, 101, 108, 115, 101, 32]] ++ (Pc.opn :: (linesG qS (Tr.mk ck ct cn cl).l ++ [Pc.shut]))) := by (conv => lhs; unfold qS); simp [linesP_G, Tr.l, hk]
   have e2 : [wd [105, 102, 32, 40]] ++ qE 1 x ++ [wd [41, 32]] ++ (Pc.opn :: (linesG qS (Tr.mk bk bt bn bl).l ++ [Pc.shut])) ++ ([wd [32, 101, 108, 115, 101, 32]] ++ (Pc.opn :: (linesG qS (Tr.mk ck ct cn cl).l ++ [Pc.shut]))) = [wd [105, 102, 32, 40]] ++ qE 1 x ++ [wd [41, 32]] ++ (Pc.opn :: (linesG qS (Tr.mk bk bt bn bl).l ++ [Pc.shut])) ++ [wd [32, 101, 108, 115, 101, 32]] ++ (Pc.opn :: (linesG qS (Tr.mk ck ct cn cl).l ++ [Pc.shut])) := by simp
   rw [e, e2] at hl ⊢
   have hcl : ∀ y ∈ (Tr.mk ck ct cn cl).l, isS y = true := by
    rcases d with d | d
    ·simp [isNone, bare, Tr.l] at d; simp [Tr.l, d.2]
    ·exact allS_mem d.2.1
   exact p31_48_1 ihE x _ _ B pb L w v hp h hc1 a hw1 (mem_stmt ihS (show cnts (Tr.mk bk bt bn bl).l < N by simp only [cnts, cnt, Tr.l] at hc ⊢; omega) (show wts (Tr.mk bk bt bn bl).l ≤ BW by simp only [wts, wt, Tr.l] at hwl ⊢; omega) (show ∀ y ∈ (Tr.mk bk bt bn bl).l, isS y = true from allS_mem b.2.1) B pb) (mem_stmt ihS (show cnts (Tr.mk ck ct cn cl).l < N by simp only [cnts, cnt, Tr.l] at hc ⊢; omega) (show wts (Tr.mk ck ct cn cl).l ≤ BW by simp only [wts, wt, Tr.l] at hwl ⊢; omega) (show ∀ y ∈ (Tr.mk ck ct cn cl).l, isS y = true from hcl) B pb) hk hl
 by_cases h49 : k = 49
 ·subst h49
  rcases l with _ | ⟨x, _ | ⟨⟨bk, bt, bn, bl⟩, _ | ⟨z, m⟩⟩⟩ <;> simp at hS
  obtain ⟨⟨rfl, rfl⟩, a, b⟩ := hS
  have hc1 : cnt x < N := by simp only [cnts] at hc; omega
  have hw1 : wt x ≤ BW := by simp only [wts] at hwl; omega
  have e : qS (.mk 49 [] 0 [x, .mk bk bt bn bl]) = [wd [119, 104, 105, 108, 101, 32, 40]] ++ qE 1 x ++ [wd [41, 32]] ++ (Pc.opn :: (linesG qS (Tr.mk bk bt bn bl).l ++ [Pc.shut])) := by (conv => lhs; unfold qS); simp [linesP_G, Tr.l]
  rw [e] at hl ⊢
  exact p31_49 ihE x _ B pb L w v hp h hc1 a hw1 (mem_stmt ihS (show cnts (Tr.mk bk bt bn bl).l < N by simp only [cnts, cnt, Tr.l] at hc ⊢; omega) (show wts (Tr.mk bk bt bn bl).l ≤ BW by simp only [wts, wt, Tr.l] at hwl ⊢; omega) (show ∀ y ∈ (Tr.mk bk bt bn bl).l, isS y = true from allS_mem b.2.1) B pb) hl
 by_cases h50 : k = 50
 ·subst h50
  rcases l with _ | ⟨x, _ | ⟨y, m⟩⟩ <;> simp at hS
  have hc1 : cnt x < N := by simp only [cnts] at hc; omega
  have hw1 : wt x ≤ BW := by simp only [wts] at hwl; omega
  obtain ⟨⟨rfl, rfl⟩, a⟩ := hS
  by_cases hk : x.k = 14
  ·have e : qS (.mk 50 [] 0 [x]) = [wd [114, 101, 116, 117, 114, 110]] ++ [wd [59]] := by (conv => lhs; unfold qS); simp [hk]
   rw [e] at hl ⊢
   exact p31_50_0 x B pb L w v hp h hk hl
  ·have e : qS (.mk 50 [] 0 [x]) = [wd [114, 101, 116, 117, 114, 110]] ++ [wd [32]] ++ qE 1 x ++ [wd [59]] := by (conv => lhs; unfold qS); simp [hk]
   rw [e] at hl ⊢
   have hE : isE x = true := by
    rcases a with a | a
    ·simp [isNone] at a; exact absurd a.1.1 hk
    ·exact a
   exact p31_50_1 ihE x B pb L w v hp h hc1 hE hw1 hk hl
 by_cases h51 : k = 51
 ·subst h51
  rcases l with _ | ⟨x, _ | ⟨y, m⟩⟩ <;> simp at hS
  obtain ⟨⟨rfl, rfl⟩, a⟩ := hS
  have hc1 : cnt x < N := by simp only [cnts] at hc; omega
  have hw1 : wt x ≤ BW := by simp only [wts] at hwl; omega
  have e : qS (.mk 51 [] 0 [x]) = [wd [116, 104, 114, 111, 119, 32]] ++ qE 1 x ++ [wd [59]] := by (conv => lhs; unfold qS); simp [linesP_G, Tr.l]
  rw [e] at hl ⊢
  exact p31_51 ihE x B pb L w v hp h hc1 a hw1 hl
 by_cases h52 : k = 52
 ·subst h52
  simp at hS
  obtain ⟨a, rfl, rfl⟩ := hS
  have e : qS (.mk 52 [] 0 l) = Pc.opn :: (linesG qS (Tr.mk 52 [] 0 l).l ++ [Pc.shut]) := by (conv => lhs; unfold qS); simp [linesP_G, Tr.l]
  rw [e] at hl ⊢
  exact p31_52 l B pb L w v hp h (mem_stmt ihS hc hwl (allS_mem a) B pb) hl
 ·exfalso
  simp [h40, h41, h47, h48, h49, h50, h51, h52] at hS

theorem es_all (N : Nat) : ExprP N ∧ StmtP N := by
 induction N with
 | zero => exact ⟨fun x hx => by omega, fun x hx => by omega⟩
 | succ N ih => exact ⟨exprP_step ih.1 ih.2, stmtP_step ih.1 ih.2⟩
theorem expr_p (x : Tr) (hE : isE x = true) (hw : wt x ≤ BW) (r : Nat) {ri : Int} (hr : ri = (r : Int)) {B pb : Nat} {L : List Pc} {w : World} {v : Value} (hp : PrAt B w pb L) (h : NT B w v x) (hl : (L ++ qE r x).length ≤ 4398046511104) : Calls Tryz.prog 29 #[.pointer (some ⟨pb, 0, none⟩), v, .int .i64 ri] w (Pts B pb w (L ++ qE r x)) := (es_all (cnt x + 1)).1 x (Nat.lt_succ_self _) hE hw r ri hr B pb L w v hp h hl
theorem stmt_p (x : Tr) (hS : isS x = true) (hw : wt x ≤ BW) {B pb : Nat} {L : List Pc} {w : World} {v : Value} (hp : PrAt B w pb L) (h : NT B w v x) (hl : (L ++ qS x).length ≤ 4398046511104) : Calls Tryz.prog 31 #[.pointer (some ⟨pb, 0, none⟩), v] w (Pts B pb w (L ++ qS x)) := (es_all (cnt x + 1)).2 x (Nat.lt_succ_self _) hS hw B pb L w v hp h hl

end Go.Proofs.YtpmlmpibpmoclaaGreatDoor
