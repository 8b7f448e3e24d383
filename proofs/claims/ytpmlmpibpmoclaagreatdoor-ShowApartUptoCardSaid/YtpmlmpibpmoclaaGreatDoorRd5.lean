/-
  The reader undoes the printing: expressions and statements, the induction.
-/
import Derived.Test.YtpmlmpibpmoclaaGreatDoorRd
namespace Go.Proofs.YtpmlmpibpmoclaaGreatDoor
set_option linter.all false
theorem pP_dig {c : UInt8} {s : Bs} (h : digB c = true) (f d : Nat) : pP (f + 1) d (c :: s) = some (.mk 1 [] (value ((c :: s).takeWhile digB)) [], (c :: s).dropWhile digB) := by
 have hn := id_ne (digB_idB h)
 rw [pP.eq_def]
 simp only [hn.2.2.2.2.2.2.2.1, hn.2.2.2.2.2.2.1, hn.2.2.2.1, hn.2.2.1, hn.2.2.2.2.2.2.2.2.1, hn.2.2.2.2.2.2.2.2.2.1, if_false, or_self, h, if_true]

/-- A word: what the reader makes of it. -/
def wordE (f d : Nat) (w s : Bs) : Option (Tr × Bs) :=
 if w = [102, 117, 110, 99, 116, 105, 111, 110] then do
  let s ← strip [32] s
  let (l, s) ← pBody f d s
  some (.mk 11 [] 0 l, s)
 else if w = [110, 101, 119] then do
  let s ← strip [32] s
  let s1 ← strip [40] (s.dropWhile idB)
  let (l, s2) ← pLs f d 41 s1
  some (.mk 20 (s.takeWhile idB) 0 l, s2)
 else if w = [116, 121, 112, 101, 111, 102] then do
  let s ← strip [32] s
  let (a, s) ← pE f d 9 s
  some (.mk 15 [116, 121, 112, 101, 111, 102] 0 [a], s)
 else if w = [110, 117, 108, 108] then some (.mk 4 [] 0 [], s)
 else if w = [117, 110, 100, 101, 102, 105, 110, 101, 100] then some (.mk 5 [] 0 [], s)
 else if w = [116, 114, 117, 101] then some (.mk 3 [] 1 [], s)
 else if w = [102, 97, 108, 115, 101] then some (.mk 3 [] 0 [], s)
 else if w = [116, 104, 105, 115] then some (.mk 7 [] 0 [], s)
 else some (.mk 6 w 0 [], s)

theorem pP_word {w rest : Bs} (h1 : ∀ c ∈ w, idB c = true) (hc : ∃ c r, w = c :: r ∧ digB c = false) (hr : nid rest = true) (f d : Nat) : pP (f + 1) d (w ++ rest) = wordE f d w rest := by
 obtain ⟨c, r, rfl, hd⟩ := hc
 have hn := id_ne (h1 c List.mem_cons_self)
 have hs := span_id h1 hr
 simp only [List.cons_append] at hs ⊢
 rw [pP.eq_def]
 simp only [hn.2.2.2.2.2.2.2.1, hn.2.2.2.2.2.2.1, hn.2.2.2.1, hn.2.2.1, hn.2.2.2.2.2.2.2.2.1, hn.2.2.2.2.2.2.2.2.2.1, if_false, or_self, hd, hs]
 rfl

theorem span_sp {t s : Bs} (h : ∀ c ∈ t, noSp c = true) : (t ++ 32 :: s).takeWhile noSp = t ∧ (t ++ 32 :: s).dropWhile noSp = 32 :: s := by
 induction t with
 | nil => exact ⟨rfl, rfl⟩
 | cons c r ih =>
  have hc := h c List.mem_cons_self
  have := ih (fun c hc => h c (List.mem_cons_of_mem _ hc))
  simp [hc, this.1, this.2]

theorem pL_bin {t : Bs} (ht : binOps.contains t = true) {d q : Nat} (hq : q ≤ binRank t) {a y : Tr} {s rest : Bs} {X : Option (Tr × Bs)} (h : Ev fun f => pE f d (binRank t + 1) s = some (y, rest))
  (hX : Ev fun f => pL f d q (.mk 16 t 0 [a, y]) rest = X) : Ev fun f => pL f d q a (32 :: (t ++ 32 :: s)) = X := by
 obtain ⟨_, hsp, hne1, hne2, _⟩ := binOps_props ht
 have e := span_sp (s := s) hsp
 refine (h.and hX).step fun f ⟨e1, e2⟩ => ?_
 rw [pL.eq_def]
 have n1 : (32 : UInt8) ≠ 40 := by decide
 have n2 : (32 : UInt8) ≠ 91 := by decide
 have n3 : (32 : UInt8) ≠ 46 := by decide
 simp only [n1, n2, n3, if_false, if_true, e, hne1, hne2, ht, hq, List.drop_succ_cons, List.drop_zero]
 simp [e1, e2]

theorem crank_op {t s : Bs} (ht : binOps.contains t = true) : crank (32 :: (t ++ 32 :: s)) = binRank t := by
 obtain ⟨_, hsp, hne1, hne2, _⟩ := binOps_props ht
 have e := (span_sp (s := s) hsp).1
 have n1 : ¬ ((32 : UInt8) = 40 ∨ (32 : UInt8) = 91 ∨ (32 : UInt8) = 46) := by decide
 simp only [crank, n1, if_false, if_true, e, hne1, hne2, ht]

theorem exprs_step {n : Nat} (ihE : EAll n) (ihS : SAll n) : EAll (n + 1) := by
 intro x hx h
 cases isE_inv h with
 | num m h0 =>
  refine ⟨fun d q rest X _ hr _ hX => pE_of_pP ?_ hX⟩
  rw [out1]
  obtain ⟨hv, hd, c, r, hq⟩ := itoa_props h0
  have hs := span_dig hd hr
  have hdc := hd c (by rw [hq]; exact List.mem_cons_self)
  rw [hq] at hs
  refine Ev.of1 fun f => ?_
  rw [hq, List.cons_append, pP_dig hdc]
  rw [List.cons_append] at hs
  rw [hs.1, hs.2, ← hq, hv]
 | text t _ =>
  refine ⟨fun d q rest X _ _ _ hX => pE_of_pP ?_ hX⟩
  rw [out2]
  refine (ev_rdQ t rest).step fun f e => ?_
  have e' : quote t ++ rest = 34 :: (t.flatMap escB ++ 34 :: rest) := by simp [quote]
  rw [e', pP.eq_def]
  simp [e]
 | bool m h0 =>
  refine ⟨fun d q rest X _ hr _ hX => pE_of_pP (Ev.of1 fun f => ?_) hX⟩
  rw [out3]
  rcases h0 with rfl | rfl
  ·exact pP_word (w := [102, 97, 108, 115, 101]) (by decide) ⟨_, _, rfl, by decide⟩ hr f d
  ·exact pP_word (w := [116, 114, 117, 101]) (by decide) ⟨_, _, rfl, by decide⟩ hr f d
 | word k hk =>
  refine ⟨fun d q rest X _ hr _ hX => pE_of_pP (Ev.of1 fun f => ?_) hX⟩
  rcases hk with rfl | rfl | rfl
  ·rw [out4]; exact pP_word (w := [110, 117, 108, 108]) (by decide) ⟨_, _, rfl, by decide⟩ hr f d
  ·rw [out5]; exact pP_word (w := [117, 110, 100, 101, 102, 105, 110, 101, 100]) (by decide) ⟨_, _, rfl, by decide⟩ hr f d
  ·rw [out7]; exact pP_word (w := [116, 104, 105, 115]) (by decide) ⟨_, _, rfl, by decide⟩ hr f d
 | name t ht =>
  refine ⟨fun d q rest X _ hr _ hX => pE_of_pP (Ev.of1 fun f => ?_) hX⟩
  obtain ⟨hs, hw⟩ := isId_signs ht
  obtain ⟨h1, c, r, hq, hd⟩ := signs_idB hs
  rw [out6, pP_word h1 ⟨c, r, hq, hd⟩ hr]
  simp [words] at hw
  unfold wordE
  simp [hw]
 | array l hl =>
  refine ⟨fun d q rest X _ _ _ hX => pE_of_pP ?_ hX⟩
  simp only [sz] at hx
  refine (pLs_read ihE d 93 (.inr rfl) l (by omega) hl rest).step fun f e => ?_
  have e' : outE d 0 (.mk 8 [] 0 l) ++ rest = 91 :: (listE d true l ++ 93 :: rest) := by rw [out8]; simp
  rw [e', pP.eq_def]
  simp [e]
 | object l hl =>
  refine ⟨fun d q rest X _ _ _ hX => pE_of_pP ?_ hX⟩
  simp only [sz] at hx
  rw [out9]
  cases l with
  | nil => exact Ev.of1 fun f => by rw [pP.eq_def]; simp [strip]
  | cons z r =>
   refine (pPs_read ihE d (z :: r) (by simp) (by omega) hl rest).step fun f e => ?_
   have e' : (if (z :: r).isEmpty then [123, 125] else [123, 32] ++ propsT d true (z :: r) ++ [32, 125]) ++ rest = 123 :: 32 :: (propsT d true (z :: r) ++ 32 :: 125 :: rest) := by simp
   rw [e', pP.eq_def]
   simp [strip, e]
 | func p ty bl h1 h2 h3 =>
  refine ⟨fun d q rest X _ _ _ hX => pE_of_pP ?_ hX⟩
  simp only [sz, szs] at hx
  refine (pBody_read ihS d p ty bl h1 h2 (by omega) h3 rest).step fun f e => ?_
  have e' : outE d 0 (.mk 11 [] 0 [p, ty, .mk 52 [] 0 bl]) ++ rest = [102, 117, 110, 99, 116, 105, 111, 110] ++ 32 :: (pmsT p ++ tyOr ty ++ [32] ++ blk d bl ++ rest) := by rw [out11]; simp
  rw [e', pP_word (by decide) ⟨_, _, rfl, by decide⟩ rfl]
  simp at e
  simp [wordE, strip, e]
 | unary t y h1 h2 =>
  simp only [sz, szs] at hx
  refine ⟨fun d q rest X hq hr hc hX => pE_of_pP ?_ hX⟩
  have hy := (ihE y (by omega) h2).at (d := d) (q := 9) (r := 9) (rest := rest) (X := some (y, rest)) (Nat.le_refl _) hr (fun h9 => by
   have : ub (.mk 15 t 0 [y]) = 8 := rfl
   rw [this] at hc
   unfold ub
   split
   ·omega
   ·split
    ·omega
    ·split <;> omega) (pL_stop (by decide) (by have : ub (.mk 15 t 0 [y]) = 8 := rfl; omega))
  simp [unOps] at h1
  rcases h1 with rfl | rfl | rfl
  ·refine hy.step fun f e => ?_
   have e' : outE d 0 (.mk 15 [45] 0 [y]) ++ rest = 45 :: (outE d 9 y ++ rest) := by rw [out15]; simp
   rw [e', pP.eq_def]; simp [e]
  ·refine hy.step fun f e => ?_
   have e' : outE d 0 (.mk 15 [33] 0 [y]) ++ rest = 33 :: (outE d 9 y ++ rest) := by rw [out15]; simp
   rw [e', pP.eq_def]; simp [e]
  ·refine hy.step fun f e => ?_
   have e' : outE d 0 (.mk 15 [116, 121, 112, 101, 111, 102] 0 [y]) ++ rest = [116, 121, 112, 101, 111, 102] ++ 32 :: (outE d 9 y ++ rest) := by rw [out15]; simp
   rw [e', pP_word (by decide) ⟨_, _, rfl, by decide⟩ rfl]
   simp [wordE, strip, e]
 | binary t y z h1 h2 h3 =>
  simp only [sz, szs] at hx
  refine ⟨fun d q rest X hq hr hc hX => ?_⟩
  have hrk : rank (.mk 16 t 0 [y, z]) = binRank t := rfl
  obtain ⟨⟨tc, tr, htc, hti⟩, hsp, _, _, hb3, hb8⟩ := binOps_props h1
  have hub : ub (.mk 16 t 0 [y, z]) = binRank t := by unfold ub; rw [hrk, if_neg (by omega), if_pos hb8]
  rw [hub] at hc
  have e' : outE d 0 (.mk 16 t 0 [y, z]) ++ rest = outE d (binRank t) y ++ 32 :: (t ++ 32 :: (outE d (binRank t + 1) z ++ rest)) := by rw [out16]; simp
  rw [e']
  refine (ihE y (by omega) h2).at (by rw [hrk] at hq; exact hq) rfl (fun hle => ?_) (pL_bin h1 (by rw [hrk] at hq; exact hq) ?_ hX)
  ·rw [crank_op h1]
   unfold ub
   split
   ·omega
   ·split
    ·exact hle
    ·split <;> omega
  ·refine (ihE z (by omega) h3).at (Nat.le_refl _) hr (fun hle => ?_) (pL_stop (by omega) (by omega))
   unfold ub
   split
   ·omega
   ·split
    ·omega
    ·split <;> omega
 | cond y z u h1 h2 h3 =>
  simp only [sz, szs] at hx
  refine ⟨fun d q rest X hq hr hc hX => ?_⟩
  have hq2 : q ≤ 2 := hq
  have hc0 : crank rest = 0 := Nat.le_zero.1 hc
  have e' : outE d 0 (.mk 17 [] 0 [y, z, u]) ++ rest = outE d 3 y ++ 32 :: 63 :: 32 :: (outE d 1 z ++ 32 :: 58 :: 32 :: (outE d 1 u ++ rest)) := by rw [out17]; simp
  rw [e']
  have hz := (ihE z (by omega) h2).stop (d := d) (r := 1) (rest := 32 :: 58 :: 32 :: (outE d 1 u ++ rest)) (by decide) (by decide) rfl rfl
  have hu := (ihE u (by omega) h3).stop (d := d) (r := 1) (by decide) (by decide) hr hc0
  refine (ihE y (by omega) h1).at (by omega) rfl (fun hle => ?_) ?_
  ·have : crank (32 :: 63 :: 32 :: (outE d 1 z ++ 32 :: 58 :: 32 :: (outE d 1 u ++ rest))) = 2 := rfl
   rw [this]
   unfold ub
   split
   ·omega
   ·split
    ·omega
    ·split <;> omega
  ·refine ((hz.and hu).and hX).step fun f ⟨⟨e1, e2⟩, e3⟩ => ?_
   rw [pL.eq_def]
   have w1 : (63 :: 32 :: (outE d 1 z ++ 32 :: 58 :: 32 :: (outE d 1 u ++ rest))).takeWhile noSp = [63] := rfl
   have w2 : (63 :: 32 :: (outE d 1 z ++ 32 :: 58 :: 32 :: (outE d 1 u ++ rest))).dropWhile noSp = 32 :: (outE d 1 z ++ 32 :: 58 :: 32 :: (outE d 1 u ++ rest)) := rfl
   have n1 : (32 : UInt8) ≠ 40 := by decide
   have n2 : (32 : UInt8) ≠ 91 := by decide
   have n3 : (32 : UInt8) ≠ 46 := by decide
   simp only [n1, n2, n3, if_false, if_true, w1, w2, hq2, List.drop_succ_cons, List.drop_zero]
   simp [e1, strip, e2, e3]
 | assign y z h1 h2 =>
  simp only [sz, szs] at hx
  refine ⟨fun d q rest X hq hr hc hX => ?_⟩
  have hq1 : q ≤ 1 := hq
  have hc0 : crank rest = 0 := Nat.le_zero.1 hc
  have e' : outE d 0 (.mk 18 [] 0 [y, z]) ++ rest = outE d 10 y ++ 32 :: 61 :: 32 :: (outE d 1 z ++ rest) := by rw [out18]; simp
  rw [e']
  have hz := (ihE z (by omega) h2).stop (d := d) (r := 1) (by decide) (by decide) hr hc0
  refine (ihE y (by omega) h1).at (by omega) rfl (fun hle => ?_) ?_
  ·have : crank (32 :: 61 :: 32 :: (outE d 1 z ++ rest)) = 1 := rfl
   rw [this]
   unfold ub
   split
   ·omega
   ·split
    ·omega
    ·split <;> omega
  ·refine (hz.and hX).step fun f ⟨e1, e3⟩ => ?_
   rw [pL.eq_def]
   have w1 : (61 :: 32 :: (outE d 1 z ++ rest)).takeWhile noSp = [61] := rfl
   have w2 : (61 :: 32 :: (outE d 1 z ++ rest)).dropWhile noSp = 32 :: (outE d 1 z ++ rest) := rfl
   have n1 : (32 : UInt8) ≠ 40 := by decide
   have n2 : (32 : UInt8) ≠ 91 := by decide
   have n3 : (32 : UInt8) ≠ 46 := by decide
   have n4 : ¬ ([61] = ([63] : Bs)) := by decide
   simp only [n1, n2, n3, n4, if_false, if_true, w1, w2, hq1, List.drop_succ_cons, List.drop_zero]
   simp [e1, e3]
 | call y l h1 h2 =>
  simp only [sz, szs] at hx
  refine ⟨fun d q rest X hq hr hc hX => ?_⟩
  have hq1 : q ≤ 10 := hq
  have e' : outE d 0 (.mk 19 [] 0 (y :: l)) ++ rest = outE d 10 y ++ 40 :: (listE d true l ++ 41 :: rest) := by rw [out19]; simp
  rw [e']
  refine (ihE y (by omega) h1).at hq1 rfl (fun hle => ?_) ?_
  ·have : crank (40 :: (listE d true l ++ 41 :: rest)) = 10 := rfl
   rw [this]
   unfold ub
   rw [if_neg (by omega), if_neg (by omega), if_neg (by omega)]
   exact Nat.le_refl _
  ·refine ((pLs_read ihE d 41 (.inl rfl) l (by omega) h2 rest).and hX).step fun f ⟨e1, e2⟩ => ?_
   rw [pL.eq_def]
   simp [e1, e2]
 | new t l h1 h2 =>
  simp only [sz] at hx
  refine ⟨fun d q rest X _ _ _ hX => pE_of_pP ?_ hX⟩
  obtain ⟨hs, _⟩ := isId_signs h1
  obtain ⟨ha, _⟩ := signs_idB hs
  have e' : outE d 0 (.mk 20 t 0 l) ++ rest = [110, 101, 119] ++ 32 :: (t ++ 40 :: (listE d true l ++ 41 :: rest)) := by rw [out20]; simp
  have hsp := span_id (rest := 40 :: (listE d true l ++ 41 :: rest)) ha rfl
  refine (pLs_read ihE d 41 (.inl rfl) l (by omega) h2 rest).step fun f e1 => ?_
  rw [e', pP_word (by decide) ⟨_, _, rfl, by decide⟩ rfl]
  unfold wordE
  rw [if_neg (by decide), if_pos rfl]
  have g : strip [32] (32 :: (t ++ 40 :: (listE d true l ++ 41 :: rest))) = some (t ++ 40 :: (listE d true l ++ 41 :: rest)) := rfl
  simp only [g]
  simp [hsp, strip, e1]
 | member t y h1 h2 =>
  simp only [sz, szs] at hx
  refine ⟨fun d q rest X hq hr hc hX => ?_⟩
  have hq1 : q ≤ 10 := hq
  obtain ⟨ha, _⟩ := signs_idB h1
  have hsp := span_id ha hr
  have e' : outE d 0 (.mk 21 t 0 [y]) ++ rest = outE d 10 y ++ 46 :: (t ++ rest) := by rw [out21]; simp
  rw [e']
  refine (ihE y (by omega) h2).at hq1 rfl (fun hle => ?_) ?_
  ·have : crank (46 :: (t ++ rest)) = 10 := rfl
   rw [this]
   unfold ub
   rw [if_neg (by omega), if_neg (by omega), if_neg (by omega)]
   exact Nat.le_refl _
  ·refine hX.step fun f e2 => ?_
   rw [pL.eq_def]
   simp [hsp, e2]
 | index y z h1 h2 =>
  simp only [sz, szs] at hx
  refine ⟨fun d q rest X hq hr hc hX => ?_⟩
  have hq1 : q ≤ 10 := hq
  have e' : outE d 0 (.mk 22 [] 0 [y, z]) ++ rest = outE d 10 y ++ 91 :: (outE d 1 z ++ 93 :: rest) := by rw [out22]; simp
  rw [e']
  have hz := (ihE z (by omega) h2).stop (d := d) (r := 1) (rest := 93 :: rest) (by decide) (by decide) rfl rfl
  refine (ihE y (by omega) h1).at hq1 rfl (fun hle => ?_) ?_
  ·have : crank (91 :: (outE d 1 z ++ 93 :: rest)) = 10 := rfl
   rw [this]
   unfold ub
   rw [if_neg (by omega), if_neg (by omega), if_neg (by omega)]
   exact Nat.le_refl _
  ·refine (hz.and hX).step fun f ⟨e1, e2⟩ => ?_
   rw [pL.eq_def]
   simp [e1, strip, e2]

/-! ### statements -/

section
variable (d : Nat)
theorem s40 (t : Bs) (n : Int) (ty x : Tr) : outS d (.mk 40 t n [ty, x]) = (if n = 0 then [108, 101, 116, 32] else [99, 111, 110, 115, 116, 32]) ++ t ++ tyOr ty ++ [32, 61, 32] ++ outE d 1 x ++ [59] := by rw [outS.eq_def]; rfl
theorem s41 (t : Bs) (p ty : Tr) (bl : List Tr) : outS d (.mk 41 t 0 [p, ty, .mk 52 [] 0 bl]) = [102, 117, 110, 99, 116, 105, 111, 110, 32] ++ t ++ (pmsT p ++ tyOr ty ++ [32] ++ blk d bl) := by rw [outS.eq_def]; rfl
theorem s47 (x : Tr) : outS d (.mk 47 [] 0 [x]) = alone d x := by rw [outS.eq_def]; rfl
theorem s51 (x : Tr) : outS d (.mk 51 [] 0 [x]) = [116, 104, 114, 111, 119, 32] ++ outE d 1 x ++ [59] := by rw [outS.eq_def]; rfl
theorem s48 (x : Tr) (bl : List Tr) : outS d (.mk 48 [] 0 [x, .mk 52 [] 0 bl, .mk 14 [] 0 []]) = [105, 102, 32, 40] ++ outE d 1 x ++ [41, 32] ++ blk d bl ++ [] := by rw [outS.eq_def]; rfl
theorem s48e (x : Tr) (bl cl : List Tr) : outS d (.mk 48 [] 0 [x, .mk 52 [] 0 bl, .mk 52 [] 0 cl]) = [105, 102, 32, 40] ++ outE d 1 x ++ [41, 32] ++ blk d bl ++ ([32, 101, 108, 115, 101, 32] ++ blk d cl) := by rw [outS.eq_def]; rfl
theorem s49 (x : Tr) (bl : List Tr) : outS d (.mk 49 [] 0 [x, .mk 52 [] 0 bl]) = [119, 104, 105, 108, 101, 32, 40] ++ outE d 1 x ++ [41, 32] ++ blk d bl := by rw [outS.eq_def]; rfl
theorem s50 : outS d (.mk 50 [] 0 [.mk 14 [] 0 []]) = [114, 101, 116, 117, 114, 110, 59] := by rw [outS.eq_def]; rfl
theorem s50e (x : Tr) (h : x.k ≠ 14) : outS d (.mk 50 [] 0 [x]) = [114, 101, 116, 117, 114, 110] ++ ([32] ++ outE d 1 x) ++ [59] := by rw [outS.eq_def]; simp [h]
theorem s52 (l : List Tr) : outS d (.mk 52 [] 0 l) = blk d l := by rw [outS.eq_def]; rfl
end

/-- An expression that stands by itself. -/
theorem alone_read {n : Nat} (ihE : EAll n) {x : Tr} (hs : sz x < n) (h : isE x = true) (d : Nat) (rest : Bs) :
  (Ev fun f => pE f d 1 (alone d x ++ rest) = some (x, 59 :: rest)) ∧
  ∃ c s, alone d x ++ rest = c :: s ∧ c ≠ 123 ∧ ((c :: s).takeWhile idB = [] ∨ (c :: s).takeWhile idB = [110, 101, 119] ∨ (c :: s).takeWhile idB = [116, 121, 112, 101, 111, 102] ∨ (kw.contains ((c :: s).takeWhile idB) = false ∧ noWord ((c :: s).dropWhile idB))) := by
 have ok := ihE x hs h
 have hf := firstB_lead h
 unfold alone
 by_cases hl : lead 1 x = 0
 ·rw [hf, hl]
  simp only [ne_eq, not_true_eq_false, decide_false, Bool.false_eq_true, if_false]
  have e : outE d 1 x ++ [59] ++ rest = outE d 1 x ++ 59 :: rest := by simp
  rw [e]
  refine ⟨ok.stop (by decide) (by decide) rfl rfl, ?_⟩
  have hlo := lead_ok h d 1 (rest := 59 :: rest) rfl (noWord_of (by decide))
  obtain ⟨c, s, hc, _, _, _, _, _, _, hb⟩ := hlo.head
  have hw := hlo.word
  rw [hc] at hw
  refine ⟨c, s, hc, fun e => by have := hb.1 e; omega, ?_⟩
  rcases hw with ⟨e, _⟩ | ⟨_, e, _⟩ | ⟨e, _⟩ | ⟨e1, _, e2⟩
  ·exact .inl e
  ·omega
  ·exact .inr (e.imp id .inl)
  ·exact .inr (.inr (.inr ⟨e1, e2⟩))
 ·rw [hf]
  simp only [ne_eq, hl, not_false_eq_true, decide_true, if_true]
  have hrk : ¬ rank x < 1 := by have := rank_ge x; omega
  have e : [40] ++ outE d 1 x ++ [41, 59] ++ rest = [40] ++ outE d 0 x ++ [41] ++ 59 :: rest := by rw [outE_eq, if_neg hrk]; simp
  rw [e]
  refine ⟨ok.br (pL_stop (by decide) (show 0 < 1 by decide)), 40, outE d 0 x ++ [41] ++ 59 :: rest, by simp, by decide, .inl rfl⟩

/-- A word of statements: what the reader makes of it. -/
def wordS (f d : Nat) (w s0 all : Bs) : Option (Tr × Bs) :=
 if w = [108, 101, 116] ∨ w = [99, 111, 110, 115, 116] then do
  let s1 ← strip [32] s0
  let (ty, s2) ← pTyOr f (s1.dropWhile idB)
  let s3 ← strip [32, 61, 32] s2
  let (x, s4) ← pE f d 1 s3
  let s5 ← strip [59] s4
  some (.mk 40 (s1.takeWhile idB) (if w = [108, 101, 116] then 0 else 1) [ty, x], s5)
 else if w = [102, 117, 110, 99, 116, 105, 111, 110] then do
  let s1 ← strip [32] s0
  let (l, s2) ← pBody f d (s1.dropWhile idB)
  some (.mk 41 (s1.takeWhile idB) 0 l, s2)
 else if w = [105, 102] then do
  let s1 ← strip [32, 40] s0
  let (x, s2) ← pE f d 1 s1
  let s3 ← strip [41, 32] s2
  let (l, s4) ← pB f d s3
  match strip [32, 101, 108, 115, 101, 32] s4 with
  | some s5 => do
   let (m, s6) ← pB f d s5
   some (.mk 48 [] 0 [x, .mk 52 [] 0 l, .mk 52 [] 0 m], s6)
  | none => some (.mk 48 [] 0 [x, .mk 52 [] 0 l, .mk 14 [] 0 []], s4)
 else if w = [119, 104, 105, 108, 101] then do
  let s1 ← strip [32, 40] s0
  let (x, s2) ← pE f d 1 s1
  let s3 ← strip [41, 32] s2
  let (l, s4) ← pB f d s3
  some (.mk 49 [] 0 [x, .mk 52 [] 0 l], s4)
 else if w = [114, 101, 116, 117, 114, 110] then
  match strip [59] s0 with
  | some s1 => some (.mk 50 [] 0 [.mk 14 [] 0 []], s1)
  | none => do
   let s1 ← strip [32] s0
   let (x, s2) ← pE f d 1 s1
   let s3 ← strip [59] s2
   some (.mk 50 [] 0 [x], s3)
 else if w = [116, 104, 114, 111, 119] then do
  let s1 ← strip [32] s0
  let (x, s2) ← pE f d 1 s1
  let s3 ← strip [59] s2
  some (.mk 51 [] 0 [x], s3)
 else do
  let (x, s1) ← pE f d 1 all
  let s2 ← strip [59] s1
  some (.mk 47 [] 0 [x], s2)

theorem pS_word {c : UInt8} {s : Bs} (hc : c ≠ 123) (f d : Nat) : pS (f + 1) d (c :: s) = wordS f d ((c :: s).takeWhile idB) ((c :: s).dropWhile idB) (c :: s) := by
 rw [pS.eq_def]
 simp only [hc, if_false]
 rfl

theorem pS_kw {w s0 : Bs} (h : ∀ c ∈ w, idB c = true) (hc : ∃ c r, w = c :: r) (h0 : nid s0 = true) (f d : Nat) : pS (f + 1) d (w ++ s0) = wordS f d w s0 (w ++ s0) := by
 obtain ⟨c, r, rfl⟩ := hc
 have hn := id_ne (h c List.mem_cons_self)
 have hs := span_id h h0
 rw [List.cons_append] at hs ⊢
 rw [pS_word hn.2.2.2.1, hs.1, hs.2]

theorem isE_not14 {x : Tr} (h : isE x = true) : x.k ≠ 14 := by
 cases isE_inv h with
 | word k hk => rcases hk with rfl | rfl | rfl <;> decide
 | _ => simp [Tr.k]

theorem blk_head (d : Nat) (l : List Tr) (rest : Bs) : ∃ s, blk d l ++ rest = 123 :: s := ⟨_, by unfold blk; rfl⟩

theorem stmts_step {n : Nat} (ihE : EAll n) (ihS : SAll n) : SAll (n + 1) := by
 intro x hx h d rest hel
 cases isS_inv h with
 | lets t m ty y h1 h2 h3 h4 =>
  simp only [sz, szs] at hx
  obtain ⟨ha, c, r, hq, _⟩ := signs_idB (isId_signs h1).1
  have hE := (ihE y (by omega) h4).stop (d := d) (r := 1) (rest := 59 :: rest) (by decide) (by decide) rfl rfl
  have hT := tyOr_read h3 (rest := 32 :: 61 :: 32 :: (outE d 1 y ++ 59 :: rest)) (tstop_sp (by decide)) rfl
  have hnid : nid (tyOr ty ++ 32 :: 61 :: 32 :: (outE d 1 y ++ 59 :: rest)) = true := by unfold tyOr; split <;> rfl
  have hsp := span_id ha hnid
  refine (hT.and hE).step fun f ⟨e1, e2⟩ => ?_
  have g : strip [32] (32 :: (t ++ (tyOr ty ++ 32 :: 61 :: 32 :: (outE d 1 y ++ 59 :: rest)))) = some (t ++ (tyOr ty ++ 32 :: 61 :: 32 :: (outE d 1 y ++ 59 :: rest))) := rfl
  rcases h2 with rfl | rfl
  ·have e' : outS d (.mk 40 t 0 [ty, y]) ++ rest = [108, 101, 116] ++ 32 :: (t ++ (tyOr ty ++ 32 :: 61 :: 32 :: (outE d 1 y ++ 59 :: rest))) := by rw [s40]; simp
   rw [e', pS_kw (by decide) ⟨_, _, rfl⟩ rfl]
   unfold wordS
   rw [if_pos (.inl rfl)]
   simp only [g]
   simp [hsp, e1, strip, e2]
  ·have e' : outS d (.mk 40 t 1 [ty, y]) ++ rest = [99, 111, 110, 115, 116] ++ 32 :: (t ++ (tyOr ty ++ 32 :: 61 :: 32 :: (outE d 1 y ++ 59 :: rest))) := by rw [s40]; simp
   rw [e', pS_kw (by decide) ⟨_, _, rfl⟩ rfl]
   unfold wordS
   rw [if_pos (.inr rfl)]
   simp only [g]
   simp [hsp, e1, strip, e2]
 | func t p ty bl h0 h1 h2 h3 =>
  simp only [sz, szs] at hx
  obtain ⟨ha, _⟩ := signs_idB (isId_signs h0).1
  have hB := pBody_read ihS d p ty bl h1 h2 (by omega) h3 rest
  have hnid : nid (pmsT p ++ tyOr ty ++ [32] ++ blk d bl ++ rest) = true := rfl
  have hsp := span_id ha hnid
  refine hB.step fun f e1 => ?_
  have e' : outS d (.mk 41 t 0 [p, ty, .mk 52 [] 0 bl]) ++ rest = [102, 117, 110, 99, 116, 105, 111, 110] ++ 32 :: (t ++ (pmsT p ++ tyOr ty ++ [32] ++ blk d bl ++ rest)) := by rw [s41]; simp
  have g : strip [32] (32 :: (t ++ (pmsT p ++ tyOr ty ++ [32] ++ blk d bl ++ rest))) = some (t ++ (pmsT p ++ tyOr ty ++ [32] ++ blk d bl ++ rest)) := rfl
  rw [e', pS_kw (by decide) ⟨_, _, rfl⟩ rfl]
  unfold wordS
  rw [if_neg (by decide), if_pos rfl]
  simp only [g]
  show (do
   let (l, s2) ← pBody f d ((t ++ (pmsT p ++ tyOr ty ++ [32] ++ blk d bl ++ rest)).dropWhile idB)
   some (Tr.mk 41 ((t ++ (pmsT p ++ tyOr ty ++ [32] ++ blk d bl ++ rest)).takeWhile idB) 0 l, s2)) = _
  rw [hsp.1, hsp.2, e1]
  rfl
 | expr y hy =>
  simp only [sz, szs] at hx
  obtain ⟨hr, c, s, hc, h123, hw⟩ := alone_read ihE (by omega : sz y < n) hy d rest
  refine hr.step fun f e1 => ?_
  rw [s47]
  rw [hc] at e1 ⊢
  rw [pS_word h123]
  unfold wordS
  have hk : ∀ k : Bs, k ∈ [[108, 101, 116], [99, 111, 110, 115, 116], [102, 117, 110, 99, 116, 105, 111, 110], [105, 102], [119, 104, 105, 108, 101], [114, 101, 116, 117, 114, 110], [116, 104, 114, 111, 119]] → (c :: s).takeWhile idB ≠ k := by
   intro k hk e
   rw [e] at hw
   simp at hk
   rcases hk with rfl | rfl | rfl | rfl | rfl | rfl | rfl <;> revert hw <;> simp [kw]
  have k1 := hk [108, 101, 116] (by decide)
  have k2 := hk [99, 111, 110, 115, 116] (by decide)
  have k3 := hk [102, 117, 110, 99, 116, 105, 111, 110] (by decide)
  have k4 := hk [105, 102] (by decide)
  have k5 := hk [119, 104, 105, 108, 101] (by decide)
  have k6 := hk [114, 101, 116, 117, 114, 110] (by decide)
  have k7 := hk [116, 104, 114, 111, 119] (by decide)
  rw [if_neg (by rintro (e | e); exact k1 e; exact k2 e), if_neg k3, if_neg k4, if_neg k5, if_neg k6, if_neg k7, e1]
  rfl
 | throws y hy =>
  simp only [sz, szs] at hx
  have hE := (ihE y (by omega) hy).stop (d := d) (r := 1) (rest := 59 :: rest) (by decide) (by decide) rfl rfl
  refine hE.step fun f e2 => ?_
  have e' : outS d (.mk 51 [] 0 [y]) ++ rest = [116, 104, 114, 111, 119] ++ 32 :: (outE d 1 y ++ 59 :: rest) := by rw [s51]; simp
  rw [e', pS_kw (by decide) ⟨_, _, rfl⟩ rfl]
  simp [wordS, strip, e2]
 | ifs y bl h1 h2 =>
  simp only [sz, szs] at hx
  have hE := (ihE y (by omega) h1).stop (d := d) (r := 1) (rest := 41 :: 32 :: (blk d bl ++ rest)) (by decide) (by decide) rfl rfl
  refine (hE.and (pB_read ihS d bl (by omega) h2 rest)).step fun f ⟨e1, e2⟩ => ?_
  have e' : outS d (.mk 48 [] 0 [y, .mk 52 [] 0 bl, .mk 14 [] 0 []]) ++ rest = [105, 102] ++ 32 :: 40 :: (outE d 1 y ++ 41 :: 32 :: (blk d bl ++ rest)) := by rw [s48]; simp
  rw [e', pS_kw (by decide) ⟨_, _, rfl⟩ rfl]
  unfold wordS
  rw [if_neg (by decide), if_neg (by decide), if_pos rfl]
  have g1 : strip [32, 40] (32 :: 40 :: (outE d 1 y ++ 41 :: 32 :: (blk d bl ++ rest))) = some (outE d 1 y ++ 41 :: 32 :: (blk d bl ++ rest)) := rfl
  have g2 : strip [41, 32] (41 :: 32 :: (blk d bl ++ rest)) = some (blk d bl ++ rest) := rfl
  simp [g1, e1, g2, e2, hel]
 | ifElse y bl cl h1 h2 h3 =>
  simp only [sz, szs] at hx
  have hE := (ihE y (by omega) h1).stop (d := d) (r := 1) (rest := 41 :: 32 :: (blk d bl ++ ([32, 101, 108, 115, 101, 32] ++ (blk d cl ++ rest)))) (by decide) (by decide) rfl rfl
  refine ((hE.and (pB_read ihS d bl (by omega) h2 ([32, 101, 108, 115, 101, 32] ++ (blk d cl ++ rest)))).and (pB_read ihS d cl (by omega) h3 rest)).step fun f ⟨⟨e1, e2⟩, e3⟩ => ?_
  have e' : outS d (.mk 48 [] 0 [y, .mk 52 [] 0 bl, .mk 52 [] 0 cl]) ++ rest = [105, 102] ++ 32 :: 40 :: (outE d 1 y ++ 41 :: 32 :: (blk d bl ++ ([32, 101, 108, 115, 101, 32] ++ (blk d cl ++ rest)))) := by rw [s48e]; simp
  rw [e', pS_kw (by decide) ⟨_, _, rfl⟩ rfl]
  unfold wordS
  rw [if_neg (by decide), if_neg (by decide), if_pos rfl]
  simp at e1 e2
  simp [strip, e1, e2, e3]
 | whiles y bl h1 h2 =>
  simp only [sz, szs] at hx
  have hE := (ihE y (by omega) h1).stop (d := d) (r := 1) (rest := 41 :: 32 :: (blk d bl ++ rest)) (by decide) (by decide) rfl rfl
  refine (hE.and (pB_read ihS d bl (by omega) h2 rest)).step fun f ⟨e1, e2⟩ => ?_
  have e' : outS d (.mk 49 [] 0 [y, .mk 52 [] 0 bl]) ++ rest = [119, 104, 105, 108, 101] ++ 32 :: 40 :: (outE d 1 y ++ 41 :: 32 :: (blk d bl ++ rest)) := by rw [s49]; simp
  rw [e', pS_kw (by decide) ⟨_, _, rfl⟩ rfl]
  unfold wordS
  rw [if_neg (by decide), if_neg (by decide), if_neg (by decide), if_pos rfl]
  have g1 : strip [32, 40] (32 :: 40 :: (outE d 1 y ++ 41 :: 32 :: (blk d bl ++ rest))) = some (outE d 1 y ++ 41 :: 32 :: (blk d bl ++ rest)) := rfl
  have g2 : strip [41, 32] (41 :: 32 :: (blk d bl ++ rest)) = some (blk d bl ++ rest) := rfl
  simp [g1, e1, g2, e2]
 | ret =>
  refine Ev.of1 fun f => ?_
  have e' : outS d (.mk 50 [] 0 [.mk 14 [] 0 []]) ++ rest = [114, 101, 116, 117, 114, 110] ++ 59 :: rest := by rw [s50]; simp
  rw [e', pS_kw (by decide) ⟨_, _, rfl⟩ rfl]
  simp [wordS, strip]
 | retE y hy =>
  simp only [sz, szs] at hx
  have hE := (ihE y (by omega) hy).stop (d := d) (r := 1) (rest := 59 :: rest) (by decide) (by decide) rfl rfl
  refine hE.step fun f e2 => ?_
  have e' : outS d (.mk 50 [] 0 [y]) ++ rest = [114, 101, 116, 117, 114, 110] ++ 32 :: (outE d 1 y ++ 59 :: rest) := by rw [s50e d y (isE_not14 hy)]; simp
  rw [e', pS_kw (by decide) ⟨_, _, rfl⟩ rfl]
  simp [wordS, strip, e2]
 | block l hl =>
  simp only [sz] at hx
  refine (pB_read ihS d l (by omega) hl rest).step fun f e1 => ?_
  rw [s52]
  obtain ⟨s, hs⟩ := blk_head d l rest
  rw [hs] at e1 ⊢
  rw [pS.eq_def]
  simp [e1]

theorem both_read : ∀ n, EAll n ∧ SAll n := by
 intro n
 induction n with
 | zero => exact ⟨fun x hx => by omega, fun x hx => by omega⟩
 | succ n ih => exact ⟨exprs_step ih.1 ih.2, stmts_step ih.1 ih.2⟩

theorem expr_read {x : Tr} (h : isE x = true) : EOk x := (both_read (sz x + 1)).1 x (by omega) h
theorem stmt_read {x : Tr} (h : isS x = true) (d : Nat) {rest : Bs} (hel : strip [32, 101, 108, 115, 101, 32] rest = none) : Ev fun f => pS f d (outS d x ++ rest) = some (x, rest) := (both_read (sz x + 1)).2 x (by omega) h d rest hel

/-! ### the reader -/

/-- Lines in brackets, up to the bracket. -/
def pLns (one : Nat → Bs → Option (Tr × Bs)) : Nat → Nat → Bs → Option (List Tr × Bs)
 | 0, _, _ => none
 | f + 1, d, s =>
  match strip (10 :: (ind d ++ [125])) s with
  | some s => some ([], s)
  | none => do
   let s ← strip (10 :: ind (d + 1)) s
   let (x, s) ← one f s
   let (l, s) ← pLns one f d s
   some (x :: l, s)
def pIn (one : Nat → Bs → Option (Tr × Bs)) (f d : Nat) (s : Bs) : Option (List Tr × Bs) := do
 let s ← strip [123] s
 match strip [125] s with
 | some s => some ([], s)
 | none => pLns one f d s

/-- A member of a class. -/
def pM (d : Nat) (f : Nat) (s : Bs) : Option (Tr × Bs) :=
 let w := s.takeWhile idB
 let s0 := s.dropWhile idB
 match strip [40] s0 with
 | some _ =>
  if w = [99, 111, 110, 115, 116, 114, 117, 99, 116, 111, 114] then do
   let (p, s1) ← pPms f s0
   let s2 ← strip [32] s1
   let (l, s3) ← pB f d s2
   some (.mk 44 [] 0 [p, .mk 52 [] 0 l], s3)
  else do
   let (l, s1) ← pBody f d s0
   some (.mk 45 w 0 l, s1)
 | none => do
  let (ty, s1) ← pTyOr f s0
  let s2 ← strip [32, 61, 32] s1
  let (x, s3) ← pE f d 1 s2
  let s4 ← strip [59] s3
  some (.mk 43 w 0 [ty, x], s4)

/-- A line of a namespace. -/
def pN (_ : Nat) (s : Bs) : Option (Tr × Bs) := do
 let s1 ← strip [32, 61, 32] (s.dropWhile idB)
 let s2 ← strip [59] (s1.dropWhile idB)
 some (.mk 67 (s.takeWhile idB) 0 [.mk 6 (s1.takeWhile idB) 0 []], s2)

def pName (s : Bs) : Tr × Bs := (.mk 6 (s.takeWhile idB) 0 [], s.dropWhile idB)

/-- Names in brackets (one at least), k the kind; none: what a name without 'as' has. -/
def pNs (k : Int) (none' : Bs → Tr) : Nat → Bs → Option (List Tr × Bs)
 | 0, _ => none
 | f + 1, s => do
  let w := s.takeWhile idB
  let s0 := s.dropWhile idB
  let (o, s1) := match strip [32, 97, 115, 32] s0 with
   | some s1 => (Tr.mk k w 0 [(pName s1).1], (pName s1).2)
   | none => (Tr.mk k w 0 [none' w], s0)
  match strip [32, 125] s1 with
  | some s2 => some ([o], s2)
  | none => do
   let s2 ← strip [44, 32] s1
   let (l, s3) ← pNs k none' f s2
   some (o :: l, s3)
def sameN (w : Bs) : Tr := .mk 6 w 0 []
def noN (_ : Bs) : Tr := .mk 14 [] 0 []

def wordNext (s : Bs) : Bool := match s with
 | a :: c :: _ => a == 32 && idB c
 | _ => false

/-- What stands behind 'from'. -/
def pReq (f : Nat) (s : Bs) : Option (Bs × Bs) := do
 let s ← strip [34] s
 let (t, s) ← rdQ f s
 let s ← strip [59] s
 some (t, s)

/-- The names of an import. -/
def pRest (f : Nat) (s : Bs) : Option (List Tr × Bs) :=
 match strip [42, 32, 97, 115, 32] s with
 | some s => some ([.mk 61 star 0 [(pName s).1]], (pName s).2)
 | none => do
  let s ← strip [123, 32] s
  pNs 61 sameN f s
def pClause (f : Nat) (s : Bs) : Option (List Tr × Bs) :=
 match s.takeWhile idB with
 | [] => pRest f s
 | c :: r => do
  let o := Tr.mk 61 [100, 101, 102, 97, 117, 108, 116] 0 [.mk 6 (c :: r) 0 []]
  match strip [44, 32] (s.dropWhile idB) with
  | some s => do
   let (l, s) ← pRest f s
   some (o :: l, s)
  | none => some ([o], s.dropWhile idB)
/-- Is it 'type' for types alone? -/
def typeOnly (s : Bs) : Bool :=
 s.takeWhile idB == [116, 121, 112, 101] &&
  (match strip [32] (s.dropWhile idB) with
   | some s1 => !(s1.takeWhile idB == [102, 114, 111, 109] && startsB [32, 34] (s1.dropWhile idB))
   | none => false)
def pImp (f : Nat) (s : Bs) : Option (Tr × Bs) :=
 match strip [34] s with
 | some _ => do
  let (t, s) ← pReq f s
  some (.mk 60 t 0 [], s)
 | none => do
  let n : Int := if typeOnly s = true then 1 else 0
  let (l, s) ← pClause f (if typeOnly s = true then s.drop 5 else s)
  let s ← strip [32, 102, 114, 111, 109, 32] s
  let (t, s) ← pReq f s
  some (.mk 60 t n l, s)

/-- The end of an export of names. -/
def pEnd (f : Nat) (s : Bs) : Option (Bs × Bs) :=
 match strip [32, 102, 114, 111, 109, 32] s with
 | some s => pReq f s
 | none => do
  let s ← strip [59] s
  some ([], s)

/-- An item, but of an Export or a Default. -/
def pIt (f d : Nat) (s : Bs) : Option (Tr × Bs) :=
 let w := s.takeWhile idB
 let s0 := s.dropWhile idB
 if w = [99, 108, 97, 115, 115] then do
  let s1 ← strip [32] s0
  let s2 ← strip [32] (s1.dropWhile idB)
  let (l, s3) ← pIn (pM (d + 1)) f d s2
  some (.mk 42 (s1.takeWhile idB) 0 l, s3)
 else if w = [116, 121, 112, 101] ∧ wordNext s0 = true then do
  let s1 ← strip [32] s0
  let s2 ← strip [32, 61, 32] (s1.dropWhile idB)
  let (y, s3) ← pT f s2
  let s4 ← strip [59] s3
  some (.mk 46 (s1.takeWhile idB) 0 [y], s4)
 else if w = [105, 109, 112, 111, 114, 116] then do
  let s1 ← strip [32] s0
  pImp f s1
 else if w = [110, 97, 109, 101, 115, 112, 97, 99, 101] ∧ wordNext s0 = true then do
  let s1 ← strip [32] s0
  let s2 ← strip [32] (s1.dropWhile idB)
  let (l, s3) ← pIn pN f d s2
  some (.mk 66 (s1.takeWhile idB) 0 l, s3)
 else pS f d s

def pI (f d : Nat) (s : Bs) : Option (Tr × Bs) :=
 if s.takeWhile idB = [101, 120, 112, 111, 114, 116] then do
  let s1 ← strip [32] (s.dropWhile idB)
  match strip [100, 101, 102, 97, 117, 108, 116, 32] s1 with
  | some s2 =>
   if s2.takeWhile idB = [102, 117, 110, 99, 116, 105, 111, 110] ∨ s2.takeWhile idB = [99, 108, 97, 115, 115] then do
    let (y, s3) ← pIt f d s2
    some (.mk 63 [] 0 [y], s3)
   else do
    let (y, s3) ← pE f d 1 s2
    let s4 ← strip [59] s3
    some (.mk 63 [] 0 [y], s4)
  | none =>
   match strip [116, 121, 112, 101, 32, 123, 32] s1 with
   | some s2 => do
    let (l, s3) ← pNs 65 noN f s2
    let (t, s4) ← pEnd f s3
    some (.mk 64 t 1 l, s4)
   | none =>
    match strip [123, 32] s1 with
    | some s2 => do
     let (l, s3) ← pNs 65 noN f s2
     let (t, s4) ← pEnd f s3
     some (.mk 64 t 0 l, s4)
    | none =>
     match strip [42] s1 with
     | some s2 =>
      match strip [32, 97, 115, 32] s2 with
      | some s3 => do
       let (t, s4) ← pEnd f (pName s3).2
       some (.mk 64 t 0 [.mk 65 star 0 [(pName s3).1]], s4)
      | none => do
       let (t, s4) ← pEnd f s2
       some (.mk 64 t 0 [.mk 65 star 0 [.mk 14 [] 0 []]], s4)
     | none => do
      let (y, s3) ← pIt f d s1
      some (.mk 62 [] 0 [y], s3)
 else pIt f d s

/-- Items, a line each. -/
def pAll : Nat → Bs → Option (List Tr)
 | 0, _ => none
 | _ + 1, [] => some []
 | f + 1, c :: s => do
  let (y, s) ← pI f 0 (c :: s)
  let s ← strip [10] s
  let l ← pAll f s
  some (y :: l)

/-! ### what is read -/

theorem pLns_read {one : Nat → Bs → Option (Tr × Bs)} {out : Tr → Bs} {lines : List Tr → Bs} (d : Nat) (h0 : lines [] = []) (h1 : ∀ x r, lines (x :: r) = 10 :: (ind (d + 1) ++ out x) ++ lines r) :
  ∀ (l : List Tr), (∀ x ∈ l, ∀ rest, Ev fun f => one f (out x ++ 10 :: rest) = some (x, 10 :: rest)) → ∀ rest, Ev fun f => pLns one f d (lines l ++ 10 :: (ind d ++ 125 :: rest)) = some (l, rest) := by
 intro l
 induction l with
 | nil =>
  intro _ rest
  exact Ev.of1 fun f => by
   rw [pLns.eq_def]
   have : strip (10 :: (ind d ++ [125])) (10 :: (ind d ++ 125 :: rest)) = some rest := by
    have := strip_app (10 :: (ind d ++ [125])) rest
    simpa using this
   simp [h0, this]
 | cons x r ihl =>
  intro h rest
  have hx := h x List.mem_cons_self
  have ih := ihl (fun y hy => h y (List.mem_cons_of_mem _ hy)) rest
  have e : lines (x :: r) ++ 10 :: (ind d ++ 125 :: rest) = 10 :: (ind (d + 1) ++ (out x ++ (lines r ++ 10 :: (ind d ++ 125 :: rest)))) := by rw [h1]; simp
  have ht : ∃ tl, lines r ++ 10 :: (ind d ++ 125 :: rest) = 10 :: tl := by
   cases r with
   | nil => exact ⟨_, by rw [h0]; rfl⟩
   | cons z r => exact ⟨_, by rw [h1]; rfl⟩
  obtain ⟨tl, htl⟩ := ht
  rw [e]
  have hx' := hx tl
  rw [← htl] at hx'
  refine (hx'.and ih).step fun f ⟨e1, e2⟩ => ?_
  rw [pLns.eq_def]
  have g1 : strip (10 :: (ind d ++ [125])) (10 :: (ind (d + 1) ++ (out x ++ (lines r ++ 10 :: (ind d ++ 125 :: rest))))) = none := by
   rw [ind_succ, List.append_assoc]
   simp only [strip, if_true]
   rw [strip_pre]
   rfl
  have g2 : strip (10 :: ind (d + 1)) (10 :: (ind (d + 1) ++ (out x ++ (lines r ++ 10 :: (ind d ++ 125 :: rest))))) = some (out x ++ (lines r ++ 10 :: (ind d ++ 125 :: rest))) :=
   strip_app (10 :: ind (d + 1)) _
  simp only [g1, g2]
  simp [e1, e2]

theorem pIn_read {one : Nat → Bs → Option (Tr × Bs)} {out : Tr → Bs} {lines : List Tr → Bs} (d : Nat) (h0 : lines [] = []) (h1 : ∀ x r, lines (x :: r) = 10 :: (ind (d + 1) ++ out x) ++ lines r)
  (l : List Tr) (h : ∀ x ∈ l, ∀ rest, Ev fun f => one f (out x ++ 10 :: rest) = some (x, 10 :: rest)) (rest : Bs) : Ev fun f => pIn one f d ([123] ++ lines l ++ closeL d l ++ rest) = some (l, rest) := by
 cases l with
 | nil => exact Ev.of fun f => by simp [h0, closeL, pIn, strip]
 | cons x r =>
  refine (pLns_read d h0 h1 (x :: r) h rest).mono fun f e1 => ?_
  have e : [123] ++ lines (x :: r) ++ closeL d (x :: r) ++ rest = 123 :: (lines (x :: r) ++ 10 :: (ind d ++ 125 :: rest)) := by simp [closeL]
  have g : strip [125] (lines (x :: r) ++ 10 :: (ind d ++ 125 :: rest)) = none := by rw [h1]; rfl
  have g2 : strip [123] (123 :: (lines (x :: r) ++ 10 :: (ind d ++ 125 :: rest))) = some (lines (x :: r) ++ 10 :: (ind d ++ 125 :: rest)) := rfl
  rw [e]
  unfold pIn
  simp [g2, g, e1]

end Go.Proofs.YtpmlmpibpmoclaaGreatDoor
