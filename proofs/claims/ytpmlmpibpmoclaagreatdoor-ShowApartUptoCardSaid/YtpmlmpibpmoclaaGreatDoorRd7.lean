/-
  The reader undoes the printing: classes, imports, exports, items, modules; so one text has one tree.
-/
import Derived.Test.YtpmlmpibpmoclaaGreatDoorRd5
namespace Go.Proofs.YtpmlmpibpmoclaaGreatDoor
set_option linter.all false
theorem blk_inv {x : Tr} (h : isBlk x = true) : ∃ l, x = .mk 52 [] 0 l ∧ allS l = true := by
 unfold isBlk at h
 simp only [Bool.and_eq_true] at h
 have hk := eq_of_beq h.1
 cases isS_inv h.2 with
 | block l hl => exact ⟨l, rfl, hl⟩
 | _ => simp [Tr.k] at hk

theorem body_inv {l : List Tr} (h : isBody l = true) : ∃ p ty bl, l = [p, ty, .mk 52 [] 0 bl] ∧ isPms false p = true ∧ isTyOr ty = true ∧ allS bl = true := by
 unfold isBody at h
 split at h
 ·rename_i p ty b
  simp only [Bool.and_eq_true] at h
  obtain ⟨bl, rfl, hb⟩ := blk_inv h.2
  exact ⟨p, ty, bl, rfl, h.1.1, h.1.2, hb⟩
 ·cases h

/-- A member, case by case. -/
inductive CM : Tr → Prop where
 | field (t : Bs) (ty x : Tr) (h1 : signs t = true) (h2 : isTyOr ty = true) (h3 : isE x = true) : CM (.mk 43 t 0 [ty, x])
 | ctor (p : Tr) (bl : List Tr) (h1 : isPms false p = true) (h2 : allS bl = true) : CM (.mk 44 [] 0 [p, .mk 52 [] 0 bl])
 | method (t : Bs) (p ty : Tr) (bl : List Tr) (h0 : signs t = true) (hn : t ≠ [99, 111, 110, 115, 116, 114, 117, 99, 116, 111, 114]) (h1 : isPms false p = true) (h2 : isTyOr ty = true) (h3 : allS bl = true) : CM (.mk 45 t 0 [p, ty, .mk 52 [] 0 bl])

theorem mems_cons {st : Nat} {names : List Bs} {x : Tr} {r : List Tr} (h : memsOk st names (x :: r) = true) : CM x ∧ ∃ st' names', memsOk st' names' r = true := by
 obtain ⟨k, t, n, l⟩ := x
 rw [memsOk.eq_def] at h
 simp only at h
 by_cases h43 : k = 43
 ·subst h43
  simp only [if_true] at h
  match l, h with
  | [ty, y], h' =>
   simp only [Bool.and_eq_true, beq_iff_eq] at h'
   obtain ⟨⟨⟨⟨⟨h1, h2, h3⟩, rfl⟩, _⟩, _⟩, hr⟩ := h'
   exact ⟨.field t ty y h1 h2 h3, _, _, hr⟩
  | [], h => simp at h
  | [_], h => simp at h
  | _ :: _ :: _ :: _, h => simp at h
 by_cases h44 : k = 44
 ·subst h44
  match l, h with
  | [p, b], h' =>
   simp at h'
   obtain ⟨⟨⟨⟨⟨rfl, _⟩, h1, h2⟩, rfl⟩, _⟩, hr⟩ := h'
   obtain ⟨bl, rfl, hb⟩ := blk_inv h2
   exact ⟨.ctor p bl h1 hb, _, _, hr⟩
  | [], h => simp at h
  | [_], h => simp at h
  | _ :: _ :: _ :: _, h => simp at h
 by_cases h45 : k = 45
 ·subst h45
  simp at h
  obtain ⟨⟨⟨⟨⟨h1, h2⟩, rfl⟩, _⟩, _, hne⟩, hr⟩ := h
  obtain ⟨p, ty, bl, rfl, hp, hty, hb⟩ := body_inv h2
  exact ⟨.method t p ty bl h1 hne hp hty hb, _, _, hr⟩
 ·simp [h43, h44, h45] at h

theorem mems_all : ∀ (l : List Tr) (st : Nat) (names : List Bs), memsOk st names l = true → ∀ x ∈ l, CM x := by
 intro l
 induction l with
 | nil => intro _ _ _ x hx; cases hx
 | cons y r ih =>
  intro st names h x hx
  obtain ⟨h1, st', names', h2⟩ := mems_cons h
  rcases List.mem_cons.1 hx with rfl | hx
  ·exact h1
  ·exact ih _ _ h2 x hx

theorem pB_all {l : List Tr} (h : allS l = true) (d : Nat) (rest : Bs) : Ev fun f => pB f d (blk d l ++ rest) = some (l, rest) := pB_read (both_read (szs l + 1)).2 d l (by omega) h rest
theorem pBody_all {p ty : Tr} {l : List Tr} (h1 : isPms false p = true) (h2 : isTyOr ty = true) (h : allS l = true) (d : Nat) (rest : Bs) :
  Ev fun f => pBody f d (pmsT p ++ tyOr ty ++ [32] ++ blk d l ++ rest) = some ([p, ty, .mk 52 [] 0 l], rest) := pBody_read (both_read (szs l + 1)).2 d p ty l h1 h2 (by omega) h rest

theorem pM_read {x : Tr} (h : CM x) (d : Nat) (rest : Bs) : Ev fun f => pM d f (outM d x ++ rest) = some (x, rest) := by
 cases h with
 | field t ty y h1 h2 h3 =>
  obtain ⟨ha, _⟩ := signs_idB h1
  have hE := (expr_read h3).stop (d := d) (r := 1) (rest := 59 :: rest) (by decide) (by decide) rfl rfl
  have hT := tyOr_read h2 (rest := 32 :: 61 :: 32 :: (outE d 1 y ++ 59 :: rest)) (tstop_sp (by decide)) rfl
  have hn : nid (tyOr ty ++ 32 :: 61 :: 32 :: (outE d 1 y ++ 59 :: rest)) = true ∧ strip [40] (tyOr ty ++ 32 :: 61 :: 32 :: (outE d 1 y ++ 59 :: rest)) = none := by unfold tyOr; split <;> exact ⟨rfl, rfl⟩
  have hsp := span_id ha hn.1
  refine (hT.and hE).mono fun f ⟨e1, e2⟩ => ?_
  have e' : outM d (.mk 43 t 0 [ty, y]) ++ rest = t ++ (tyOr ty ++ 32 :: 61 :: 32 :: (outE d 1 y ++ 59 :: rest)) := by simp [outM, Tr.k, Tr.l, Tr.t]
  rw [e']
  unfold pM
  simp only [hsp, hn.2]
  simp [e1, strip, e2]
 | ctor p bl h1 h2 =>
  have hsp := span_id (t := [99, 111, 110, 115, 116, 114, 117, 99, 116, 111, 114]) (rest := pmsT p ++ 32 :: (blk d bl ++ rest)) (by decide) rfl
  refine ((pms_read h1 (32 :: (blk d bl ++ rest))).and (pB_all h2 d rest)).mono fun f ⟨e1, e2⟩ => ?_
  have e' : outM d (.mk 44 [] 0 [p, .mk 52 [] 0 bl]) ++ rest = [99, 111, 110, 115, 116, 114, 117, 99, 116, 111, 114] ++ (pmsT p ++ 32 :: (blk d bl ++ rest)) := by simp [outM, Tr.k, Tr.l]
  have g : ∃ s, strip [40] (pmsT p ++ 32 :: (blk d bl ++ rest)) = some s := ⟨_, rfl⟩
  obtain ⟨s, g⟩ := g
  rw [e']
  unfold pM
  simp only [hsp, g, if_true]
  simp [e1, strip, e2]
 | method t p ty bl h0 hne h1 h2 h3 =>
  obtain ⟨ha, _⟩ := signs_idB h0
  have hsp := span_id (rest := pmsT p ++ tyOr ty ++ [32] ++ blk d bl ++ rest) ha rfl
  refine (pBody_all h1 h2 h3 d rest).mono fun f e1 => ?_
  have e' : outM d (.mk 45 t 0 [p, ty, .mk 52 [] 0 bl]) ++ rest = t ++ (pmsT p ++ tyOr ty ++ [32] ++ blk d bl ++ rest) := by simp [outM, Tr.k, Tr.l, Tr.t, bodyT]
  have g : ∃ s, strip [40] (pmsT p ++ tyOr ty ++ [32] ++ blk d bl ++ rest) = some s := ⟨_, rfl⟩
  obtain ⟨s, g⟩ := g
  rw [e']
  unfold pM
  simp only [hsp, g, hne, if_false, e1]
  rfl

theorem pIn_class {x : Tr} (h : memsOk 0 [] x.l = true) (d : Nat) (rest : Bs) : Ev fun f => pIn (pM (d + 1)) f d ([123] ++ linesM (d + 1) x.l ++ closeL d x.l ++ rest) = some (x.l, rest) :=
 pIn_read (out := outM (d + 1)) (lines := linesM (d + 1)) d rfl (fun _ _ => rfl) x.l (fun y hy tl => pM_read (mems_all x.l 0 [] h y hy) (d + 1) (10 :: tl)) rest

/-! ### names -/

/-- A name, perhaps with 'as'. -/
def NameOk (k : Int) (none' : Bs → Tr) (o : Tr) : Prop :=
 ∃ t y, o = .mk k t 0 [y] ∧ signs t = true ∧ ((oneT o = t ∧ y = none' t) ∨ ∃ ot, y = .mk 6 ot 0 [] ∧ signs ot = true ∧ oneT o = t ++ ([32, 97, 115, 32] ++ ot))

theorem pNs_read (k : Int) (none' : Bs → Tr) : ∀ (l : List Tr), l ≠ [] → (∀ o ∈ l, NameOk k none' o) → ∀ rest, Ev fun f => pNs k none' f (namesT true l ++ 32 :: 125 :: rest) = some (l, rest) := by
 intro l
 induction l with
 | nil => intro h; exact absurd rfl h
 | cons o r ih =>
  intro _ h rest
  have tail : ∃ tl, namesT false r ++ 32 :: 125 :: rest = tl ∧ (nid tl = true ∧ strip [32, 97, 115, 32] tl = none) ∧
    ((strip [32, 125] tl = some rest ∧ r = []) ∨ (strip [32, 125] tl = none ∧ ∃ s2, strip [44, 32] tl = some s2 ∧ Ev fun f => pNs k none' f s2 = some (r, rest))) := by
   cases r with
   | nil => exact ⟨_, rfl, ⟨rfl, rfl⟩, .inl ⟨rfl, rfl⟩⟩
   | cons z r =>
    have e : namesT false (z :: r) = 44 :: 32 :: namesT true (z :: r) := by simp [namesT]
    rw [e]
    exact ⟨_, rfl, ⟨rfl, rfl⟩, .inr ⟨rfl, _, rfl, ih (by simp) (fun y hy => h y (List.mem_cons_of_mem _ hy)) rest⟩⟩
  obtain ⟨tl, htl, ⟨hn, has⟩, htail⟩ := tail
  obtain ⟨t, y, rfl, ht, hy⟩ := h o List.mem_cons_self
  obtain ⟨ha, _⟩ := signs_idB ht
  have step : ∀ s, (∀ f, pNs k none' (f + 1) s = (match strip [32, 125] tl with
    | some s2 => some ([Tr.mk k t 0 [y]], s2)
    | none => do
     let s2 ← strip [44, 32] tl
     let (l, s3) ← pNs k none' f s2
     some (.mk k t 0 [y] :: l, s3))) → Ev fun f => pNs k none' f s = some (.mk k t 0 [y] :: r, rest) := fun s hs => by
   rcases htail with ⟨g1, rfl⟩ | ⟨g1, s2, g2, g3⟩
   ·exact Ev.of1 fun f => by rw [hs, g1]
   ·refine g3.step fun f g3 => ?_
    rw [hs, g1]
    simp [g2, g3]
  rcases hy with ⟨h1, rfl⟩ | ⟨ot, rfl, hot, h1⟩
  ·have e : namesT true (.mk k t 0 [none' t] :: r) ++ 32 :: 125 :: rest = t ++ tl := by simp [namesT, h1, ← htl]
   rw [e]
   refine step _ fun f => ?_
   rw [pNs]
   simp only [span_id ha hn, has]
   rfl
  ·obtain ⟨hb, _⟩ := signs_idB hot
   have e : namesT true (.mk k t 0 [.mk 6 ot 0 []] :: r) ++ 32 :: 125 :: rest = t ++ 32 :: 97 :: 115 :: 32 :: (ot ++ tl) := by simp [namesT, h1, ← htl]
   rw [e]
   refine step _ fun f => ?_
   rw [pNs]
   have g : strip [32, 97, 115, 32] (32 :: 97 :: 115 :: 32 :: (ot ++ tl)) = some (ot ++ tl) := rfl
   simp only [span_id (rest := 32 :: 97 :: 115 :: 32 :: (ot ++ tl)) ha rfl, g, pName, span_id hb hn]
   rfl

theorem name_inv {loose : Bool} {x : Tr} (h : isName loose x = true) : ∃ t, x = .mk 6 t 0 [] ∧ signs t = true := by
 obtain ⟨k, t, n, l⟩ := x
 simp [isName, bare, Tr.k, Tr.t, Tr.n, Tr.l] at h
 obtain ⟨⟨⟨rfl, rfl⟩, rfl⟩, h⟩ := h
 exact ⟨t, rfl, h.elim (fun h => (isId_signs h).1) (fun h => h.2)⟩

/-! ### imports -/

theorem imps_cons {f : Bs} {i : Nat} {x : Tr} {r : List Tr} (h : impsOk f i (x :: r) = true) :
  ∃ t ot, x = .mk 61 t 0 [.mk 6 ot 0 []] ∧ signs ot = true ∧ (t = star ∨ signs t = true) ∧ (t = star → i ≤ 1 ∧ (i = 0 ∨ f = [100, 101, 102, 97, 117, 108, 116]) ∧ r = []) ∧ impsOk f (i + 1) r = true := by
 obtain ⟨k, t, n, l⟩ := x
 rw [impsOk.eq_def] at h
 simp only at h
 match l, h with
 | [o], h' =>
  simp only [Bool.and_eq_true, Bool.or_eq_true, beq_iff_eq] at h'
  obtain ⟨⟨⟨⟨⟨rfl, rfl⟩, ho⟩, ht⟩, hs⟩, hr⟩ := h'
  obtain ⟨ot, rfl, hot⟩ := name_inv ho
  refine ⟨t, ot, rfl, hot, ht, fun e => ?_, hr⟩
  rcases hs with hs | hs
  ·simp [e] at hs
  ·exact ⟨of_decide_eq_true hs.1.1, hs.1.2, by simpa using hs.2⟩
 | [], h => simp at h
 | _ :: _ :: _, h => simp at h

theorem star_signs : signs star = false := by decide

/-- No star among them: names. -/
theorem imps_names {f : Bs} : ∀ (l : List Tr) (i : Nat), impsOk f i l = true → (∀ x ∈ l, x.t ≠ star) → ∀ o ∈ l, NameOk 61 sameN o := by
 intro l
 induction l with
 | nil => intro i _ _ o ho; cases ho
 | cons x r ih =>
  intro i h hs o ho
  obtain ⟨t, ot, rfl, hot, ht, _, hr⟩ := imps_cons h
  rcases List.mem_cons.1 ho with rfl | ho
  ·have hst : signs t = true := ht.resolve_left (hs _ List.mem_cons_self)
   refine ⟨t, _, rfl, hst, ?_⟩
   by_cases e : ot = t
   ·subst e; exact .inl ⟨by simp [oneT, Tr.k, Tr.t, Tr.l], rfl⟩
   ·exact .inr ⟨ot, rfl, hot, by simp [oneT, Tr.k, Tr.t, Tr.l, e]⟩
  ·exact ih _ hr (fun y hy => hs y (List.mem_cons_of_mem _ hy)) o ho

/-- A star stands last, and alone but for a default. -/
theorem imps_star {f : Bs} : ∀ (l : List Tr) (i : Nat), f ≠ [100, 101, 102, 97, 117, 108, 116] → i ≠ 0 → impsOk f i l = true → ∀ x ∈ l, x.t ≠ star := by
 intro l
 induction l with
 | nil => intro i _ _ _ x hx; cases hx
 | cons y r ih =>
  intro i hf hi h x hx
  obtain ⟨t, ot, rfl, hot, ht, hs, hr⟩ := imps_cons h
  rcases List.mem_cons.1 hx with rfl | hx
  ·intro e
   rcases (hs e).2.1 with h | h
   ·exact hi h
   ·exact hf h
  ·exact ih _ hf (by omega) hr x hx

theorem imps_le2 {f : Bs} : ∀ (l : List Tr) (i : Nat), 2 ≤ i → impsOk f i l = true → ∀ x ∈ l, x.t ≠ star := by
 intro l
 induction l with
 | nil => intro i _ _ x hx; cases hx
 | cons y r ih =>
  intro i hi h x hx
  obtain ⟨t, ot, rfl, hot, ht, hs, hr⟩ := imps_cons h
  rcases List.mem_cons.1 hx with rfl | hx
  ·intro e; have := (hs e).1; omega
  ·exact ih _ (by omega) hr x hx

/-- What stands behind a default, or without one. -/
theorem pRest_read {f0 : Bs} {i : Nat} {y : Tr} {r : List Tr} (h : impsOk f0 i (y :: r) = true) (hst : y.t ≠ star → ∀ x ∈ y :: r, x.t ≠ star) (rest : Bs) (hn : nid rest = true) :
  Ev fun f => pRest f (restI (y :: r) ++ rest) = some (y :: r, rest) := by
 obtain ⟨t, ot, rfl, hot, ht, hs, hr⟩ := imps_cons h
 obtain ⟨hb, _⟩ := signs_idB hot
 by_cases e : t = star
 ·obtain ⟨_, _, rfl⟩ := hs e
  subst e
  refine Ev.of fun f => ?_
  have e' : restI [.mk 61 star 0 [.mk 6 ot 0 []]] ++ rest = 42 :: 32 :: 97 :: 115 :: 32 :: (ot ++ rest) := by simp [restI, Tr.t, Tr.l, kid0]
  rw [e']
  have g : strip [42, 32, 97, 115, 32] (42 :: 32 :: 97 :: 115 :: 32 :: (ot ++ rest)) = some (ot ++ rest) := rfl
  unfold pRest
  simp only [g, pName, span_id hb hn]
 ·refine (pNs_read 61 sameN _ (by simp) (imps_names _ i h (hst e)) rest).mono fun f e1 => ?_
  have e' : restI (.mk 61 t 0 [.mk 6 ot 0 []] :: r) ++ rest = 123 :: 32 :: (namesT true (.mk 61 t 0 [.mk 6 ot 0 []] :: r) ++ 32 :: 125 :: rest) := by simp [restI, Tr.t, e]
  rw [e']
  have g : strip [42, 32, 97, 115, 32] (123 :: 32 :: (namesT true (.mk 61 t 0 [.mk 6 ot 0 []] :: r) ++ 32 :: 125 :: rest)) = none := rfl
  have g2 : strip [123, 32] (123 :: 32 :: (namesT true (.mk 61 t 0 [.mk 6 ot 0 []] :: r) ++ 32 :: 125 :: rest)) = some (namesT true (.mk 61 t 0 [.mk 6 ot 0 []] :: r) ++ 32 :: 125 :: rest) := rfl
  unfold pRest
  simp [g, g2, e1]

theorem pReq_read (t rest : Bs) : Ev fun f => pReq f (quote t ++ 59 :: rest) = some (t, rest) := (ev_rdQ t (59 :: rest)).mono fun f e => by
 have e' : quote t ++ 59 :: rest = 34 :: (t.flatMap escB ++ 34 :: 59 :: rest) := by simp [quote]
 rw [e']
 unfold pReq
 simp [strip, e]

/-- The text of a clause. -/
def clauseT (y : Tr) (r : List Tr) : Bs := if y.t = [100, 101, 102, 97, 117, 108, 116] then (kid0 y).t ++ (if r.isEmpty then [] else [44, 32]) ++ restI r else restI (y :: r)

theorem pClause_read {y : Tr} {r : List Tr} (h : impsOk y.t 0 (y :: r) = true) (rest : Bs) (hn : nid rest = true) (hc : strip [44, 32] rest = none) :
  Ev fun f => pClause f (clauseT y r ++ rest) = some (y :: r, rest) := by
 obtain ⟨t, ot, rfl, hot, ht, hs, hr⟩ := imps_cons h
 obtain ⟨hb, c, q, hq, _⟩ := signs_idB hot
 unfold clauseT
 by_cases e : t = [100, 101, 102, 97, 117, 108, 116]
 ·subst e
  rw [if_pos (show (Tr.mk 61 [100, 101, 102, 97, 117, 108, 116] 0 [.mk 6 ot 0 []]).t = [100, 101, 102, 97, 117, 108, 116] from rfl), show (kid0 (Tr.mk 61 [100, 101, 102, 97, 117, 108, 116] 0 [.mk 6 ot 0 []])).t = ot from rfl]
  cases r with
  | nil =>
   refine Ev.of fun f => ?_
   have e' : (ot ++ (if ([] : List Tr).isEmpty then [] else [44, 32]) ++ restI []) ++ rest = ot ++ rest := by simp [restI]
   rw [e']
   have hsp := span_id hb hn
   unfold pClause
   rw [hsp.1, hsp.2, hq]
   simp [hc]
  | cons z r =>
   have e' : (ot ++ (if (z :: r).isEmpty then [] else [44, 32]) ++ restI (z :: r)) ++ rest = ot ++ 44 :: 32 :: (restI (z :: r) ++ rest) := by simp
   rw [e']
   have hst : z.t ≠ star → ∀ x ∈ z :: r, x.t ≠ star := by
    intro hz x hx
    rcases List.mem_cons.1 hx with rfl | hx2
    ·exact hz
    ·obtain ⟨tz, oz, rfl, _, _, _, hrz⟩ := imps_cons hr
     -- behind the second nothing is a star: it would stand at place 2 or later
     intro ex
     exact imps_le2 r 2 (by omega) hrz x hx2 ex
   refine (pRest_read hr hst rest hn).mono fun f e1 => ?_
   have hsp := span_id (rest := 44 :: 32 :: (restI (z :: r) ++ rest)) hb rfl
   have g : strip [44, 32] (44 :: 32 :: (restI (z :: r) ++ rest)) = some (restI (z :: r) ++ rest) := rfl
   unfold pClause
   rw [hsp.1, hsp.2, hq]
   simp [g, e1]
 ·rw [if_neg (show ¬ (Tr.mk 61 t 0 [.mk 6 ot 0 []]).t = [100, 101, 102, 97, 117, 108, 116] from e)]
  have hst : t ≠ star → ∀ x ∈ (Tr.mk 61 t 0 [.mk 6 ot 0 []]) :: r, x.t ≠ star := by
   intro hz x hx
   rcases List.mem_cons.1 hx with rfl | hx
   ·exact hz
   ·exact imps_star r 1 e (by decide) hr x hx
  refine (pRest_read h hst rest hn).mono fun f e1 => ?_
  have g : (restI (.mk 61 t 0 [.mk 6 ot 0 []] :: r) ++ rest).takeWhile idB = [] := by
   unfold restI
   by_cases e2 : (Tr.mk 61 t 0 [.mk 6 ot 0 []]).t = star
   ·simp only [e2, if_true]; rfl
   ·simp only [e2, if_false]; rfl
  unfold pClause
  rw [g]
  exact e1

theorem typeOnly_no {y : Tr} {r : List Tr} (h : impsOk y.t 0 (y :: r) = true) (t rest : Bs) : typeOnly (clauseT y r ++ ([32, 102, 114, 111, 109, 32] ++ (quote t ++ rest))) = false := by
 obtain ⟨yt, ot, rfl, hot, ht, hs, hr⟩ := imps_cons h
 obtain ⟨hb, c, q, hq, _⟩ := signs_idB hot
 unfold clauseT
 by_cases e : yt = [100, 101, 102, 97, 117, 108, 116]
 ·subst e
  rw [if_pos (show (Tr.mk 61 [100, 101, 102, 97, 117, 108, 116] 0 [.mk 6 ot 0 []]).t = [100, 101, 102, 97, 117, 108, 116] from rfl), show (kid0 (Tr.mk 61 [100, 101, 102, 97, 117, 108, 116] 0 [.mk 6 ot 0 []])).t = ot from rfl]
  cases r with
  | nil =>
   have e' : (ot ++ (if ([] : List Tr).isEmpty then [] else [44, 32]) ++ restI []) ++ ([32, 102, 114, 111, 109, 32] ++ (quote t ++ rest)) = ot ++ 32 :: ([102, 114, 111, 109] ++ (32 :: (quote t ++ rest))) := by simp [restI]
   rw [e']
   have hsp := span_id (rest := 32 :: ([102, 114, 111, 109] ++ (32 :: (quote t ++ rest)))) hb rfl
   have hsp2 := span_id (t := [102, 114, 111, 109]) (rest := 32 :: (quote t ++ rest)) (by decide) rfl
   have g : strip [32] (32 :: ([102, 114, 111, 109] ++ (32 :: (quote t ++ rest)))) = some ([102, 114, 111, 109] ++ (32 :: (quote t ++ rest))) := rfl
   unfold typeOnly
   rw [hsp.1, hsp.2, g]
   simp only [hsp2]
   have : startsB [32, 34] (32 :: (quote t ++ rest)) = true := rfl
   rw [this]
   simp
  | cons z r =>
   have e' : (ot ++ (if (z :: r).isEmpty then [] else [44, 32]) ++ restI (z :: r)) ++ ([32, 102, 114, 111, 109, 32] ++ (quote t ++ rest)) = ot ++ 44 :: 32 :: (restI (z :: r) ++ ([32, 102, 114, 111, 109, 32] ++ (quote t ++ rest))) := by simp
   rw [e']
   have hsp := span_id (rest := 44 :: 32 :: (restI (z :: r) ++ ([32, 102, 114, 111, 109, 32] ++ (quote t ++ rest)))) hb rfl
   unfold typeOnly
   rw [hsp.2]
   have g : strip [32] (44 :: 32 :: (restI (z :: r) ++ ([32, 102, 114, 111, 109, 32] ++ (quote t ++ rest)))) = none := rfl
   rw [g]
   simp
 ·rw [if_neg (show ¬ (Tr.mk 61 yt 0 [.mk 6 ot 0 []]).t = [100, 101, 102, 97, 117, 108, 116] from e)]
  have g : (restI (.mk 61 yt 0 [.mk 6 ot 0 []] :: r) ++ ([32, 102, 114, 111, 109, 32] ++ (quote t ++ rest))).takeWhile idB = [] := by
   unfold restI
   by_cases e2 : (Tr.mk 61 yt 0 [.mk 6 ot 0 []]).t = star
   ·simp only [e2, if_true]; rfl
   ·simp only [e2, if_false]; rfl
  unfold typeOnly
  rw [g]
  rfl

theorem typeOnly_yes {y : Tr} {r : List Tr} (h : impsOk y.t 0 (y :: r) = true) (hns : y.t ≠ star) (rest : Bs) : typeOnly ([116, 121, 112, 101, 32] ++ (clauseT y r ++ ([32, 102, 114, 111, 109, 32] ++ rest))) = true := by
 obtain ⟨yt, ot, rfl, hot, ht, hs, hr⟩ := imps_cons h
 obtain ⟨hb, c, q, hq, _⟩ := signs_idB hot
 have hsp0 := span_id (t := [116, 121, 112, 101]) (rest := 32 :: (clauseT (.mk 61 yt 0 [.mk 6 ot 0 []]) r ++ ([32, 102, 114, 111, 109, 32] ++ rest))) (by decide) rfl
 have e0 : [116, 121, 112, 101, 32] ++ (clauseT (.mk 61 yt 0 [.mk 6 ot 0 []]) r ++ ([32, 102, 114, 111, 109, 32] ++ rest)) = [116, 121, 112, 101] ++ 32 :: (clauseT (.mk 61 yt 0 [.mk 6 ot 0 []]) r ++ ([32, 102, 114, 111, 109, 32] ++ rest)) := rfl
 rw [e0]
 unfold typeOnly
 rw [hsp0.1, hsp0.2]
 have g : strip [32] (32 :: (clauseT (.mk 61 yt 0 [.mk 6 ot 0 []]) r ++ ([32, 102, 114, 111, 109, 32] ++ rest))) = some (clauseT (.mk 61 yt 0 [.mk 6 ot 0 []]) r ++ ([32, 102, 114, 111, 109, 32] ++ rest)) := rfl
 rw [g]
 unfold clauseT
 by_cases e : yt = [100, 101, 102, 97, 117, 108, 116]
 ·subst e
  rw [if_pos (show (Tr.mk 61 [100, 101, 102, 97, 117, 108, 116] 0 [.mk 6 ot 0 []]).t = [100, 101, 102, 97, 117, 108, 116] from rfl), show (kid0 (Tr.mk 61 [100, 101, 102, 97, 117, 108, 116] 0 [.mk 6 ot 0 []])).t = ot from rfl]
  cases r with
  | nil =>
   have e' : (ot ++ (if ([] : List Tr).isEmpty then [] else [44, 32]) ++ restI []) ++ ([32, 102, 114, 111, 109, 32] ++ rest) = ot ++ 32 :: ([102, 114, 111, 109, 32] ++ rest) := by simp [restI]
   rw [e']
   have hsp := span_id (rest := 32 :: ([102, 114, 111, 109, 32] ++ rest)) hb rfl
   simp only [hsp]
   have : startsB [32, 34] (32 :: ([102, 114, 111, 109, 32] ++ rest)) = false := rfl
   rw [this]
   simp
  | cons z r =>
   have e' : (ot ++ (if (z :: r).isEmpty then [] else [44, 32]) ++ restI (z :: r)) ++ ([32, 102, 114, 111, 109, 32] ++ rest) = ot ++ 44 :: 32 :: (restI (z :: r) ++ ([32, 102, 114, 111, 109, 32] ++ rest)) := by simp
   rw [e']
   have hsp := span_id (rest := 44 :: 32 :: (restI (z :: r) ++ ([32, 102, 114, 111, 109, 32] ++ rest))) hb rfl
   simp only [hsp]
   have : startsB [32, 34] (44 :: 32 :: (restI (z :: r) ++ ([32, 102, 114, 111, 109, 32] ++ rest))) = false := rfl
   rw [this]
   simp
 ·rw [if_neg (show ¬ (Tr.mk 61 yt 0 [.mk 6 ot 0 []]).t = [100, 101, 102, 97, 117, 108, 116] from e)]
  have g : (restI (.mk 61 yt 0 [.mk 6 ot 0 []] :: r) ++ ([32, 102, 114, 111, 109, 32] ++ rest)).takeWhile idB = [] := by
   unfold restI
   by_cases e2 : (Tr.mk 61 yt 0 [.mk 6 ot 0 []]).t = star
   ·simp only [e2, if_true]; rfl
   ·simp only [e2, if_false]; rfl
  simp only [g]
  rfl

theorem clause_head {y : Tr} {r : List Tr} (h : impsOk y.t 0 (y :: r) = true) (rest : Bs) : ∃ c s, clauseT y r ++ rest = c :: s ∧ c ≠ 34 := by
 obtain ⟨yt, ot, rfl, hot, ht, hs, hr⟩ := imps_cons h
 obtain ⟨hb, c, q, hq, _⟩ := signs_idB hot
 unfold clauseT
 by_cases e : yt = [100, 101, 102, 97, 117, 108, 116]
 ·subst e
  rw [if_pos (show (Tr.mk 61 [100, 101, 102, 97, 117, 108, 116] 0 [.mk 6 ot 0 []]).t = [100, 101, 102, 97, 117, 108, 116] from rfl), show (kid0 (Tr.mk 61 [100, 101, 102, 97, 117, 108, 116] 0 [.mk 6 ot 0 []])).t = ot from rfl, hq]
  exact ⟨c, _, rfl, (id_ne (hb c (by rw [hq]; exact List.mem_cons_self))).2.2.2.2.2.2.2.1⟩
 ·rw [if_neg (show ¬ (Tr.mk 61 yt 0 [.mk 6 ot 0 []]).t = [100, 101, 102, 97, 117, 108, 116] from e)]
  unfold restI
  by_cases e2 : (Tr.mk 61 yt 0 [.mk 6 ot 0 []]).t = star
  ·simp only [e2, if_true]; exact ⟨42, _, rfl, by decide⟩
  ·simp only [e2, if_false]; exact ⟨123, _, rfl, by decide⟩

/-- An import, behind its word. -/
theorem pImp_read {t : Bs} {n : Int} {l : List Tr} (h : isImport (.mk 60 t n l) = true) (rest : Bs) :
  ∃ s, importT (.mk 60 t n l) = [105, 109, 112, 111, 114, 116, 32] ++ s ∧ Ev fun f => pImp f (s ++ rest) = some (.mk 60 t n l, rest) := by
 simp only [isImport, Tr.t, Tr.n, Tr.l, Bool.and_eq_true, Bool.or_eq_true, beq_iff_eq] at h
 obtain ⟨⟨⟨_, hn⟩, hi⟩, hs⟩ := h
 cases l with
 | nil =>
  have hn0 : n = 0 := by
   rcases hs with h | h
   ·exact h
   ·simp at h
  subst hn0
  refine ⟨quote t ++ [59], by simp [importT, Tr.l, Tr.t], ?_⟩
  refine (pReq_read t rest).mono fun f e => ?_
  have e' : quote t ++ [59] ++ rest = quote t ++ 59 :: rest := by simp
  rw [e']
  have g : ∃ u, strip [34] (quote t ++ 59 :: rest) = some u := ⟨_, rfl⟩
  obtain ⟨u, g⟩ := g
  unfold pImp
  simp [g, e]
 | cons y r =>
  simp only at hi
  have hcl := pClause_read hi ([32, 102, 114, 111, 109, 32] ++ (quote t ++ 59 :: rest)) rfl rfl
  have hq := pReq_read t rest
  have hfr : strip [32, 102, 114, 111, 109, 32] ([32, 102, 114, 111, 109, 32] ++ (quote t ++ 59 :: rest)) = some (quote t ++ 59 :: rest) := strip_app _ _
  obtain ⟨c, q, hcq, hc⟩ := clause_head hi ([32, 102, 114, 111, 109, 32] ++ (quote t ++ 59 :: rest))
  rcases hn with rfl | rfl
  ·refine ⟨clauseT y r ++ [32, 102, 114, 111, 109, 32] ++ quote t ++ [59], by simp [importT, Tr.l, Tr.t, Tr.n, clauseT], ?_⟩
   have e' : clauseT y r ++ [32, 102, 114, 111, 109, 32] ++ quote t ++ [59] ++ rest = clauseT y r ++ ([32, 102, 114, 111, 109, 32] ++ (quote t ++ 59 :: rest)) := by simp
   rw [e']
   refine (hcl.and hq).mono fun f ⟨e1, e2⟩ => ?_
   have hty := typeOnly_no hi t (59 :: rest)
   have g : strip [34] (clauseT y r ++ ([32, 102, 114, 111, 109, 32] ++ (quote t ++ 59 :: rest))) = none := by rw [hcq]; exact strip_ne (fun e => hc e.symm) _ _
   unfold pImp
   rw [g]
   simp only [hty, Bool.false_eq_true, if_false, e1]
   simp only [Option.bind_eq_bind, Option.bind_some, hfr, e2]
  ·have hns : y.t ≠ star := by
    rcases hs with h | h
    ·cases h
    ·simp [hasStar] at h; exact h.1
   refine ⟨[116, 121, 112, 101, 32] ++ (clauseT y r ++ [32, 102, 114, 111, 109, 32] ++ quote t ++ [59]), by simp [importT, Tr.l, Tr.t, Tr.n, clauseT], ?_⟩
   have e' : [116, 121, 112, 101, 32] ++ (clauseT y r ++ [32, 102, 114, 111, 109, 32] ++ quote t ++ [59]) ++ rest = [116, 121, 112, 101, 32] ++ (clauseT y r ++ ([32, 102, 114, 111, 109, 32] ++ (quote t ++ 59 :: rest))) := by simp
   rw [e']
   refine (hcl.and hq).mono fun f ⟨e1, e2⟩ => ?_
   have hty := typeOnly_yes hi hns (quote t ++ 59 :: rest)
   have g : strip [34] ([116, 121, 112, 101, 32] ++ (clauseT y r ++ ([32, 102, 114, 111, 109, 32] ++ (quote t ++ 59 :: rest)))) = none := rfl
   have hd : ([116, 121, 112, 101, 32] ++ (clauseT y r ++ ([32, 102, 114, 111, 109, 32] ++ (quote t ++ 59 :: rest)))).drop 5 = clauseT y r ++ ([32, 102, 114, 111, 109, 32] ++ (quote t ++ 59 :: rest)) := rfl
   unfold pImp
   rw [g]
   simp only [hty, if_true, hd, e1]
   simp only [Option.bind_eq_bind, Option.bind_some, hfr, e2]

end Go.Proofs.YtpmlmpibpmoclaaGreatDoor
