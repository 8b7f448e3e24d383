/-
  The reader undoes the printing: exports, items, modules; so one text has one tree.
-/
import Derived.Test.YtpmlmpibpmoclaaGreatDoorRd7
namespace Go.Proofs.YtpmlmpibpmoclaaGreatDoor
set_option linter.all false
/-! ### exports of names -/

theorem pEnd_read (t rest : Bs) : Ev fun f => pEnd f ((if t = [] then [] else [32, 102, 114, 111, 109, 32] ++ quote t) ++ 59 :: rest) = some (t, rest) := by
 by_cases e : t = []
 ·subst e
  exact Ev.of fun f => by simp [pEnd, strip]
 ·refine (pReq_read t rest).mono fun f e1 => ?_
  rw [if_neg e]
  have e' : [32, 102, 114, 111, 109, 32] ++ quote t ++ 59 :: rest = [32, 102, 114, 111, 109, 32] ++ (quote t ++ 59 :: rest) := by simp
  have g : strip [32, 102, 114, 111, 109, 32] ([32, 102, 114, 111, 109, 32] ++ (quote t ++ 59 :: rest)) = some (quote t ++ 59 :: rest) := strip_app _ _
  rw [e']
  unfold pEnd
  rw [g]
  exact e1

theorem end_nid (t rest : Bs) : nid ((if t = [] then [] else [32, 102, 114, 111, 109, 32] ++ quote t) ++ 59 :: rest) = true ∧ strip [32, 97, 115, 32] ((if t = [] then [] else [32, 102, 114, 111, 109, 32] ++ quote t) ++ 59 :: rest) = none := by
 split <;> exact ⟨rfl, rfl⟩

theorem one_inv {req : Bs} {num : Int} {many : Bool} {o : Tr} (h : oneOk req num many o = true) :
  ∃ t y, o = .mk 65 t 0 [y] ∧ (y = .mk 14 [] 0 [] ∨ ∃ ot, y = .mk 6 ot 0 [] ∧ signs ot = true) ∧ ((t = star ∧ many = false ∧ num = 0) ∨ (t ≠ star ∧ signs t = true)) := by
 obtain ⟨k, t, n, l⟩ := o
 simp only [oneOk, Tr.k, Tr.t, Tr.n, Tr.l, Bool.and_eq_true, beq_iff_eq] at h
 obtain ⟨⟨⟨rfl, rfl⟩, hl⟩, ht⟩ := h
 match l, hl with
 | [y], hl =>
  refine ⟨t, y, rfl, ?_, ?_⟩
  ·simp only [Bool.or_eq_true, Bool.and_eq_true] at hl
   rcases hl with h | h
   ·exact .inl (none_eq h)
   ·obtain ⟨ot, rfl, hot⟩ := name_inv h.1
    exact .inr ⟨ot, rfl, hot⟩
  ·have ht2 : (if t = star then !many && req != [] && num == 0 else signs t && (req != [] || isId t)) = true := ht
   by_cases e : t = star
   ·rw [if_pos e] at ht2
    simp at ht2
    exact .inl ⟨e, ht2.1.1, ht2.2⟩
   ·rw [if_neg e] at ht2
    simp at ht2
    exact .inr ⟨e, ht2.1⟩
 | [], hl => simp at hl
 | _ :: _ :: _, hl => simp at hl

theorem nameOk65 {t : Bs} {y : Tr} (hy : y = .mk 14 [] 0 [] ∨ ∃ ot, y = .mk 6 ot 0 [] ∧ signs ot = true) (ht : signs t = true) : NameOk 65 noN (.mk 65 t 0 [y]) := by
 refine ⟨t, y, rfl, ht, ?_⟩
 rcases hy with rfl | ⟨ot, rfl, hot⟩
 ·exact .inl ⟨by simp [oneT, Tr.k, Tr.t, Tr.l], rfl⟩
 ·exact .inr ⟨ot, rfl, hot, by simp [oneT, Tr.k, Tr.t, Tr.l]⟩

theorem export_span {s : Bs} : ([101, 120, 112, 111, 114, 116] ++ 32 :: s).takeWhile idB = [101, 120, 112, 111, 114, 116] ∧ ([101, 120, 112, 111, 114, 116] ++ 32 :: s).dropWhile idB = 32 :: s := span_id (by decide) rfl

theorem pFrom_read {t : Bs} {n : Int} {l : List Tr} (h : isFrom (.mk 64 t n l) = true) (rest : Bs) : Ev fun f => pI f 0 (exportT (.mk 64 t n l) ++ rest) = some (.mk 64 t n l, rest) := by
 simp only [isFrom, Tr.t, Tr.n, Tr.l, Bool.and_eq_true, Bool.or_eq_true, beq_iff_eq] at h
 obtain ⟨⟨⟨_, hn⟩, hne⟩, hall⟩ := h
 rw [List.all_eq_true] at hall
 have hend := pEnd_read t rest
 obtain ⟨hend1, hend2⟩ := end_nid t rest
 cases l with
 | nil => simp at hne
 | cons y r =>
  obtain ⟨yt, yo, rfl, hyo, hyt⟩ := one_inv (hall y List.mem_cons_self)
  generalize hE : (if t = [] then [] else [32, 102, 114, 111, 109, 32] ++ quote t) ++ 59 :: rest = E at *
  rcases hyt with ⟨rfl, hm, rfl⟩ | ⟨hns, hys⟩
  ·-- a star
   have hr : r = [] := by
    cases r with
    | nil => rfl
    | cons z r => simp at hm
   subst hr
   rcases hyo with rfl | ⟨ot, rfl, hot⟩
   ·refine hend.mono fun f e1 => ?_
    have e' : exportT (.mk 64 t 0 [.mk 65 star 0 [.mk 14 [] 0 []]]) ++ rest = [101, 120, 112, 111, 114, 116] ++ 32 :: 42 :: E := by
     simp only [exportT, Tr.n, Tr.l, Tr.t, kid0, Tr.k, ← hE]; simp; rfl
    rw [e']
    unfold pI
    rw [export_span.1, export_span.2]
    have g0 : strip [32] (32 :: 42 :: E) = some (42 :: E) := rfl
    have g1 : strip [100, 101, 102, 97, 117, 108, 116, 32] (42 :: E) = none := rfl
    have g2 : strip [116, 121, 112, 101, 32, 123, 32] (42 :: E) = none := rfl
    have g3 : strip [123, 32] (42 :: E) = none := rfl
    have g4 : strip [42] (42 :: E) = some E := rfl
    simp [g0, g1, g2, g3, g4, hend2, e1]
   ·obtain ⟨hb, _⟩ := signs_idB hot
    refine hend.mono fun f e1 => ?_
    have e' : exportT (.mk 64 t 0 [.mk 65 star 0 [.mk 6 ot 0 []]]) ++ rest = [101, 120, 112, 111, 114, 116] ++ 32 :: 42 :: 32 :: 97 :: 115 :: 32 :: (ot ++ E) := by
     simp only [exportT, Tr.n, Tr.l, Tr.t, kid0, Tr.k, ← hE]; simp; rfl
    rw [e']
    unfold pI
    rw [export_span.1, export_span.2]
    have g0 : strip [32] (32 :: 42 :: 32 :: 97 :: 115 :: 32 :: (ot ++ E)) = some (42 :: 32 :: 97 :: 115 :: 32 :: (ot ++ E)) := rfl
    have g1 : strip [100, 101, 102, 97, 117, 108, 116, 32] (42 :: 32 :: 97 :: 115 :: 32 :: (ot ++ E)) = none := rfl
    have g2 : strip [116, 121, 112, 101, 32, 123, 32] (42 :: 32 :: 97 :: 115 :: 32 :: (ot ++ E)) = none := rfl
    have g3 : strip [123, 32] (42 :: 32 :: 97 :: 115 :: 32 :: (ot ++ E)) = none := rfl
    have g4 : strip [42] (42 :: 32 :: 97 :: 115 :: 32 :: (ot ++ E)) = some (32 :: 97 :: 115 :: 32 :: (ot ++ E)) := rfl
    have g5 : strip [32, 97, 115, 32] (32 :: 97 :: 115 :: 32 :: (ot ++ E)) = some (ot ++ E) := rfl
    have hsp := span_id hb hend1
    simp [g0, g1, g2, g3, g4, g5, pName, hsp, e1]
  ·-- names
   have hnames : ∀ o ∈ (Tr.mk 65 yt 0 [yo]) :: r, NameOk 65 noN o := fun o ho => by
    obtain ⟨t', y', rfl, hy', ht'⟩ := one_inv (hall o ho)
    rcases ht' with ⟨rfl, hm, _⟩ | ⟨_, ht'⟩
    ·-- a star among several
     exfalso
     rcases List.mem_cons.1 ho with e | ho
     ·simp at e; exact hns e.1.symm
     ·cases r with
      | nil => cases ho
      | cons z r => simp at hm
    ·exact nameOk65 hy' ht'
   have hN := pNs_read 65 noN _ (by simp) hnames E
   generalize hNt : namesT true (Tr.mk 65 yt 0 [yo] :: r) = N at *
   rcases hn with rfl | rfl
   ·refine (hN.and hend).mono fun f ⟨e1, e2⟩ => ?_
    have e' : exportT (.mk 64 t 0 (.mk 65 yt 0 [yo] :: r)) ++ rest = [101, 120, 112, 111, 114, 116] ++ 32 :: 123 :: 32 :: (N ++ 32 :: 125 :: E) := by
     have : (Tr.mk 65 yt 0 [yo]).t ≠ star := hns
     simp only [exportT, Tr.n, Tr.l, if_neg this, hNt, ← hE]; simp [Tr.t]; rfl
    rw [e']
    unfold pI
    rw [export_span.1, export_span.2]
    have g0 : strip [32] (32 :: 123 :: 32 :: (N ++ 32 :: 125 :: E)) = some (123 :: 32 :: (N ++ 32 :: 125 :: E)) := rfl
    have g1 : strip [100, 101, 102, 97, 117, 108, 116, 32] (123 :: 32 :: (N ++ 32 :: 125 :: E)) = none := rfl
    have g2 : strip [116, 121, 112, 101, 32, 123, 32] (123 :: 32 :: (N ++ 32 :: 125 :: E)) = none := rfl
    have g3 : strip [123, 32] (123 :: 32 :: (N ++ 32 :: 125 :: E)) = some (N ++ 32 :: 125 :: E) := rfl
    simp [g0, g1, g2, g3, e1, e2]
   ·refine (hN.and hend).mono fun f ⟨e1, e2⟩ => ?_
    have e' : exportT (.mk 64 t 1 (.mk 65 yt 0 [yo] :: r)) ++ rest = [101, 120, 112, 111, 114, 116] ++ 32 :: ([116, 121, 112, 101, 32, 123, 32] ++ (N ++ 32 :: 125 :: E)) := by
     have : (Tr.mk 65 yt 0 [yo]).t ≠ star := hns
     simp only [exportT, Tr.n, Tr.l, if_neg this, hNt, ← hE]; simp [Tr.t]; rfl
    rw [e']
    unfold pI
    rw [export_span.1, export_span.2]
    have g0 : strip [32] (32 :: ([116, 121, 112, 101, 32, 123, 32] ++ (N ++ 32 :: 125 :: E))) = some ([116, 121, 112, 101, 32, 123, 32] ++ (N ++ 32 :: 125 :: E)) := rfl
    have g1 : strip [100, 101, 102, 97, 117, 108, 116, 32] ([116, 121, 112, 101, 32, 123, 32] ++ (N ++ 32 :: 125 :: E)) = none := rfl
    have g2 : strip [116, 121, 112, 101, 32, 123, 32] ([116, 121, 112, 101, 32, 123, 32] ++ (N ++ 32 :: 125 :: E)) = some (N ++ 32 :: 125 :: E) := rfl
    rw [if_pos rfl]
    simp only [g0, Option.bind_eq_bind, Option.bind_some, g1, g2, e1, e2]

/-! ### items -/

/-- How a statement begins, for the reader of items. -/
theorem stmt_lead {x : Tr} (h : isS x = true) (d : Nat) (rest : Bs) :
  let w := (outS d x ++ rest).takeWhile idB
  w ≠ [99, 108, 97, 115, 115] ∧ w ≠ [105, 109, 112, 111, 114, 116] ∧ w ≠ [101, 120, 112, 111, 114, 116] ∧ (wordNext ((outS d x ++ rest).dropWhile idB) = false ∨ (w ≠ [116, 121, 112, 101] ∧ w ≠ [110, 97, 109, 101, 115, 112, 97, 99, 101])) := by
 have key : ∀ {w s0 : Bs}, (∀ c ∈ w, idB c = true) → nid s0 = true → (w ≠ [99, 108, 97, 115, 115] ∧ w ≠ [105, 109, 112, 111, 114, 116] ∧ w ≠ [101, 120, 112, 111, 114, 116] ∧ w ≠ [116, 121, 112, 101] ∧ w ≠ [110, 97, 109, 101, 115, 112, 97, 99, 101]) → outS d x ++ rest = w ++ s0 →
   (outS d x ++ rest).takeWhile idB ≠ [99, 108, 97, 115, 115] ∧ (outS d x ++ rest).takeWhile idB ≠ [105, 109, 112, 111, 114, 116] ∧ (outS d x ++ rest).takeWhile idB ≠ [101, 120, 112, 111, 114, 116] ∧
   (wordNext ((outS d x ++ rest).dropWhile idB) = false ∨ ((outS d x ++ rest).takeWhile idB ≠ [116, 121, 112, 101] ∧ (outS d x ++ rest).takeWhile idB ≠ [110, 97, 109, 101, 115, 112, 97, 99, 101])) := fun h1 h0 h2 e => by
  rw [e, (span_id h1 h0).1]
  exact ⟨h2.1, h2.2.1, h2.2.2.1, .inr h2.2.2.2⟩
 cases isS_inv h with
 | lets t m ty y h1 h2 h3 h4 =>
  rcases h2 with rfl | rfl
  ·exact key (w := [108, 101, 116]) (s0 := 32 :: (t ++ tyOr ty ++ [32, 61, 32] ++ outE d 1 y ++ [59] ++ rest)) (by decide) rfl (by decide) (by rw [s40]; simp)
  ·exact key (w := [99, 111, 110, 115, 116]) (s0 := 32 :: (t ++ tyOr ty ++ [32, 61, 32] ++ outE d 1 y ++ [59] ++ rest)) (by decide) rfl (by decide) (by rw [s40]; simp)
 | func t p ty bl h0 h1 h2 h3 => exact key (w := [102, 117, 110, 99, 116, 105, 111, 110]) (s0 := 32 :: (t ++ (pmsT p ++ tyOr ty ++ [32] ++ blk d bl) ++ rest)) (by decide) rfl (by decide) (by rw [s41]; simp)
 | expr y hy =>
  obtain ⟨_, c, s, hc, h123, hw⟩ := alone_read (both_read (sz y + 1)).1 (by omega) hy d rest
  rw [s47, hc]
  have hk : ∀ k : Bs, k ∈ [[99, 108, 97, 115, 115], [105, 109, 112, 111, 114, 116], [101, 120, 112, 111, 114, 116]] → (c :: s).takeWhile idB ≠ k := by
   intro k hk e
   rw [e] at hw
   simp at hk
   rcases hk with rfl | rfl | rfl <;> revert hw <;> simp [kw]
  refine ⟨hk _ (by decide), hk _ (by decide), hk _ (by decide), ?_⟩
  rcases hw with e | e | e | ⟨_, e⟩
  ·rw [e]; exact .inr ⟨by decide, by decide⟩
  ·rw [e]; exact .inr ⟨by decide, by decide⟩
  ·rw [e]; exact .inr ⟨by decide, by decide⟩
  ·refine .inl ?_
   unfold wordNext
   split
   ·rename_i a b q hq
    by_cases ha : a = 32
    ·subst ha; rw [e b q hq]; rfl
    ·simp [ha]
   ·rfl
 | throws y hy => exact key (w := [116, 104, 114, 111, 119]) (s0 := 32 :: (outE d 1 y ++ [59] ++ rest)) (by decide) rfl (by decide) (by rw [s51]; simp)
 | ifs y bl h1 h2 => exact key (w := [105, 102]) (s0 := 32 :: 40 :: (outE d 1 y ++ [41, 32] ++ blk d bl ++ rest)) (by decide) rfl (by decide) (by rw [s48]; simp)
 | ifElse y bl cl h1 h2 h3 => exact key (w := [105, 102]) (s0 := 32 :: 40 :: (outE d 1 y ++ [41, 32] ++ blk d bl ++ ([32, 101, 108, 115, 101, 32] ++ blk d cl) ++ rest)) (by decide) rfl (by decide) (by rw [s48e]; simp)
 | whiles y bl h1 h2 => exact key (w := [119, 104, 105, 108, 101]) (s0 := 32 :: 40 :: (outE d 1 y ++ [41, 32] ++ blk d bl ++ rest)) (by decide) rfl (by decide) (by rw [s49]; simp)
 | ret => exact key (w := [114, 101, 116, 117, 114, 110]) (s0 := 59 :: rest) (by decide) rfl (by decide) (by rw [s50]; simp)
 | retE y hy => exact key (w := [114, 101, 116, 117, 114, 110]) (s0 := 32 :: (outE d 1 y ++ [59] ++ rest)) (by decide) rfl (by decide) (by rw [s50e d y (isE_not14 hy)]; simp)
 | block l hl =>
  obtain ⟨s, hs⟩ := blk_head d l rest
  exact key (w := []) (s0 := 123 :: s) (by simp) rfl (by decide) (by rw [s52, hs]; rfl)

theorem pIt_stmt {x : Tr} (h : isS x = true) {rest : Bs} (hel : strip [32, 101, 108, 115, 101, 32] rest = none) : Ev fun f => pIt f 0 (outS 0 x ++ rest) = some (x, rest) := by
 refine (stmt_read h 0 hel).mono fun f e => ?_
 obtain ⟨h1, h2, _, h3⟩ := stmt_lead h 0 rest
 unfold pIt
 simp only
 rw [if_neg h1, if_neg (fun hh => by rcases h3 with h3 | h3; rw [hh.2] at h3; cases h3; exact h3.1 hh.1), if_neg h2, if_neg (fun hh => by rcases h3 with h3 | h3; rw [hh.2] at h3; cases h3; exact h3.2 hh.1)]
 exact e

theorem wordNext_sp {t s : Bs} (h : ∃ c r, t = c :: r ∧ idB c = true) : wordNext (32 :: (t ++ s)) = true := by
 obtain ⟨c, r, rfl, hc⟩ := h
 simp [wordNext, hc]

theorem id_first {t : Bs} (h : isId t = true) : (∀ c ∈ t, idB c = true) ∧ ∃ c r, t = c :: r ∧ idB c = true := by
 obtain ⟨h1, c, r, rfl, _⟩ := signs_idB (isId_signs h).1
 exact ⟨h1, c, r, rfl, h1 c List.mem_cons_self⟩

theorem pIt_class {x : Tr} (h : isClass x = true) (rest : Bs) : Ev fun f => pIt f 0 (outIt 0 x ++ rest) = some (x, rest) := by
 obtain ⟨k, t, n, l⟩ := x
 simp only [isClass, Tr.k, Tr.t, Tr.n, Tr.l, Bool.and_eq_true, beq_iff_eq] at h
 obtain ⟨⟨⟨rfl, ht⟩, rfl⟩, hm⟩ := h
 obtain ⟨ha, _⟩ := id_first ht
 have hI := pIn_class (x := .mk 42 t 0 l) hm 0 rest
 simp only [Tr.l] at hI
 generalize hB : [123] ++ linesM 1 l ++ closeL 0 l ++ rest = B at *
 refine hI.mono fun f e1 => ?_
 have e' : outIt 0 (.mk 42 t 0 l) ++ rest = [99, 108, 97, 115, 115] ++ 32 :: (t ++ 32 :: B) := by simp [outIt, Tr.k, Tr.t, Tr.l, ← hB]
 have hsp := span_id (t := [99, 108, 97, 115, 115]) (rest := 32 :: (t ++ 32 :: B)) (by decide) rfl
 have hsp2 := span_id (rest := 32 :: B) ha rfl
 rw [e']
 unfold pIt
 rw [hsp.1, hsp.2]
 simp only [if_true]
 have g : strip [32] (32 :: (t ++ 32 :: B)) = some (t ++ 32 :: B) := rfl
 have g2 : strip [32] (32 :: B) = some B := rfl
 simp [g, hsp2, g2, e1]

theorem pN_read {o : Tr} (h : (o.k == 67 && o.n == 0 && signs o.t && (match o.l with | [y] => isName false y | _ => false)) = true) (rest : Bs) : Ev fun f => pN f (o.t ++ [32, 61, 32] ++ (kid0 o).t ++ [59] ++ rest) = some (o, rest) := by
 obtain ⟨k, t, n, l⟩ := o
 simp only [Tr.k, Tr.t, Tr.n, Tr.l, Bool.and_eq_true, beq_iff_eq] at h
 obtain ⟨⟨⟨rfl, rfl⟩, ht⟩, hl⟩ := h
 match l, hl with
 | [y], hl =>
  obtain ⟨ot, rfl, hot⟩ := name_inv hl
  obtain ⟨ha, _⟩ := signs_idB ht
  obtain ⟨hb, _⟩ := signs_idB hot
  refine Ev.of fun f => ?_
  have e' : (Tr.mk 67 t 0 [.mk 6 ot 0 []]).t ++ [32, 61, 32] ++ (kid0 (.mk 67 t 0 [.mk 6 ot 0 []])).t ++ [59] ++ rest = t ++ 32 :: 61 :: 32 :: (ot ++ 59 :: rest) := by simp [Tr.t, kid0, Tr.l]
  rw [e']
  have hsp := span_id (rest := 32 :: 61 :: 32 :: (ot ++ 59 :: rest)) ha rfl
  have hsp2 := span_id (rest := 59 :: rest) hb rfl
  have g : strip [32, 61, 32] (32 :: 61 :: 32 :: (ot ++ 59 :: rest)) = some (ot ++ 59 :: rest) := rfl
  unfold pN
  simp [hsp, g, hsp2, strip]
 | [], hl => simp at hl
 | _ :: _ :: _, hl => simp at hl

theorem pIt_space {x : Tr} (h : isSpace x = true) (rest : Bs) : Ev fun f => pIt f 0 (outIt 0 x ++ rest) = some (x, rest) := by
 obtain ⟨k, t, n, l⟩ := x
 unfold isSpace at h
 rw [Bool.and_eq_true, Bool.and_eq_true, Bool.and_eq_true, List.all_eq_true] at h
 obtain ⟨⟨⟨hk0, ht0⟩, hn0⟩, hm⟩ := h
 have hk : k = 66 := eq_of_beq hk0
 have hn : n = 0 := eq_of_beq hn0
 have ht : isId t = true := ht0
 clear hk0 hn0 ht0
 subst hk hn
 obtain ⟨ha, hf⟩ := id_first ht
 have hI := pIn_read (one := pN) (out := fun x => x.t ++ [32, 61, 32] ++ (kid0 x).t ++ [59]) (lines := linesN 1) 0 rfl (fun _ _ => rfl) l (fun y hy tl => pN_read (hm y hy) (10 :: tl)) rest
 generalize hB : [123] ++ linesN 1 l ++ closeL 0 l ++ rest = B at *
 refine hI.mono fun f e1 => ?_
 have e' : outIt 0 (.mk 66 t 0 l) ++ rest = [110, 97, 109, 101, 115, 112, 97, 99, 101] ++ 32 :: (t ++ 32 :: B) := by simp [outIt, Tr.k, Tr.t, Tr.l, ← hB]
 have hsp := span_id (t := [110, 97, 109, 101, 115, 112, 97, 99, 101]) (rest := 32 :: (t ++ 32 :: B)) (by decide) rfl
 have hsp2 := span_id (rest := 32 :: B) ha rfl
 rw [e']
 unfold pIt
 rw [hsp.1, hsp.2]
 rw [if_neg (by decide), if_neg (fun h => by revert h; simp), if_neg (by decide), if_pos ⟨rfl, wordNext_sp hf⟩]
 have g : strip [32] (32 :: (t ++ 32 :: B)) = some (t ++ 32 :: B) := rfl
 have g2 : strip [32] (32 :: B) = some B := rfl
 simp [g, hsp2, g2, e1]

/-- An item that is not an Export, a Default or an ExportFrom. -/
theorem pIt_read {x : Tr} (h : isIt x = true) (h64 : x.k ≠ 64) {rest : Bs} (hel : strip [32, 101, 108, 115, 101, 32] rest = none) : Ev fun f => pIt f 0 (outIt 0 x ++ rest) = some (x, rest) := by
 unfold isIt at h
 by_cases h1 : x.k = 42
 ·rw [if_pos h1] at h; exact pIt_class h rest
 rw [if_neg h1] at h
 by_cases h2 : x.k = 46
 ·rw [if_pos h2] at h
  obtain ⟨k, t, n, l⟩ := x
  simp only [Tr.k, Tr.t, Tr.n, Tr.l, Bool.and_eq_true, beq_iff_eq] at h h2
  subst h2
  obtain ⟨⟨ht, rfl⟩, hl⟩ := h
  match l, hl with
  | [y], hl =>
   obtain ⟨ha, hf⟩ := id_first ht
   refine (type_read hl (tstop_semi rest)).mono fun f e1 => ?_
   have e' : outIt 0 (.mk 46 t 0 [y]) ++ rest = [116, 121, 112, 101] ++ 32 :: (t ++ 32 :: 61 :: 32 :: (outT y ++ 59 :: rest)) := by simp [outIt, Tr.k, Tr.t, Tr.l]
   have hsp := span_id (t := [116, 121, 112, 101]) (rest := 32 :: (t ++ 32 :: 61 :: 32 :: (outT y ++ 59 :: rest))) (by decide) rfl
   have hsp2 := span_id (rest := 32 :: 61 :: 32 :: (outT y ++ 59 :: rest)) ha rfl
   rw [e']
   unfold pIt
   rw [hsp.1, hsp.2]
   rw [if_neg (by decide), if_pos ⟨rfl, wordNext_sp hf⟩]
   have g : strip [32] (32 :: (t ++ 32 :: 61 :: 32 :: (outT y ++ 59 :: rest))) = some (t ++ 32 :: 61 :: 32 :: (outT y ++ 59 :: rest)) := rfl
   have g2 : strip [32, 61, 32] (32 :: 61 :: 32 :: (outT y ++ 59 :: rest)) = some (outT y ++ 59 :: rest) := rfl
   simp only [g, Option.bind_eq_bind, Option.bind_some, hsp2, g2, e1]
   simp [strip]
  | [], hl => simp at hl
  | _ :: _ :: _, hl => simp at hl
 rw [if_neg h2] at h
 by_cases h3 : x.k = 60
 ·rw [if_pos h3] at h
  obtain ⟨k, t, n, l⟩ := x
  simp only [Tr.k] at h3
  subst h3
  obtain ⟨s, hs, hr⟩ := pImp_read h rest
  refine hr.mono fun f e1 => ?_
  have e' : outIt 0 (.mk 60 t n l) ++ rest = [105, 109, 112, 111, 114, 116] ++ 32 :: (s ++ rest) := by
   have : outIt 0 (.mk 60 t n l) = importT (.mk 60 t n l) := by simp [outIt, Tr.k]
   rw [this, hs]; simp
  have hsp := span_id (t := [105, 109, 112, 111, 114, 116]) (rest := 32 :: (s ++ rest)) (by decide) rfl
  rw [e']
  unfold pIt
  rw [hsp.1, hsp.2]
  rw [if_neg (by decide), if_neg (fun h => by revert h; simp), if_pos rfl]
  have g : strip [32] (32 :: (s ++ rest)) = some (s ++ rest) := rfl
  simp only [g, Option.bind_eq_bind, Option.bind_some, e1]
 rw [if_neg h3, if_neg h64] at h
 have h66 : x.k ≠ 66 := by
  intro e
  cases isS_inv h <;> simp [Tr.k] at e
 have e : outIt 0 x = outS 0 x := by simp [outIt, h1, h2, h3, h64, h66]
 rw [e]
 exact pIt_stmt h hel

/-- How such an item begins, for the reader of all items. -/
theorem it_lead {x : Tr} (h : isIt x = true ∨ isSpace x = true) (h64 : x.k ≠ 64) (rest : Bs) : (outIt 0 x ++ rest).takeWhile idB ≠ [101, 120, 112, 111, 114, 116] := by
 have key : ∀ {w s0 : Bs}, (∀ c ∈ w, idB c = true) → nid s0 = true → w ≠ [101, 120, 112, 111, 114, 116] → outIt 0 x ++ rest = w ++ s0 → (outIt 0 x ++ rest).takeWhile idB ≠ [101, 120, 112, 111, 114, 116] := fun h1 h0 h2 e => by
  rw [e, (span_id h1 h0).1]; exact h2
 by_cases h1 : x.k = 42
 ·exact key (w := [99, 108, 97, 115, 115]) (s0 := 32 :: (x.t ++ [32] ++ [123] ++ linesM 1 x.l ++ closeL 0 x.l ++ rest)) (by decide) rfl (by decide) (by simp [outIt, h1])
 by_cases h66 : x.k = 66
 ·exact key (w := [110, 97, 109, 101, 115, 112, 97, 99, 101]) (s0 := 32 :: (x.t ++ [32] ++ [123] ++ linesN 1 x.l ++ closeL 0 x.l ++ rest)) (by decide) rfl (by decide) (by simp [outIt, h66])
 rcases h with h | h
 ·unfold isIt at h
  rw [if_neg h1] at h
  by_cases h2 : x.k = 46
  ·rw [if_pos h2] at h
   obtain ⟨k, t, n, l⟩ := x
   simp only [Tr.k, Tr.t, Tr.n, Tr.l, Bool.and_eq_true, beq_iff_eq] at h h2
   subst h2
   match l, h.2 with
   | [y], _ => exact key (w := [116, 121, 112, 101]) (s0 := 32 :: (t ++ [32, 61, 32] ++ outT y ++ [59] ++ rest)) (by decide) rfl (by decide) (by simp [outIt, Tr.k, Tr.t, Tr.l])
   | [], h => simp at h
   | _ :: _ :: _, h => simp at h
  rw [if_neg h2] at h
  by_cases h3 : x.k = 60
  ·rw [if_pos h3] at h
   obtain ⟨k, t, n, l⟩ := x
   simp only [Tr.k] at h3
   subst h3
   obtain ⟨s, hs, _⟩ := pImp_read h rest
   exact key (w := [105, 109, 112, 111, 114, 116]) (s0 := 32 :: (s ++ rest)) (by decide) rfl (by decide) (by
    have : outIt 0 (.mk 60 t n l) = importT (.mk 60 t n l) := by simp [outIt, Tr.k]
    rw [this, hs]; simp)
  rw [if_neg h3, if_neg h64] at h
  have e : outIt 0 x = outS 0 x := by simp [outIt, h1, h2, h3, h64, h66]
  rw [e]
  exact (stmt_lead h 0 rest).2.2.1
 ·simp only [isSpace, Bool.and_eq_true, beq_iff_eq] at h
  exact absurd h.1.1.1 h66

/-- An item, or a namespace. -/
theorem pI_read {x : Tr} (h : isItem x = true ∨ isSpace x = true) {rest : Bs} (hel : strip [32, 101, 108, 115, 101, 32] rest = none) : Ev fun f => pI f 0 (outI 0 x ++ rest) = some (x, rest) := by
 have plain : (isIt x = true ∨ isSpace x = true) → x.k ≠ 62 → x.k ≠ 63 → x.k ≠ 64 → Ev fun f => pI f 0 (outI 0 x ++ rest) = some (x, rest) := fun h h62 h63 h64 => by
  have e : outI 0 x = outIt 0 x := by simp [outI, h62, h63]
  have hr : Ev fun f => pIt f 0 (outIt 0 x ++ rest) = some (x, rest) := h.elim (fun h => pIt_read h h64 hel) (fun h => pIt_space h rest)
  have hl := it_lead h h64 rest
  refine hr.mono fun f e1 => ?_
  rw [e]
  unfold pI
  rw [if_neg hl]
  exact e1
 rcases h with h | h
 ·unfold isItem at h
  by_cases h62 : x.k = 62
  ·rw [if_pos h62] at h
   obtain ⟨k, t, n, l⟩ := x
   have h62 : k = 62 := h62
   subst h62
   rw [Bool.and_eq_true] at h
   obtain ⟨hp, hl⟩ := h
   simp [plainT, Tr.t, Tr.n] at hp
   obtain ⟨rfl, rfl⟩ := hp
   match l, hl with
   | [y], hl =>
    simp only [Tr.l, Bool.and_eq_true, Bool.or_eq_true, beq_iff_eq] at hl
    obtain ⟨hk, hy⟩ := hl
    have hk64 : y.k ≠ 64 := by rcases hk with ((h | h) | h) | h <;> rw [h] <;> decide
    have hr := pIt_read hy hk64 hel
    have hlead : ∃ c s, outIt 0 y ++ rest = c :: s ∧ (c = 108 ∨ c = 99 ∨ c = 102 ∨ (c = 116 ∧ ∃ q r, s = [121, 112, 101, 32] ++ q :: r ∧ q ≠ 123)) := by
     rcases hk with ((h | h) | h) | h
     ·have hs : isS y = true := by unfold isIt at hy; simpa [h] using hy
      cases isS_inv hs with
      | lets t m ty z _ h2 _ _ =>
       have e : outIt 0 (.mk 40 t m [ty, z]) = outS 0 (.mk 40 t m [ty, z]) := by simp [outIt, Tr.k]
       rw [e, s40]
       rcases h2 with rfl | rfl
       ·exact ⟨108, _, rfl, .inl rfl⟩
       ·exact ⟨99, _, rfl, .inr (.inl rfl)⟩
      | _ => simp [Tr.k] at h
     ·have hs : isS y = true := by unfold isIt at hy; simpa [h] using hy
      cases isS_inv hs with
      | func t p ty bl _ _ _ _ =>
       have e : outIt 0 (.mk 41 t 0 [p, ty, .mk 52 [] 0 bl]) = outS 0 (.mk 41 t 0 [p, ty, .mk 52 [] 0 bl]) := by simp [outIt, Tr.k]
       rw [e, s41]
       exact ⟨102, _, rfl, .inr (.inr (.inl rfl))⟩
      | _ => simp [Tr.k] at h
     ·have e : outIt 0 y = [99, 108, 97, 115, 115, 32] ++ y.t ++ [32] ++ [123] ++ linesM 1 y.l ++ closeL 0 y.l := by simp [outIt, h]
      rw [e]
      exact ⟨99, _, rfl, .inr (.inl rfl)⟩
     ·obtain ⟨k, t, n, l⟩ := y
      have h : k = 46 := h
      subst h
      have k1 : (Tr.mk 46 t n l).k = 46 := rfl
      unfold isIt at hy
      rw [if_neg (by rw [k1]; decide), if_pos k1, Bool.and_eq_true, Bool.and_eq_true] at hy
      obtain ⟨⟨ht, _⟩, hl⟩ := hy
      obtain ⟨_, c, r, hc, hci⟩ := id_first (show isId t = true from ht)
      match l, hl with
      | [z], _ =>
       have e : outIt 0 (.mk 46 t n [z]) = [116, 121, 112, 101, 32] ++ t ++ [32, 61, 32] ++ outT z ++ [59] := by simp [outIt, Tr.k, Tr.t, Tr.l]
       rw [e, hc]
       exact ⟨116, _, rfl, .inr (.inr (.inr ⟨rfl, c, _, rfl, (id_ne hci).2.2.2.1⟩))⟩
      | [], hl => cases hl
      | _ :: _ :: _, hl => cases hl
    obtain ⟨c, s, hcs, hc⟩ := hlead
    refine hr.mono fun f e1 => ?_
    have e' : outI 0 (.mk 62 [] 0 [y]) ++ rest = [101, 120, 112, 111, 114, 116] ++ 32 :: (outIt 0 y ++ rest) := by simp [outI, Tr.k, Tr.l]
    rw [e', hcs]
    rw [hcs] at e1
    have g1 : strip [100, 101, 102, 97, 117, 108, 116, 32] (c :: s) = none ∧ strip [116, 121, 112, 101, 32, 123, 32] (c :: s) = none ∧ strip [123, 32] (c :: s) = none ∧ strip [42] (c :: s) = none := by
     rcases hc with rfl | rfl | rfl | ⟨rfl, q, r, rfl, hq⟩
     ·exact ⟨rfl, rfl, rfl, rfl⟩
     ·exact ⟨rfl, rfl, rfl, rfl⟩
     ·exact ⟨rfl, rfl, rfl, rfl⟩
     ·have hq' : (123 : UInt8) ≠ q := fun e => hq e.symm
      exact ⟨rfl, by simp [strip, hq'], rfl, rfl⟩
    unfold pI
    rw [export_span.1, export_span.2, if_pos rfl]
    have g0 : strip [32] (32 :: c :: s) = some (c :: s) := rfl
    simp only [g0, Option.bind_eq_bind, Option.bind_some, g1.1, g1.2.1, g1.2.2.1, g1.2.2.2, e1]
   | [], hl => simp [Tr.l] at hl
   | _ :: _ :: _, hl => simp [Tr.l] at hl
  rw [if_neg h62] at h
  by_cases h63 : x.k = 63
  ·rw [if_pos h63] at h
   obtain ⟨k, t, n, l⟩ := x
   have h63 : k = 63 := h63
   subst h63
   rw [Bool.and_eq_true] at h
   obtain ⟨hp, hl⟩ := h
   simp [plainT, Tr.t, Tr.n] at hp
   obtain ⟨rfl, rfl⟩ := hp
   have gd : ∀ s : Bs, strip [32] (32 :: ([100, 101, 102, 97, 117, 108, 116, 32] ++ s)) = some ([100, 101, 102, 97, 117, 108, 116, 32] ++ s) ∧ strip [100, 101, 102, 97, 117, 108, 116, 32] ([100, 101, 102, 97, 117, 108, 116, 32] ++ s) = some s := fun s => ⟨rfl, rfl⟩
   match l, hl with
   | [y], hl =>
    simp only [Tr.l, Bool.and_eq_true, Bool.or_eq_true, beq_iff_eq] at hl
    by_cases hk : y.k = 41 ∨ y.k = 42
    ·have hy : isIt y = true := by
      rcases hl with hE | hl
      ·cases isE_inv hE with
       | word k hk' => rcases hk' with rfl | rfl | rfl <;> simp [Tr.k] at hk
       | _ => simp [Tr.k] at hk
      ·exact hl.2
     have hk64 : y.k ≠ 64 := by rcases hk with h | h <;> rw [h] <;> decide
     have hr := pIt_read hy hk64 hel
     have hw : (outIt 0 y ++ rest).takeWhile idB = [102, 117, 110, 99, 116, 105, 111, 110] ∨ (outIt 0 y ++ rest).takeWhile idB = [99, 108, 97, 115, 115] := by
      rcases hk with h | h
      ·have hs : isS y = true := by unfold isIt at hy; simpa [h] using hy
       cases isS_inv hs with
       | func t p ty bl _ _ _ _ =>
        have e : outIt 0 (.mk 41 t 0 [p, ty, .mk 52 [] 0 bl]) ++ rest = [102, 117, 110, 99, 116, 105, 111, 110] ++ 32 :: (t ++ (pmsT p ++ tyOr ty ++ [32] ++ blk 0 bl) ++ rest) := by
         have : outIt 0 (.mk 41 t 0 [p, ty, .mk 52 [] 0 bl]) = outS 0 (.mk 41 t 0 [p, ty, .mk 52 [] 0 bl]) := by simp [outIt, Tr.k]
         rw [this, s41]; simp
        rw [e, (span_id (by decide) rfl).1]; exact .inl rfl
       | _ => simp [Tr.k] at h
      ·have e : outIt 0 y ++ rest = [99, 108, 97, 115, 115] ++ 32 :: (y.t ++ [32] ++ [123] ++ linesM 1 y.l ++ closeL 0 y.l ++ rest) := by simp [outIt, h]
       rw [e, (span_id (by decide) rfl).1]; exact .inr rfl
     refine hr.mono fun f e1 => ?_
     have e' : outI 0 (.mk 63 [] 0 [y]) ++ rest = [101, 120, 112, 111, 114, 116] ++ 32 :: ([100, 101, 102, 97, 117, 108, 116, 32] ++ (outIt 0 y ++ rest)) := by simp [outI, Tr.k, Tr.l] at hk ⊢; simp [hk]
     rw [e']
     unfold pI
     rw [export_span.1, export_span.2, if_pos rfl]
     simp only [(gd _).1, Option.bind_eq_bind, Option.bind_some, (gd _).2, hw, if_true, e1]
    ·have hE : isE y = true := by
      rcases hl with hE | hl
      ·exact hE
      ·exact absurd hl.1 hk
     obtain ⟨hr, c, s, hc, _, hw⟩ := alone_read (both_read (sz y + 1)).1 (by omega) hE 0 rest
     have hnw : ¬ ((alone 0 y ++ rest).takeWhile idB = [102, 117, 110, 99, 116, 105, 111, 110] ∨ (alone 0 y ++ rest).takeWhile idB = [99, 108, 97, 115, 115]) := by
      rw [hc]
      rintro (e | e) <;> rw [e] at hw <;> revert hw <;> simp [kw]
     refine hr.mono fun f e1 => ?_
     have e' : outI 0 (.mk 63 [] 0 [y]) ++ rest = [101, 120, 112, 111, 114, 116] ++ 32 :: ([100, 101, 102, 97, 117, 108, 116, 32] ++ (alone 0 y ++ rest)) := by
      have : outI 0 (.mk 63 [] 0 [y]) = [101, 120, 112, 111, 114, 116, 32, 100, 101, 102, 97, 117, 108, 116, 32] ++ alone 0 y := by
       have k1 : (Tr.mk 63 [] 0 [y]).k = 63 := rfl
       unfold outI
       rw [if_neg (by rw [k1]; decide), if_pos k1]
       show [101, 120, 112, 111, 114, 116, 32, 100, 101, 102, 97, 117, 108, 116, 32] ++ (if y.k = 41 ∨ y.k = 42 then outIt 0 y else alone 0 y) = _
       rw [if_neg hk]
      rw [this]; simp
     rw [e']
     unfold pI
     rw [export_span.1, export_span.2, if_pos rfl]
     have g3 : strip [59] (59 :: rest) = some rest := rfl
     simp only [(gd _).1, Option.bind_eq_bind, Option.bind_some, (gd _).2, hnw, if_false, e1, g3]
   | [], hl => simp [Tr.l] at hl
   | _ :: _ :: _, hl => simp [Tr.l] at hl
  rw [if_neg h63] at h
  by_cases h64 : x.k = 64
  ·obtain ⟨k, t, n, l⟩ := x
   have h64 : k = 64 := h64
   subst h64
   have hf : isFrom (.mk 64 t n l) = true := by
    have k1 : (Tr.mk 64 t n l).k = 64 := rfl
    unfold isIt at h
    rwa [if_neg (by rw [k1]; decide), if_neg (by rw [k1]; decide), if_neg (by rw [k1]; decide), if_pos k1] at h
   have e : outI 0 (.mk 64 t n l) = exportT (.mk 64 t n l) := by simp [outI, outIt, Tr.k]
   rw [e]
   exact pFrom_read hf rest
  ·exact plain (.inl h) h62 h63 h64
 ·have hk : x.k = 66 := by
   unfold isSpace at h
   rw [Bool.and_eq_true, Bool.and_eq_true, Bool.and_eq_true] at h
   exact eq_of_beq h.1.1.1
  exact plain (.inr h) (by rw [hk]; decide) (by rw [hk]; decide) (by rw [hk]; decide)

theorem isS_item {x : Tr} (h : isS x = true) : isItem x = true := by
 have hk : x.k ≠ 62 ∧ x.k ≠ 63 ∧ x.k ≠ 42 ∧ x.k ≠ 46 ∧ x.k ≠ 60 ∧ x.k ≠ 64 := by cases isS_inv h <;> simp [Tr.k]
 simp [isItem, isIt, hk, h]

theorem isClass_item {x : Tr} (h : isClass x = true) : isItem x = true := by
 have hk : x.k = 42 := by
  unfold isClass at h
  rw [Bool.and_eq_true, Bool.and_eq_true, Bool.and_eq_true] at h
  exact eq_of_beq h.1.1.1
 simp [isItem, isIt, hk, h]

theorem pAll_read : ∀ (l : List Tr), (∀ y ∈ l, isItem y = true ∨ isSpace y = true) → Ev fun f => pAll f (l.flatMap fun y => outI 0 y ++ [10]) = some l := by
 intro l
 induction l with
 | nil => intro _; exact Ev.of1 fun f => rfl
 | cons y r ih =>
  intro h
  have hy := pI_read (h y List.mem_cons_self) (rest := 10 :: r.flatMap fun y => outI 0 y ++ [10]) rfl
  refine (hy.and (ih fun z hz => h z (List.mem_cons_of_mem _ hz))).step fun f ⟨e1, e2⟩ => ?_
  have e : ((y :: r).flatMap fun y => outI 0 y ++ [10]) = outI 0 y ++ 10 :: r.flatMap fun y => outI 0 y ++ [10] := by simp
  rw [e]
  cases hs : outI 0 y ++ 10 :: r.flatMap fun y => outI 0 y ++ [10] with
  | nil => simp at hs
  | cons c s =>
   rw [hs] at e1
   rw [pAll]
   simp only [e1, Option.bind_eq_bind, Option.bind_some]
   have g : strip [10] (10 :: r.flatMap fun y => outI 0 y ++ [10]) = some (r.flatMap fun y => outI 0 y ++ [10]) := rfl
   simp only [g, Option.bind_some, e2]

theorem ev_inj {α : Type} {p : Nat → Option α} {a b : α} (ha : Ev fun f => p f = some a) (hb : Ev fun f => p f = some b) : a = b := by
 obtain ⟨f, h1, h2⟩ := (ha.and hb).some
 rw [h1] at h2
 exact Option.some.inj h2

theorem pair_inj {p : Nat → Bs → Option (Tr × Bs)} {a b : Tr} {s u : Bs} (ha : Ev fun f => p f (s ++ []) = some (a, [])) (hb : Ev fun f => p f (u ++ []) = some (b, [])) (e : s = u) : a = b := by
 subst e
 exact congrArg Prod.fst (ev_inj ha hb)

theorem form_range (x : Tr) : form x = 0 ∨ form x = 1 ∨ form x = 2 ∨ form x = 3 ∨ form x = 4 ∨ form x = 5 ∨ form x = 6 := by
 unfold form
 repeat' split
 all_goals simp

theorem plain_eq {x : Tr} {k : Int} (hk : x.k = k) (h : plainT x = true) : x = .mk k [] 0 x.l := by
 obtain ⟨k', t, n, l⟩ := x
 simp [plainT, Tr.t, Tr.n] at h
 have : k' = k := hk
 obtain ⟨rfl, rfl⟩ := h
 rw [this]; rfl

theorem form_inv {x : Tr} : (form x = 1 → isE x = true) ∧ (form x = 2 → isT x = true) ∧ (form x = 3 → isS x = true) ∧ (form x = 4 → isItem x = true) ∧
  (form x = 5 → x = .mk 68 [] 0 x.l ∧ ∀ y ∈ x.l, isItem y = true ∨ isSpace y = true) ∧ (form x = 6 → x = .mk 69 [] 0 x.l ∧ ∀ y ∈ x.l, isItem y = true ∨ isSpace y = true) := by
 unfold form
 by_cases h1 : isE x = true
 ·rw [if_pos h1]; simp [h1]
 rw [if_neg h1]
 by_cases h2 : isT x = true
 ·rw [if_pos h2]; simp [h2]
 rw [if_neg h2]
 by_cases h3 : isS x = true
 ·rw [if_pos h3]; simp [h3]
 rw [if_neg h3]
 by_cases h4 : isItem x = true
 ·rw [if_pos h4]; simp [h4]
 rw [if_neg h4]
 by_cases h5 : x.k = 68 ∧ plainT x = true
 ·rw [if_pos h5]
  by_cases hl : (x.l.all fun y => isItem y && !dollar y) = true
  ·rw [if_pos hl]
   rw [List.all_eq_true] at hl
   refine ⟨by simp, by simp, by simp, by simp, fun _ => ⟨plain_eq h5.1 h5.2, fun y hy => .inl ?_⟩, by simp⟩
   have := hl y hy
   rw [Bool.and_eq_true] at this
   exact this.1
  ·rw [if_neg hl]; simp
 rw [if_neg h5]
 by_cases h6 : x.k = 69 ∧ plainT x = true
 ·rw [if_pos h6]
  by_cases hl : (x.l.all fun y => isS y || isClass y || isSpace y) = true
  ·rw [if_pos hl]
   rw [List.all_eq_true] at hl
   refine ⟨by simp, by simp, by simp, by simp, by simp, fun _ => ⟨plain_eq h6.1 h6.2, fun y hy => ?_⟩⟩
   have := hl y hy
   rw [Bool.or_eq_true, Bool.or_eq_true] at this
   rcases this with (h | h) | h
   ·exact .inl (isS_item h)
   ·exact .inl (isClass_item h)
   ·exact .inr h
  ·rw [if_neg hl]; simp
 ·rw [if_neg h6]; simp

/-- TWO TREES OF ONE FORM HAVE ONE TEXT ONLY IF THEY ARE THE SAME. -/
theorem text_inj {a b : Tr} (h0 : form a ≠ 0) (hf : form a = form b) (h : text a = text b) : a = b := by
 obtain ⟨a1, a2, a3, a4, a5, a6⟩ := @form_inv a
 obtain ⟨b1, b2, b3, b4, b5, b6⟩ := @form_inv b
 unfold text at h
 rw [← hf] at h b1 b2 b3 b4 b5 b6
 have tstop : TStop [] := ⟨rfl, rfl, rfl⟩
 rcases form_range a with e | e | e | e | e | e | e
 ·exact absurd e h0
 ·rw [e] at h
  simp only [if_true] at h
  exact pair_inj (p := fun f s => pE f 0 1 s) ((expr_read (a1 e)).stop (r := 1) (by decide) (by decide) rfl rfl) ((expr_read (b1 e)).stop (r := 1) (by decide) (by decide) rfl rfl) h
 ·rw [e] at h
  have n1 : ¬ ((2 : Int) = 1) := by decide
  simp only [n1, if_true, if_false] at h
  exact pair_inj (p := fun f s => pT f s) (type_read (a2 e) tstop) (type_read (b2 e) tstop) h
 ·rw [e] at h
  have n1 : ¬ ((3 : Int) = 1) := by decide
  have n2 : ¬ ((3 : Int) = 2) := by decide
  simp only [n1, n2, if_false, true_or, if_true] at h
  exact pair_inj (p := fun f s => pI f 0 s) (pI_read (.inl (isS_item (a3 e))) rfl) (pI_read (.inl (isS_item (b3 e))) rfl) h
 ·rw [e] at h
  have n1 : ¬ ((4 : Int) = 1) := by decide
  have n2 : ¬ ((4 : Int) = 2) := by decide
  simp only [n1, n2, if_false, or_true, if_true] at h
  exact pair_inj (p := fun f s => pI f 0 s) (pI_read (.inl (a4 e)) rfl) (pI_read (.inl (b4 e)) rfl) h
 ·rw [e] at h
  have n1 : ¬ ((5 : Int) = 1) := by decide
  have n2 : ¬ ((5 : Int) = 2) := by decide
  have n3 : ¬ ((5 : Int) = 3 ∨ (5 : Int) = 4) := by decide
  simp only [n1, n2, n3, if_false, true_or, if_true] at h
  obtain ⟨ea, la⟩ := a5 e
  obtain ⟨eb, lb⟩ := b5 e
  have := pAll_read a.l la
  rw [h] at this
  rw [ea, eb, ev_inj this (pAll_read b.l lb)]
 ·rw [e] at h
  have n1 : ¬ ((6 : Int) = 1) := by decide
  have n2 : ¬ ((6 : Int) = 2) := by decide
  have n3 : ¬ ((6 : Int) = 3 ∨ (6 : Int) = 4) := by decide
  simp only [n1, n2, n3, if_false, or_true, if_true] at h
  obtain ⟨ea, la⟩ := a6 e
  obtain ⟨eb, lb⟩ := b6 e
  have := pAll_read a.l la
  rw [h] at this
  rw [ea, eb, ev_inj this (pAll_read b.l lb)]

end Go.Proofs.YtpmlmpibpmoclaaGreatDoor
