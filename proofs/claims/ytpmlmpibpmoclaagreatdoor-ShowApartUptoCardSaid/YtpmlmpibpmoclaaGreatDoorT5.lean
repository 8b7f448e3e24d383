/-
  The program's own tests on names: letters, digits, property names, identifiers.
-/
import Derived.Test.YtpmlmpibpmoclaaGreatDoorT0
import Derived.Lib.OthersKept
namespace Go.Proofs.YtpmlmpibpmoclaaGreatDoor
set_option linter.all false
set_option maxRecDepth 20000
set_option maxHeartbeats 2000000
open Go.RowKit

theorem letter_t (r : Int) (w : World) : Calls Tryz.prog 174 #[.int .i32 r] w (Tells (letter r) w) := by
 go_enter Tryz.func174, Tryz.ntmps174
 go_wp2
 all_goals
  go_ret
  refine ⟨ret_b ?_, rfl⟩
  unfold letter
  repeat' split
  all_goals first | rfl | (simp; omega) | (exfalso; omega) | (simp_all; done) | (by_cases h1 : r = 215 <;> by_cases h2 : r = 247 <;> by_cases h3 : r = 930 <;> simp_all)

def digit (r : Int) : Bool := decide (48 ≤ r) && decide (r ≤ 57)
theorem digit_t (r : Int) (w : World) : Calls Tryz.prog 175 #[.int .i32 r] w (Tells (digit r) w) := by
 go_enter Tryz.func175, Tryz.ntmps175
 go_wp2
 all_goals
  go_ret
  refine ⟨ret_b ?_, rfl⟩
  unfold digit
  simp_all
  try omega

/-! ### words -/

def wordsT : List Bs := [[99, 108, 97, 115, 115], [99, 111, 110, 115, 116], [100, 101, 102, 97, 117, 108, 116], [101, 108, 115, 101], [101, 120, 112, 111, 114, 116], [102, 97, 108, 115, 101], [102, 117, 110, 99, 116, 105, 111, 110], [105, 102], [105, 109, 112, 111, 114, 116], [108, 101, 116], [110, 101, 119], [110, 117, 108, 108], [114, 101, 116, 117, 114, 110], [116, 104, 105, 115], [116, 104, 114, 111, 119], [116, 114, 117, 101], [116, 121, 112, 101, 111, 102], [117, 110, 100, 101, 102, 105, 110, 101, 100], [119, 104, 105, 108, 101]]
theorem wordsT_sub : ∀ s ∈ wordsT, words.contains s = true := by decide

def WordsP (w : World) (e : Ending) (w' : World) : Prop := ∃ c, e = .returned (.slice (some ⟨w.heap.size, 0, none⟩) 19 c) ∧ SlS w' (.slice (some ⟨w.heap.size, 0, none⟩) 19 c) wordsT ∧ Fx w w'
theorem words_t (w : World) : Calls Tryz.prog 170 #[] w (WordsP w) := by
 go_enter Tryz.func170, Tryz.ntmps170
 go_wp2
 go_ret
 exact ⟨19, rfl, sl_alloc w wordsT _ 19, Ext.alloc _ _ _⟩

def TellsI (n : Int) (w : World) (e : Ending) (w' : World) : Prop := e = .returned (.int .i64 n) ∧ w' = w
theorem index_t (s : Bs) (S : List Bs) (hn : ¬ s ∈ S) (v : Value) (w : World) (h : SlS w v S) (hl : S.length ≤ 4398046511104) : Calls Tryz.prog 220 #[v, .string (sv s)] w (TellsI (-1) w) := by
 obtain ⟨p, c, rfl, hcell⟩ := h
 have H := hid hcell
 have HN := hid hn
 clear hcell hn
 go_enter Tryz.func220, Tryz.ntmps220
 go_wp2
 go_loop [8] (fun i => ∃ j : Nat, j ≤ S.length ∧ i = .int .i64 j) (fun i => S.length - (intOf i).toNat)
 case atStart => exact ⟨0, Nat.zero_le _, rfl⟩
 case round =>
  obtain ⟨j, hj, rfl⟩ := hrel
  by_cases hlt : j < S.length
  ·obtain ⟨g, o, rfl, hc⟩ := H.out j hlt
   have hq : S[j] ≠ s := fun e => HN.out (e ▸ List.getElem_mem hlt)
   generalize S[j] = q at *
   have hnq := ne_list hq
   have hnq2 := ne_list (Ne.symm hq)
   clear hq
   go_wp2
   go_round
   case rel => exact ⟨j + 1, by omega, by go_num⟩
   case measure => simp [intOf]; omega
  ·go_wp2
   go_ret
   exact ⟨rfl, rfl⟩

theorem contains_t (s : Bs) (S : List Bs) (hn : ¬ s ∈ S) (v : Value) (w : World) (h : SlS w v S) (hl : S.length ≤ 4398046511104) : Calls Tryz.prog 169 #[v, .string (sv s)] w (Tells false w) := by
 obtain ⟨p, c, rfl, hcell⟩ := id h
 go_enter Tryz.func169, Tryz.ntmps169
 go_wp2_with (go_at_call 220; refine (index_t s S hn _ _ h hl).mono ?_; rintro e w1 ⟨rfl, rfl⟩)
 go_ret
 exact .mk rfl

def TellsJ (w : World) (e : Ending) (w' : World) : Prop := ∃ j : Nat, e = .returned (.int .i64 j) ∧ j ≤ 4398046511104 ∧ w' = w
theorem index_w (s : Bs) (S : List Bs) (hn : s ∈ S) (v : Value) (w : World) (h : SlS w v S) (hl : S.length ≤ 4398046511104) : Calls Tryz.prog 220 #[v, .string (sv s)] w (TellsJ w) := by
 obtain ⟨p, c, rfl, hcell⟩ := h
 have H := hid hcell
 have HN := hid hn
 have HL := hid hl
 clear hcell hn
 go_enter Tryz.func220, Tryz.ntmps220
 go_wp2
 go_loop [8] (fun i => ∃ j : Nat, j ≤ S.length ∧ i = .int .i64 j ∧ Hid (¬ s ∈ S.take j)) (fun i => S.length - (intOf i).toNat)
 case atStart => exact ⟨0, Nat.zero_le _, rfl, hid (by simp)⟩
 case round =>
  obtain ⟨j, hj, rfl, hno⟩ := hrel
  by_cases hlt : j < S.length
  ·obtain ⟨g, o, rfl, hc⟩ := H.out j hlt
   have hstep := hid (fun (e : S[j] ≠ s) => show ¬ s ∈ S.take (j + 1) from by
    rw [List.take_succ_eq_append_getElem hlt]
    intro hm
    rcases List.mem_append.1 hm with h1 | h1
    ·exact hno.out h1
    ·simp at h1; exact e h1.symm)
   generalize S[j] = q at *
   by_cases hq : q = s
   ·subst hq
    clear hstep hno HN H
    go_wp2
    go_ret
    exact ⟨j, rfl, Nat.le_trans hj HL.out, rfl⟩
   ·have hs2 := hid (hstep.out hq)
    have hnq := ne_list hq
    have hnq2 := ne_list (Ne.symm hq)
    clear hq hstep
    go_wp2
    go_round
    case rel => exact ⟨j + 1, by omega, by go_num, hs2⟩
    case measure => simp [intOf]; omega
  ·exfalso
   have := hno.out
   rw [List.take_of_length_le (by omega)] at this
   exact this HN.out
theorem contains_w (s : Bs) (S : List Bs) (hn : s ∈ S) (v : Value) (w : World) (h : SlS w v S) (hl : S.length ≤ 4398046511104) : Calls Tryz.prog 169 #[v, .string (sv s)] w (Tells true w) := by
 obtain ⟨p, c, rfl, hcell⟩ := id h
 go_enter Tryz.func169, Tryz.ntmps169
 go_wp2_with (go_at_call 220; refine (index_w s S hn _ _ h hl).mono ?_; rintro e w1 ⟨j, rfl, hj, rfl⟩; have hj0 : (0 : Int) ≤ (j : Int) := by omega)
 go_ret
 exact .mk rfl

/-! ### property names -/

theorem rune_low {c : UInt8} {r : Bs} (h : 0 ≤ (rune (c :: r)).2) (h2 : (rune (c :: r)).2 < 128) : (rune (c :: r)).2 = (c.toNat : Int) := by
 revert h h2
 unfold rune
 simp only []
 split
 ·intro _ _; rfl
 ·split
  ·intro h; simp at h
  ·rename_i m least v hp
   split
   ·intro h; simp at h
   ·rename_i u hu
    split
    ·intro h; simp at h
    ·rename_i hg
     intro _ h2
     exfalso
     have hl : 128 ≤ least := by
      split at hp
      ·simp at hp; omega
      ·split at hp
       ·simp at hp; omega
       ·split at hp
        ·simp at hp; omega
        ·cases hp
     simp at h2
     omega

theorem sign_ge {v : Int} (h : sign v = true) : 0 ≤ v := by
 unfold sign letter at h
 rcases Int.lt_or_le v 0 with h0 | h0
 ·exfalso
  rw [if_neg (by omega), if_neg (by omega), if_neg (by omega)] at h
  simp at h
  omega
 ·exact h0

theorem valid_signs {s : Bs} (h : signs s = true) : valid s = true := by
 cases s with
 | nil => simp [signs] at h
 | cons c r =>
  simp only [signs, Bool.and_eq_true] at h
  unfold valid
  rw [List.all_eq_true] at h ⊢
  intro v hv
  simpa using sign_ge (h.2 v hv)

theorem fx_iter {w wr : World} (h : Fx w wr) (s : ByteArray) (pos : Nat) : Fx w (wr.iterAt w.heap.size s pos) := by
 refine h.trans (c := wr.iterAt w.heap.size s pos) ⟨rfl, rfl, rfl, Nat.le_of_eq (Lib.iterAt_size wr w.heap.size s pos).symm, fun k hk hn => Lib.iterAt_other wr w.heap.size k s pos (fun e => hn (.inr (by omega)))⟩

/-- What a round of the range finds: the rune V, M bytes wide. -/
theorem prop_round {s : Bs} {pos : Nat} (h : signs s = true) (hlt : pos < s.length) (hal : (runes (s.drop pos)).all sign = true) :
  ∃ V M : Nat, Utf8.decode (sv s) pos = (V, M) ∧ 1 ≤ M ∧ pos + M ≤ s.length ∧ (runes (s.drop (pos + M))).all sign = true ∧
   ((V : Int) = 95 ∨ (¬ (V : Int) = 95 ∧ (V : Int) = 36) ∨ (¬ (V : Int) = 95 ∧ ¬ (V : Int) = 36 ∧ letter V = true) ∨ (¬ (V : Int) = 95 ∧ ¬ (V : Int) = 36 ∧ letter V = false ∧ (0 : Int) < pos ∧ digit V = true)) := by
 have hd := decode_rune s pos hlt
 obtain ⟨c, r, hcr⟩ : ∃ c r, s.drop pos = c :: r := by
  cases hq : s.drop pos with
  | nil => have := congrArg List.length hq; simp at this; omega
  | cons c r => exact ⟨c, r, rfl⟩
 have hlen := congrArg List.length hcr
 simp only [List.length_drop, lC] at hlen
 rw [hcr] at hd hal
 rw [runes_cons, List.all_cons, Bool.and_eq_true] at hal
 have hp := rune_pos c r
 have h0 := sign_ge hal.1
 rw [if_neg (by omega)] at hd
 refine ⟨_, _, hd, hp.1, by omega, ?_, ?_⟩
 ·rw [← List.drop_drop, hcr]; exact hal.2
 ·have hV : (((rune (c :: r)).2.toNat : Nat) : Int) = (rune (c :: r)).2 := Int.toNat_of_nonneg h0
  have hlow := fun h => rune_low (c := c) (r := r) h0 h
  have hs := hal.1
  rw [hV]
  have hz : 48 ≤ (rune (c :: r)).2 → (rune (c :: r)).2 ≤ 57 → (0 : Int) < pos := by
   intro h1 h2
   rcases Nat.eq_zero_or_pos pos with rfl | hpos
   ·exfalso
    rw [List.drop_zero] at hcr
    subst hcr
    have h3 := hlow (by omega)
    simp only [signs, Bool.and_eq_true, Bool.not_eq_true'] at h
    have h4 := h.1
    simp at h4
    omega
   ·omega
  generalize (rune (c :: r)).2 = V at *
  by_cases h1 : V = 95
  ·exact .inl h1
  by_cases h2 : V = 36
  ·exact .inr (.inl ⟨h1, h2⟩)
  cases h3 : letter V
  ·refine .inr (.inr (.inr ⟨h1, h2, rfl, ?_⟩))
   unfold sign at hs
   rw [h3] at hs
   simp [h1, h2] at hs
   exact ⟨hz hs.1 hs.2, by simp [digit, hs.1, hs.2]⟩
  ·exact .inr (.inr (.inl ⟨h1, h2, rfl⟩))

theorem prop_t (s : Bs) (hl : s.length ≤ 4398046511104) (h : signs s = true) (B : Nat) (w : World) (hT : Tabs B w) : Calls Tryz.prog 120 #[.string (sv s)] w (Ans true w) := by
 have hsv := sv_list
 have hv := valid_signs h
 have hne : s ≠ [] := by rintro rfl; simp [signs] at h
 have hne2 : (s == []) = false := by simpa using hne
 have H := hid h
 have HT := hid hT
 have hval := hid hv
 have hst := hid (show (runes (s.drop 0)).all sign = true by
  cases s with
  | nil => exact absurd rfl hne
  | cons c r => simp only [signs, Bool.and_eq_true] at h; exact h.2)
 clear h hT hv hne
 go_enter Tryz.func120, Tryz.ntmps120
 go_wp2
 go_loopw [] (fun wr => ∃ pos : Nat, pos ≤ s.length ∧ wr.heap[w.heap.size]? = some (.stringIter (sv s) pos) ∧ Hid ((runes (s.drop pos)).all sign = true) ∧ Fx w wr) (fun wr => s.length - wr.iterPos w.heap.size)
 case atStart => exact ⟨0, Nat.zero_le _, by simpa using World.iter_heap w (sv s) 0, hst, Ext.alloc _ _ _⟩
 case round =>
  obtain ⟨pos, hp, hit, hal, xx⟩ := hrel
  by_cases hlt : pos < s.length
  ·have hlt' : pos < (sv s).size := by rw [sv_size]; exact hlt
   have hnx : ∀ ty, (Instr.next (.pointer (some ⟨w.heap.size, 0, none⟩)) true ty).run Tryz.prog wr = _ := fun ty => Lib.run_next_any_at wr w.heap.size (sv s) pos ty hit hlt'
   obtain ⟨V, M, hd, hM, hM2, hal2, hcase⟩ := prop_round H.out hlt hal.out
   rw [hd] at hnx
   have hit2 := Lib.iterAt_heap wr w.heap.size (sv s) pos (pos + M) hit
   have xx2 := fx_iter xx (sv s) (pos + M)
   have hp4 : (pos : Int) ≤ 4398046511104 := by omega
   replace hal2 := hid hal2
   clear hd hal
   rcases hcase with h1 | ⟨h1, h2⟩ | ⟨h1, h2, h3⟩ | ⟨h1, h2, h3, h4, h5⟩
   all_goals
    go_wp2_with (first
     | (go_at_call 174; refine (letter_t _ _).mono ?_; rintro e w1 ⟨rfl, rfl⟩)
     | (go_at_call 175; refine (digit_t _ _).mono ?_; rintro e w1 ⟨rfl, rfl⟩))
    go_roundw
    case rel => exact ⟨pos + M, by omega, hit2, hal2, xx2⟩
    case measure => simp only [World.iterPos, hit2, hit]; omega
  ·have hnx : ∀ ty, (Instr.next (.pointer (some ⟨w.heap.size, 0, none⟩)) true ty).run Tryz.prog wr = _ := fun ty => Lib.run_next_end_at wr w.heap.size (sv s) pos ty hit (by rw [sv_size]; exact hlt)
   go_wp2_with (go_at_call 171; refine (valid_t s hl B _ (HT.out.keepF xx)).mono ?_; rintro e w1 ⟨rfl, x1⟩)
   go_ret
   exact .mk hval.out.symm (xx.of_eq x1)

theorem id_t (s : Bs) (hl : s.length ≤ 4398046511104) (h : isId s = true) (B : Nat) (w : World) (hT : Tabs B w) : Calls Tryz.prog 108 #[.string (sv s)] w (Ans true w) := by
 simp only [isId, Bool.and_eq_true, Bool.not_eq_true'] at h
 have h1 := hid h.1
 have h2 := hid (show ¬ s ∈ wordsT from fun hm => by have := wordsT_sub s hm; rw [h.2] at this; cases this)
 have HT := hid hT
 clear h hT
 go_enter Tryz.func108, Tryz.ntmps108
 go_wp2_with (first
  | (go_at_call 120; refine (prop_t s hl h1.out B _ HT.out).mono ?_; rintro e w1 ⟨rfl, x1⟩)
  | (go_at_call 170; refine (words_t _).mono ?_; rintro e w2 ⟨c, rfl, hs, x2⟩; replace hs := hid hs)
  | (go_at_call 169; refine (contains_t s wordsT h2.out _ _ hs.out (by decide)).mono ?_; rintro e w3 ⟨rfl, rfl⟩))
 go_ret
 exact .mk rfl (x1.of_eq x2)

theorem id_w (s : Bs) (hl : s.length ≤ 4398046511104) (h : signs s = true) (h2 : s ∈ wordsT) (B : Nat) (w : World) (hT : Tabs B w) : Calls Tryz.prog 108 #[.string (sv s)] w (Ans false w) := by
 have h1 := hid h
 have H2 := hid h2
 have HT := hid hT
 clear h hT h2
 go_enter Tryz.func108, Tryz.ntmps108
 go_wp2_with (first
  | (go_at_call 120; refine (prop_t s hl h1.out B _ HT.out).mono ?_; rintro e w1 ⟨rfl, x1⟩)
  | (go_at_call 170; refine (words_t _).mono ?_; rintro e w2 ⟨c, rfl, hs, x2⟩; replace hs := hid hs)
  | (go_at_call 169; refine (contains_w s wordsT H2.out _ _ hs.out (by decide)).mono ?_; rintro e w3 ⟨rfl, rfl⟩))
 go_ret
 exact .mk rfl (x1.of_eq x2)

end Go.Proofs.YtpmlmpibpmoclaaGreatDoor
