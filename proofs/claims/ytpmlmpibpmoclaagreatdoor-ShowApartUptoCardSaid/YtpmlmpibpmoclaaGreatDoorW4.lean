/-
  The document's answer on names: words, runes, signs.
-/
import Derived.Test.YtpmlmpibpmoclaaGreatDoorW2
import Derived.Test.YtpmlmpibpmoclaaGreatDoorW1
namespace Go.Proofs.YtpmlmpibpmoclaaGreatDoor
set_option linter.all false
open Go.RowKit

theorem sl_alloc (w : World) (S : List Bs) (T : TypeId) (c : Nat) : SlS (w.alloc (.cells (strs S).toArray T)) (.slice (some ⟨w.heap.size, 0, none⟩) S.length c) S :=
 ⟨_, _, rfl, fun i h => ⟨w.heap.size, 0, rfl, by rw [Nat.zero_add]; exact cell_alloc _ _ _ _ _ (by simp [strs, List.getElem?_eq_getElem h])⟩⟩

/-- The call answers that bool and touches only new memory. -/
theorem Ans.mk {b c : Bool} {w w' : World} (h : b = c) (x : Ext (fun _ => False) w w') : Ans b w (.returned (.bool c)) w' := by subst h; exact ⟨rfl, x⟩

theorem word_any (s : Bs) (w : World) : Calls Tryz.prog 107 #[.string (sv s)] w (Ans (has words s) w) := by
 go_enter Tryz.func107, Tryz.ntmps107
 go_wp2
 go_loopw [4] (fun i wr => ∃ j : Nat, j ≤ words.length ∧ i = .int .i64 j ∧ Hid (has (words.take j) s = false) ∧ Hid (SlS wr (.slice (some ⟨w.heap.size, 0, none⟩) 19 19) words) ∧ Ext (fun _ => False) w wr) (fun i _ => words.length - (intOf i).toNat)
 case atStart => exact ⟨0, Nat.zero_le _, rfl, hid (by simp [has]), hid (sl_alloc w words _ 19), Ext.alloc _ _ _⟩
 case round =>
  obtain ⟨j, hj, rfl, hno, hsl, xx⟩ := hrel
  have hlen := hid (show words.length = 19 from rfl)
  by_cases hlt : j < words.length
  ·obtain ⟨p, c, hv, hcell⟩ := hsl.out
   obtain ⟨g, o, rfl, hc⟩ := hcell j hlt
   simp only [Value.slice.injEq, Option.some.injEq, Addr.mk.injEq] at hv
   obtain ⟨⟨rfl, rfl, _⟩, _, rfl⟩ := hv
   clear hcell
   rw [Nat.zero_add] at hc
   have hts := hid (fun hq => has_take_no hlt hno.out (s := s) hq)
   have hct := hid (has_at (s := s) hlt)
   have hlt19 : (j : Int) < 19 := by have := hlen.out; omega
   generalize words[j] = q at *
   by_cases hq : q = s
   ·have hres := hid (hct.out hq)
    subst hq
    clear hct hts hno
    go_wp2
    go_ret
    exact .mk hres.out xx
   ·have hnq := ne_list hq
    have hno2 := hid (hts.out hq)
    clear hct hts hno hq
    go_wp2
    go_roundw
    case rel => exact ⟨j + 1, by omega, by go_num, hno2, hsl, xx⟩
    case measure => simp [intOf]; omega
  ·have hall := hid (show has words s = false by have := hno.out; rwa [List.take_of_length_le (by omega)] at this)
   have hlt19 : ¬ (j : Int) < 19 := by have := hlen.out; omega
   clear hno
   go_wp2
   go_ret
   exact .mk hall.out xx

/-! ### runes -/

theorem info9 : (Tryz.prog.info? 9).map (fun i => (i.zero, i.size, i.bytes)) = some (some (.string ByteArray.empty), 1, 16) := by kernel_rfl


/-- Of pieces S of s: they are the runes of s. -/
def Pieces (s : Bs) (S : List Bs) : Prop := runes s = S.map (fun p => (rune p).2) ∧ (∀ p ∈ S, p ≠ [] ∧ p.length ≤ 4 ∧ 0 ≤ (rune p).2)
def RunesP (s : Bs) (w : World) (e : Ending) (w' : World) : Prop :=
 ∃ v S ok, e = .returned (.tuple #[v, .bool ok]) ∧ SlS w' v S ∧ S.length ≤ s.length ∧ (s ≠ [] → S ≠ []) ∧ (ok = true → Pieces s S) ∧ Ext (fun _ => False) w w'

def lenOf : Value → Nat
 | .string b => b.size
 | _ => 0
theorem lenOf_sv (q : Bs) : lenOf (.string (sv q)) = q.length := sv_size q

/-- What holds when q is still to be read. -/
structure RunesI (s q : Bs) (S : List Bs) (ok : Bool) : Prop where
 len : q.length + S.length ≤ s.length
 some : s = q ∨ S ≠ []
 run : ok = true → runes s = S.map (fun p => (rune p).2) ++ runes q ∧ ∀ p ∈ S, p ≠ [] ∧ p.length ≤ 4 ∧ 0 ≤ (rune p).2

theorem RunesI.step {s : Bs} {c : UInt8} {r : Bs} {S : List Bs} {ok : Bool} (h : RunesI s (c :: r) S ok) {m : Nat} {v : Int} (h1 : 0 ≤ v → rune (c :: r) = (m, v)) (h2 : v < 0 → m = 1 ∧ v = -1) (ok' : Bool) (ho : ok' = true → ok = true ∧ 0 ≤ v) :
  RunesI s ((c :: r).drop m) (S ++ [(c :: r).take m]) ok' ∧ 1 ≤ m ∧ m ≤ (c :: r).length := by
 have hp := rune_pos c r
 have hm : 1 ≤ m ∧ m ≤ (c :: r).length := by
  by_cases hv : 0 ≤ v
  ·have := h1 hv; rw [this] at hp; simp at hp ⊢; omega
  ·have := (h2 (by omega)).1; simp; omega
 refine ⟨⟨by have := h.len; simp at this ⊢; simp at hm; omega, .inr (by simp), fun ht => ?_⟩, hm⟩
 obtain ⟨a, b⟩ := ho ht
 obtain ⟨k1, k2⟩ := h.run a
 have e := h1 b
 have hr : (rune (c :: r)).1 = m := by rw [e]
 have hr2 : (rune (c :: r)).2 = v := by rw [e]
 have ht := rune_take (c := c) (r := r) (by rw [hr2]; exact b)
 rw [hr] at ht
 refine ⟨?_, fun p hp' => ?_⟩
 ·rw [k1, runes_cons, hr, List.map_append, List.append_assoc]
  simp [ht]
 ·rcases List.mem_append.1 hp' with h3 | h3
  ·exact k2 p h3
  ·simp at h3
   subst h3
   refine ⟨?_, by rw [hr] at hp; simp; omega, by rw [ht, hr2]; exact b⟩
   obtain ⟨k, rfl⟩ : ∃ k, m = k + 1 := ⟨m - 1, by omega⟩
   simp

theorem RunesI.fin {s : Bs} {S : List Bs} {ok : Bool} (h : RunesI s [] S ok) {b : Nat} {w w' : World} {l : Value} (ho : OwnS b w' l S) (x : Ext (fun _ => False) w w') : RunesP s w (.returned (.tuple #[l, .bool ok])) w' :=
 ⟨l, S, ok, rfl, ho.sl, by have := h.len; simp at this; exact this, fun hs => h.some.resolve_left hs, fun ht => ⟨by have := (h.run ht).1; simpa [runes, runesF] using this, (h.run ht).2⟩, x⟩

theorem runes_any (s : Bs) (w : World) (hl : s.length ≤ 4398046511104) : Calls Tryz.prog 105 #[.string (sv s)] w (RunesP s w) := by
 obtain ⟨ii, hi, hz0, hz1, hz2⟩ := info_parts info9
 have hsv := sv_list
 go_enter Tryz.func105, Tryz.ntmps105
 go_wp2
 go_loopw [0, 4, 5] (fun s0 l ok wr => ∃ (q : Bs) (S : List Bs) (okb : Bool), s0 = .string (sv q) ∧ ok = .bool okb ∧ Hid (OwnS w.heap.size wr l S) ∧ RunesI s q S okb ∧ Ext (fun _ => False) w wr) (fun s0 _ _ _ => lenOf s0)
 case atStart => exact ⟨s, [], true, rfl, rfl, hid (OwnS.nil _ _), ⟨by simp, .inl rfl, fun _ => ⟨rfl, by simp⟩⟩, Ext.refl _ _⟩
 case round =>
  obtain ⟨q, S, okb, rfl, rfl, hown, hI, xx⟩ := hrel
  cases q with
  | nil =>
   have H := hid hI
   clear hI
   go_wp2
   go_ret2
   exact H.out.fin hown.out xx
  | cons c r =>
   have hl1 := hI.len
   have hne : c :: r ≠ [] := by simp
   have hl2 := hid (show (c :: r).length ≤ 9223372036854775807 by omega)
   have hS := hid (show S.length ≤ 4398046511104 by omega)
   have H := hid hI
   clear hI hl1
   go_wp2_with fail
   refine (head_any _ _ hne hl2.out).mono ?_
   rintro e w1 ⟨m, v, rfl, h1, h2, rfl⟩
   have fin : ∀ ok' : Bool, (ok' = true → okb = true ∧ 0 ≤ v) → Hid (RunesI s ((c :: r).drop m) (S ++ [(c :: r).take m]) ok') ∧ 1 ≤ m ∧ m ≤ (c :: r).length := fun ok' ho => H.out.step h1 h2 ok' ho
   clear h1 h2
   have hm := (fin false (by simp)).2
   have hm1 : (0 : Int) ≤ m := by omega
   have hm2 : (m : Int) ≤ ((sv (c :: r)).size : Int) := by rw [sv_size]; omega
   have hmn := hid hm
   clear hm
   have ht := sv_take (c :: r) m
   have hd := sv_drop (c :: r) m
   have hcell := cell_alloc w1 #[.string (sv ((c :: r).take m))] 9 0 _ rfl
   have hown1 := hid (hown.out.keepF (Ext.alloc _ w1 (.cells #[.string (sv ((c :: r).take m))] 9)))
   have xx1 := xx.of_eq (Ext.alloc _ w1 (.cells #[.string (sv ((c :: r).take m))] 9))
   generalize hq1 : (c :: r).take m = q1 at *
   generalize hq2 : (c :: r).drop m = q2 at *
   have hlq := hid (show q2.length < (c :: r).length by rw [← hq2, List.length_drop]; have := hmn.out; omega)
   clear hq1 hq2
   by_cases hv : 0 ≤ v
   ·cases okb with
    | true =>
     have hF := (fin true (fun _ => ⟨rfl, hv⟩)).1
     clear fin H
     go_wp2_with (at_builtin; refine wpList_append_str rfl (.tmp 20) (.tmp 24) 68 rfl w.heap.size ii _ Tryz.underlying68 hi hz0 hz1 hz2 rfl _ S w1.heap.size 1 q1 rfl rfl hown1.out hcell hS.out xx1.size ?_; intro p n c' w2 hown2 hn hx2; subst hn)
     go_roundw
     case rel => exact ⟨q2, S ++ [q1], true, rfl, rfl, hid hown2, hF.out, xx1.trans (hx2.mono fun _ _ h => .inr h)⟩
     case measure => have := hlq.out; simpa [lenOf_sv] using this
    | false =>
     have hF := (fin false (by simp)).1
     clear fin H
     go_wp2_with (at_builtin; refine wpList_append_str rfl (.tmp 20) (.tmp 24) 68 rfl w.heap.size ii _ Tryz.underlying68 hi hz0 hz1 hz2 rfl _ S w1.heap.size 1 q1 rfl rfl hown1.out hcell hS.out xx1.size ?_; intro p n c' w2 hown2 hn hx2; subst hn)
     go_roundw
     case rel => exact ⟨q2, S ++ [q1], false, rfl, by first | rfl | simp [hv], hid hown2, hF.out, xx1.trans (hx2.mono fun _ _ h => .inr h)⟩
     case measure => have := hlq.out; simpa [lenOf_sv] using this
   ·have hF := (fin false (by simp)).1
    clear fin H
    cases okb
    all_goals
     go_wp2_with (at_builtin; refine wpList_append_str rfl (.tmp 20) (.tmp 24) 68 rfl w.heap.size ii _ Tryz.underlying68 hi hz0 hz1 hz2 rfl _ S w1.heap.size 1 q1 rfl rfl hown1.out hcell hS.out xx1.size ?_; intro p n c' w2 hown2 hn hx2; subst hn)
     go_roundw
     case rel => exact ⟨q2, S ++ [q1], false, rfl, by first | rfl | simp [hv], hid hown2, hF.out, xx1.trans (hx2.mono fun _ _ h => .inr h)⟩
     case measure => have := hlq.out; simpa [lenOf_sv] using this

theorem valid_of {s : Bs} {S : List Bs} (h : Pieces s S) : valid s = true := by
 unfold valid
 rw [h.1, List.all_map, List.all_eq_true]
 intro p hp
 simpa using (h.2 p hp).2.2

theorem valid_any (s : Bs) (w : World) (hl : s.length ≤ 4398046511104) : Calls Tryz.prog 43 #[.string (sv s)] w (Snd (valid s = true) w) := by
 go_enter Tryz.func43, Tryz.ntmps43
 go_wp2_with (go_at_call 105; refine (runes_any s w hl).mono ?_; rintro e w1 ⟨v, S, ok, rfl, hs, hlen, hne, hok, xx⟩; replace hok := hid hok; replace hne := hid hne; replace hs := hid hs)
 go_ret
 exact ⟨ok, rfl, fun h => valid_of (hok.out h), xx⟩

set_option maxHeartbeats 1000000

theorem signs_of {c : UInt8} {r : Bs} {S : List Bs} (hp : Pieces (c :: r) S) (hc : ¬ (48 ≤ c.toNat ∧ c.toNat ≤ 57)) (hs : ∀ p ∈ S, sign (rune p).2 = true) : signs (c :: r) = true := by
 unfold signs
 simp only [Bool.and_eq_true, Bool.not_eq_true']
 refine ⟨by simp; omega, ?_⟩
 rw [hp.1, List.all_map, List.all_eq_true]
 exact fun p h => hs p h

theorem signs_any (s : Bs) (w : World) (hl : s.length ≤ 4398046511104) : Calls Tryz.prog 106 #[.string (sv s)] w (Snd (signs s = true) w) := by
 cases s with
 | nil =>
  go_enter Tryz.func106, Tryz.ntmps106
  go_wp2_with (go_at_call 105; refine (runes_any [] w hl).mono ?_; rintro e w1 ⟨v, S, ok, rfl, hs, hlen, hne, hok, xx⟩; replace hok := hid hok; replace hne := hid hne; obtain rfl : S = [] := List.length_eq_zero_iff.1 (Nat.le_zero.1 hlen); obtain ⟨p, cc, rfl, _⟩ := hs)
  all_goals
   go_ret
   exact .no xx
 | cons c r =>
  have hsz := sv_size (c :: r)
  have h0 : 0 < (sv (c :: r)).size := by rw [hsz]; simp
  have hb : (sv (c :: r))[0]'h0 = c := sv_get _ _ _
  clear hsz
  by_cases hc : 48 ≤ c.toNat ∧ c.toNat ≤ 57
  ·have hc1 : (48 : Int) ≤ c.toNat := by omega
   have hc2 : (c.toNat : Int) ≤ 57 := by omega
   clear hc
   go_enter Tryz.func106, Tryz.ntmps106
   go_wp2_with (go_at_call 105; refine (runes_any (c :: r) w hl).mono ?_; rintro e w1 ⟨v, S, ok, rfl, hs, hlen, hne, hok, xx⟩; replace hok := hid hok; replace hne := hid hne; obtain ⟨p, cc, rfl, hsl⟩ := hs; replace hsl := hid hsl)
   all_goals
    go_ret
    exact .no xx
  ·go_enter Tryz.func106, Tryz.ntmps106
   go_wp2_with fail
   refine (runes_any (c :: r) w hl).mono ?_
   rintro e w1 ⟨v, S, ok, rfl, hs, hlen, hne, hok, xx⟩
   have hS : S ≠ [] := hne (by simp)
   have hS3 : ((S.length : Int) == 0) = false := by simpa using hS
   have hS2 := hid (show S.length ≤ 4398046511104 by omega)
   clear hne
   obtain ⟨p, cc, rfl, hsl⟩ := hs
   replace hsl := hid hsl
   cases ok with
   | false =>
    clear hok
    go_wp2_with fail
    go_ret
    exact .no xx
   | true =>
    replace hok := hid (hok rfl)
    have hc3 := hid hc
    have hcase : ((48 : Int) ≤ c.toNat ∧ ¬ (c.toNat : Int) ≤ 57) ∨ ¬ (48 : Int) ≤ c.toNat := by omega
    clear hc
    have hsl4 : S.length ≤ (c :: r).length := hlen
    rcases hcase with ⟨hc1, hc2⟩ | hc1
    all_goals
     go_wp2
    all_goals first
     | (go_ret; exact .no xx)
     | skip
    all_goals
     go_loop [5] (fun i => ∃ j : Nat, j ≤ S.length ∧ i = .int .i64 j ∧ Hid (∀ k (h : k < S.length), k < j → sign (rune S[k]).2 = true)) (fun i => S.length - (intOf i).toNat)
     case atStart => exact ⟨0, Nat.zero_le _, rfl, hid (fun k _ h => by omega)⟩
     case round =>
      obtain ⟨j, hj, rfl, hno⟩ := hrel
      by_cases hlt : j < S.length
      ·obtain ⟨g, o, rfl, hcell⟩ := hsl.out j hlt
       have hpj := hok.out.2 S[j] (List.getElem_mem hlt)
       have hjs : S[j].length ≤ 9223372036854775807 := Nat.le_trans hpj.2.1 (by decide)
       have nxt := hid (fun (h : sign (rune S[j]).2 = true) k (hk : k < S.length) (hkj : k < j + 1) => if e : k = j then (by subst e; exact h : sign (rune S[k]).2 = true) else hno.out k hk (by omega))
       have hS2' := hS2.out
       clear hno hS2'
       generalize S[j] = q at *
       go_wp2_with fail
       refine (head_any q w1 hpj.1 hjs).mono ?_
       rintro e w2 ⟨m, u, rfl, h1, h2, rfl⟩
       have hu : 0 ≤ u → u = (rune q).2 := fun h => by rw [h1 h]
       by_cases hu0 : 0 ≤ u
       ·obtain rfl := hu hu0
        clear h1 h2 hu hpj
        generalize (rune q).2 = u at *
        go_wp2_with (go_at_call 168; refine (letter_any u w2).mono ?_; rintro e w3 ⟨rfl, rfl⟩)
        all_goals first
         | (go_ret; exact .no xx)
         | skip
        all_goals
         have hsg : sign u = true := by unfold sign; simp_all
         go_round
         case rel => exact ⟨j + 1, by omega, by go_num, hid fun k hk hkj => nxt.out hsg k hk hkj⟩
         case measure => simp [intOf]; omega
       ·have hl0 : letter u = false := by obtain ⟨_, rfl⟩ := h2 (by omega); decide
        obtain ⟨_, rfl⟩ := h2 (by omega)
        clear h1 h2 hu hpj hu0
        go_wp2_with (go_at_call 168; refine (letter_any _ w2).mono ?_; rintro e w3 ⟨rfl, rfl⟩)
        all_goals
         go_ret
         exact .no xx
      ·have hall := hid (show ∀ k (h : k < S.length), sign (rune S[k]).2 = true from fun k h => hno.out k h (by omega))
       clear hno
       go_wp2
       go_ret
       exact .yes (signs_of hok.out hc3.out fun p hp => by obtain ⟨k, hk, rfl⟩ := List.getElem_of_mem hp; exact hall.out k hk) xx

theorem prop_any (s : Bs) (w : World) (hl : s.length ≤ 4398046511104) : Calls Tryz.prog 46 #[.string (sv s)] w (Snd (signs s = true) w) := by
 go_enter Tryz.func46, Tryz.ntmps46
 go_wp2_with (go_at_call 106; refine (signs_any s w hl).mono ?_; rintro e w1 ⟨b, rfl, hb, xx⟩; replace hb := hid hb)
 go_ret
 exact ⟨b, rfl, hb.out, xx⟩

theorem isId_of {s : Bs} (h : signs s = true) (k : (!has words s) = true) : isId s = true := by
 unfold isId
 rw [h, Bool.true_and]
 exact k

theorem id_any (s : Bs) (w : World) (hl : s.length ≤ 4398046511104) : Calls Tryz.prog 44 #[.string (sv s)] w (Snd (isId s = true) w) := by
 go_enter Tryz.func44, Tryz.ntmps44
 go_wp2_with (first
  | (go_at_call 106; refine (signs_any s w hl).mono ?_; rintro e w1 ⟨b, rfl, hb, xx⟩; replace hb := hid hb)
  | (go_at_call 107; refine (word_any s w1).mono ?_; rintro e w2 ⟨rfl, x2⟩))
 all_goals
  go_ret
  first
   | exact .no (xx.of_eq x2)
   | exact .no xx
   | exact ⟨!has words s, rfl, fun h => isId_of (hb.out (by assumption)) h, xx.of_eq x2⟩

end Go.Proofs.YtpmlmpibpmoclaaGreatDoor
