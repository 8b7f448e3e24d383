/-
  Runes, plain: the document's way and the model's way of reading a rune are one.
-/
import Derived.Test.YtpmlmpibpmoclaaGreatDoorTr
import Derived.Lib.Strings
import Derived.Lib.DecodeN
import Derived.Lib.ValidU
namespace Go.Proofs.YtpmlmpibpmoclaaGreatDoor
set_option linter.all false
set_option maxHeartbeats 4000000

/-! ### strings -/

def sv (s : Bs) : ByteArray := ⟨s.toArray⟩
theorem sv_list (s : Bs) : (sv s).toList = s := by rw [Lib.toList_data]; simp [sv]
theorem sv_inj {a b : Bs} (h : sv a = sv b) : a = b := by
 have := congrArg ByteArray.toList h
 rwa [sv_list, sv_list] at this
theorem sv_size (s : Bs) : (sv s).size = s.length := by simp [sv, ByteArray.size]
theorem sv_of (b : ByteArray) : sv b.data.toList = b := by cases b; simp [sv]

theorem sv_get! (s : Bs) (i : Nat) : (sv s).get! i = s.getD i 0 := by
 show s.toArray[i]! = _
 rw [getElem!_def]
 simp
 cases h : s[i]? <;> simp; rfl

/-- The document's rune by its first four bytes; what lies behind the end is 0, which goes on nothing. -/
def runeN (n b0 b1 b2 b3 : Nat) : Nat × Int :=
 if b0 < 128 then (1, b0)
 else if 192 ≤ b0 ∧ b0 < 224 then
  (if 1 < n ∧ 128 ≤ b1 ∧ b1 < 192 then (if (b0 - 192) * 64 + (b1 - 128) < 128 then (1, -1) else (2, (((b0 - 192) * 64 + (b1 - 128) : Nat) : Int))) else (1, -1))
 else if 224 ≤ b0 ∧ b0 < 240 then
  (if (1 < n ∧ 128 ≤ b1 ∧ b1 < 192) ∧ (2 < n ∧ 128 ≤ b2 ∧ b2 < 192) then
   (if ((b0 - 224) * 64 + (b1 - 128)) * 64 + (b2 - 128) < 2048 ∨ (55296 ≤ ((b0 - 224) * 64 + (b1 - 128)) * 64 + (b2 - 128) ∧ ((b0 - 224) * 64 + (b1 - 128)) * 64 + (b2 - 128) < 57344) then (1, -1)
    else (3, ((((b0 - 224) * 64 + (b1 - 128)) * 64 + (b2 - 128) : Nat) : Int))) else (1, -1))
 else if 240 ≤ b0 ∧ b0 < 248 then
  (if (1 < n ∧ 128 ≤ b1 ∧ b1 < 192) ∧ (2 < n ∧ 128 ≤ b2 ∧ b2 < 192) ∧ (3 < n ∧ 128 ≤ b3 ∧ b3 < 192) then
   (if (((b0 - 240) * 64 + (b1 - 128)) * 64 + (b2 - 128)) * 64 + (b3 - 128) < 65536 ∨ 1114111 < (((b0 - 240) * 64 + (b1 - 128)) * 64 + (b2 - 128)) * 64 + (b3 - 128) then (1, -1)
    else (4, (((((b0 - 240) * 64 + (b1 - 128)) * 64 + (b2 - 128)) * 64 + (b3 - 128) : Nat) : Int))) else (1, -1))
 else (1, -1)

theorem rune_N (c : UInt8) (r : Bs) : rune (c :: r) = runeN (r.length + 1) c.toNat (r.getD 0 0).toNat (r.getD 1 0).toNat (r.getD 2 0).toNat := by
 have b0 := c.toNat_lt
 unfold rune runeN
 by_cases h1 : c.toNat < 128
 ·simp only [h1, if_true]
 simp only [h1, if_false]
 by_cases h2 : 192 ≤ c.toNat ∧ c.toNat < 224
 ·simp only [h2, and_self, if_true]
  rcases r with _ | ⟨d1, r⟩
  ·simp [more]
  ·have b1 := d1.toNat_lt
   by_cases k1 : 128 ≤ d1.toNat ∧ d1.toNat < 192
   ·have e : cont d1 = true := by simp [cont, k1]
    simp only [more, e, if_true, List.getD_cons_zero, lC]
    repeat' split
    all_goals first | rfl | (exfalso; omega)
   ·have e : cont d1 = false := by simp [cont]; omega
    simp only [more, e, Bool.false_eq_true, if_false, List.getD_cons_zero, lC]
    rw [if_neg (by omega)]
 simp only [h2, if_false]
 by_cases h3 : 224 ≤ c.toNat ∧ c.toNat < 240
 ·simp only [h3, and_self, if_true]
  rcases r with _ | ⟨d1, r⟩
  ·simp [more]
  ·have b1 := d1.toNat_lt
   by_cases k1 : 128 ≤ d1.toNat ∧ d1.toNat < 192
   ·have e : cont d1 = true := by simp [cont, k1]
    rcases r with _ | ⟨d2, r⟩
    ·simp [more, e]
    ·have b2 := d2.toNat_lt
     by_cases k2 : 128 ≤ d2.toNat ∧ d2.toNat < 192
     ·have e2 : cont d2 = true := by simp [cont, k2]
      simp only [more, e, e2, if_true, List.getD_cons_zero, List.getD_cons_succ, lC]
      repeat' split
      all_goals first | rfl | (exfalso; omega)
     ·have e2 : cont d2 = false := by simp [cont]; omega
      simp only [more, e, e2, if_true, Bool.false_eq_true, if_false, List.getD_cons_zero, List.getD_cons_succ, lC]
      rw [if_neg (by omega)]
   ·have e : cont d1 = false := by simp [cont]; omega
    simp only [more, e, Bool.false_eq_true, if_false, List.getD_cons_zero, lC]
    rw [if_neg (by omega)]
 simp only [h3, if_false]
 by_cases h4 : 240 ≤ c.toNat ∧ c.toNat < 248
 ·simp only [h4, and_self, if_true]
  rcases r with _ | ⟨d1, r⟩
  ·simp [more]
  ·have b1 := d1.toNat_lt
   by_cases k1 : 128 ≤ d1.toNat ∧ d1.toNat < 192
   ·have e : cont d1 = true := by simp [cont, k1]
    rcases r with _ | ⟨d2, r⟩
    ·simp [more, e]
    ·have b2 := d2.toNat_lt
     by_cases k2 : 128 ≤ d2.toNat ∧ d2.toNat < 192
     ·have e2 : cont d2 = true := by simp [cont, k2]
      rcases r with _ | ⟨d3, r⟩
      ·simp [more, e, e2]
      ·have b3 := d3.toNat_lt
       by_cases k3 : 128 ≤ d3.toNat ∧ d3.toNat < 192
       ·have e3 : cont d3 = true := by simp [cont, k3]
        simp only [more, e, e2, e3, if_true, List.getD_cons_zero, List.getD_cons_succ, lC]
        repeat' split
        all_goals first | rfl | (exfalso; omega)
       ·have e3 : cont d3 = false := by simp [cont]; omega
        simp only [more, e, e2, e3, if_true, Bool.false_eq_true, if_false, List.getD_cons_zero, List.getD_cons_succ, lC]
        rw [if_neg (by omega)]
     ·have e2 : cont d2 = false := by simp [cont]; omega
      simp only [more, e, e2, if_true, Bool.false_eq_true, if_false, List.getD_cons_zero, List.getD_cons_succ, lC]
      rw [if_neg (by omega)]
   ·have e : cont d1 = false := by simp [cont]; omega
    simp only [more, e, Bool.false_eq_true, if_false, List.getD_cons_zero, lC]
    rw [if_neg (by omega)]
 simp only [h4, if_false]

theorem decodeN_rune (n b0 b1 b2 b3 : Nat) (h0 : b0 < 256) (h1 : b1 < 256) (h2 : b2 < 256) (h3 : b3 < 256) :
  Lib.decodeN n b0 b1 b2 b3 = (if (runeN n b0 b1 b2 b3).2 < 0 then 65533 else (runeN n b0 b1 b2 b3).2.toNat, (runeN n b0 b1 b2 b3).1) := by
 unfold Lib.decodeN runeN
 by_cases k1 : b0 < 128
 ·rw [if_pos k1, if_pos k1]
  simp
  omega
 rw [if_neg k1, if_neg k1]
 by_cases k2 : 192 ≤ b0 ∧ b0 < 224
 ·rw [if_pos k2]
  by_cases j1 : 1 < n ∧ 128 ≤ b1 ∧ b1 < 192
  ·rw [if_pos j1, if_pos ⟨by omega, j1.1, by omega⟩]
   by_cases j : (b0 - 192) * 64 + (b1 - 128) < 128
   ·rw [if_pos j, if_neg (by omega)]; simp
   ·rw [if_neg j, if_pos (by omega), if_neg (by omega)]
    simp; omega
  ·rw [if_neg j1, if_neg (by omega), if_neg (by omega), if_neg (by omega)]; simp
 rw [if_neg k2, if_neg (by omega)]
 by_cases k3 : 224 ≤ b0 ∧ b0 < 240
 ·rw [if_pos k3]
  by_cases j1 : (1 < n ∧ 128 ≤ b1 ∧ b1 < 192) ∧ (2 < n ∧ 128 ≤ b2 ∧ b2 < 192)
  ·rw [if_pos j1, if_pos ⟨by omega, ⟨j1.1.1, by omega⟩, ⟨j1.2.1, by omega⟩⟩]
   by_cases j : ((b0 - 224) * 64 + (b1 - 128)) * 64 + (b2 - 128) < 2048 ∨ (55296 ≤ ((b0 - 224) * 64 + (b1 - 128)) * 64 + (b2 - 128) ∧ ((b0 - 224) * 64 + (b1 - 128)) * 64 + (b2 - 128) < 57344)
   ·rw [if_pos j, if_neg (by omega)]; simp
   ·rw [if_neg j, if_pos (by omega), if_neg (by omega)]
    simp; omega
  ·rw [if_neg j1, if_neg (by omega), if_neg (by omega)]; simp
 rw [if_neg k3, if_neg (by omega)]
 by_cases k4 : 240 ≤ b0 ∧ b0 < 248
 ·rw [if_pos k4]
  by_cases j1 : (1 < n ∧ 128 ≤ b1 ∧ b1 < 192) ∧ (2 < n ∧ 128 ≤ b2 ∧ b2 < 192) ∧ (3 < n ∧ 128 ≤ b3 ∧ b3 < 192)
  ·rw [if_pos j1, if_pos ⟨by omega, ⟨j1.1.1, by omega⟩, ⟨j1.2.1.1, by omega⟩, ⟨j1.2.2.1, by omega⟩⟩]
   by_cases j : (((b0 - 240) * 64 + (b1 - 128)) * 64 + (b2 - 128)) * 64 + (b3 - 128) < 65536 ∨ 1114111 < (((b0 - 240) * 64 + (b1 - 128)) * 64 + (b2 - 128)) * 64 + (b3 - 128)
   ·rw [if_pos j, if_neg (by omega)]; simp
   ·rw [if_neg j, if_pos (by omega), if_neg (by omega)]
    simp; omega
  ·rw [if_neg j1, if_neg (by omega)]; simp
 rw [if_neg k4, if_neg (by omega)]; simp

/-- The model's decoder at a place. -/
theorem decode_rune (s : Bs) (i : Nat) (h : i < s.length) : Utf8.decode (sv s) i = (if (rune (s.drop i)).2 < 0 then 65533 else (rune (s.drop i)).2.toNat, (rune (s.drop i)).1) := by
 rw [Lib.decode_at, sv_size, sv_get!, sv_get!, sv_get!, sv_get!]
 have hd := List.drop_eq_getElem_cons h
 have e (k : Nat) : s.getD (i + 1 + k) 0 = (s.drop (i + 1)).getD k 0 := by simp [List.getD_eq_getElem?_getD, List.getElem?_drop]
 have e0 : s.getD i 0 = s[i] := by simp [List.getD_eq_getElem?_getD, List.getElem?_eq_getElem h]
 rw [hd, rune_N, e0, show s.getD (i + 1) 0 = _ from e 0, show s.getD (i + 2) 0 = _ from e 1, show s.getD (i + 3) 0 = _ from e 2,
  show s.length - i = (s.drop (i + 1)).length + 1 by simp; omega]
 exact decodeN_rune _ _ _ _ _ (UInt8.toNat_lt _) (UInt8.toNat_lt _) (UInt8.toNat_lt _) (UInt8.toNat_lt _)

theorem rune_pos (c : UInt8) (r : Bs) : 1 ≤ (rune (c :: r)).1 ∧ (rune (c :: r)).1 ≤ 4 ∧ (rune (c :: r)).1 ≤ r.length + 1 ∧ ((rune (c :: r)).2 < 0 → rune (c :: r) = (1, -1)) ∧ (rune (c :: r)).2 ≤ 1114111 ∧ ((rune (c :: r)).2 = 65533 → (rune (c :: r)).1 = 3) := by
 rw [rune_N]
 have b0 := c.toNat_lt
 unfold runeN
 repeat' split
 all_goals (simp only; refine ⟨by omega, by omega, by omega, ?_, by omega, fun h => by first | omega | trivial⟩)
 all_goals first | (intro h; exfalso; omega) | (intro _; trivial)

theorem validGoD_eq (f : Nat) (s : Bs) (h : s.length ≤ f) : Lib.validGoD f s = (runesF f s).all fun v => decide (0 ≤ v) := by
 induction f generalizing s with
 | zero => rfl
 | succ f ih =>
  cases s with
  | nil => simp [Lib.validGoD, runesF]
  | cons c r =>
   have hp := rune_pos c r
   have e : Lib.decodeL (c :: r) = (if (rune (c :: r)).2 < 0 then 65533 else (rune (c :: r)).2.toNat, (rune (c :: r)).1) := decode_rune (c :: r) 0 (by simp)
   rw [Lib.validGoD, runesF, e]
   simp only [List.all_cons, reduceCtorEq, if_false]
   by_cases hn : (rune (c :: r)).2 < 0
   ·have := hp.2.2.2.1 hn
    rw [this]; simp
   ·rw [if_neg hn]
    have h1 : ¬ ((rune (c :: r)).2.toNat = 65533 ∧ (rune (c :: r)).1 = 1) := by
     rintro ⟨a, b⟩
     have := hp.2.2.2.2.2 (by omega)
     omega
    rw [if_neg h1, ih _ (by simp at h; simp; omega)]
    have : decide (0 ≤ (rune (c :: r)).2) = true := by simp; omega
    rw [this, Bool.true_and]

theorem validD_eq (s : Bs) : Lib.validD s = valid s := validGoD_eq _ _ (Nat.le_refl _)

theorem sv_extract (q : Bs) (i j : Nat) : (sv q).extract i j = sv ((q.take j).drop i) := by
 apply ByteArray.ext
 simp [sv, List.drop_take]
theorem sv_take (q : Bs) (m : Nat) : (sv q).extract 0 m = sv (q.take m) := by rw [sv_extract]; rfl
theorem sv_drop (q : Bs) (m : Nat) : (sv q).extract m (sv q).size = sv (q.drop m) := by rw [sv_extract, sv_size, List.take_length]

theorem runesF_any (f : Nat) : ∀ (g : Nat) (q : Bs), q.length ≤ f → q.length ≤ g → runesF f q = runesF g q := by
 induction f with
 | zero =>
  intro g q h _
  obtain rfl := List.length_eq_zero_iff.1 (Nat.le_zero.1 h)
  cases g <;> rfl
 | succ f ih =>
  intro g q h hg
  cases q with
  | nil => cases g <;> rfl
  | cons c r =>
   cases g with
   | zero => simp at hg
   | succ g =>
    have hp := rune_pos c r
    rw [runesF, runesF, ih g _ (by simp at h; simp; omega) (by simp at hg; simp; omega)]

theorem runes_cons (c : UInt8) (r : Bs) : runes (c :: r) = (rune (c :: r)).2 :: runes ((c :: r).drop (rune (c :: r)).1) := by
 have hp := rune_pos c r
 unfold runes
 rw [List.length_cons, runesF, runesF_any _ _ _ (by simp; omega) (Nat.le_refl _)]

theorem more_take {k : Nat} : ∀ {v u : Nat} {r : Bs}, more k v r = some u → more k v (r.take k) = some u := by
 induction k with
 | zero => intro v u r h; simpa [more] using h
 | succ k ih =>
  intro v u r h
  cases r with
  | nil => simp [more] at h
  | cons c r =>
   simp only [more, List.take_succ_cons] at h ⊢
   split at h
   ·rename_i hc; rw [if_pos hc]; exact ih h
   ·cases h

/-- A rune's own bytes are that rune. -/
theorem rune_take {c : UInt8} {r : Bs} (h : 0 ≤ (rune (c :: r)).2) : rune ((c :: r).take (rune (c :: r)).1) = rune (c :: r) := by
 have key : ∀ (m least v0 : Nat), 2 ≤ m → (∀ t : Bs, rune (c :: t) = match more (m - 1) v0 t with
   | none => (1, -1)
   | some v => if v < least ∨ 1114111 < v ∨ (55296 ≤ v ∧ v < 57344) then (1, -1) else (m, (v : Int))) → rune ((c :: r).take (rune (c :: r)).1) = rune (c :: r) := by
  intro m least v0 hm ht
  have h1 := ht r
  cases hq : more (m - 1) v0 r with
  | none => rw [hq] at h1; rw [h1] at h; simp at h
  | some u =>
   rw [hq] at h1
   simp only at h1
   split at h1
   ·rw [h1] at h; simp at h
   ·rename_i hg
    have e : (c :: r).take (rune (c :: r)).1 = c :: r.take (m - 1) := by
     rw [h1]
     obtain ⟨k, rfl⟩ : ∃ k, m = k + 1 := ⟨m - 1, by omega⟩
     rfl
    rw [e, ht, more_take hq, h1]
    simp only [if_neg hg]
 have b0 := c.toNat_lt
 by_cases h1 : c.toNat < 128
 ·have e (t : Bs) : rune (c :: t) = (1, (c.toNat : Int)) := by simp [rune, h1]
  rw [e r]; exact e _
 by_cases h2 : 192 ≤ c.toNat ∧ c.toNat < 224
 ·refine key 2 128 (c.toNat - 192) (by omega) fun t => ?_
  simp only [rune, h1, if_false, h2, and_self, if_true]
  rfl
 by_cases h3 : 224 ≤ c.toNat ∧ c.toNat < 240
 ·refine key 3 2048 (c.toNat - 224) (by omega) fun t => ?_
  simp only [rune, h1, if_false, h2, h3, and_self, if_true]
  rfl
 by_cases h4 : 240 ≤ c.toNat ∧ c.toNat < 248
 ·refine key 4 65536 (c.toNat - 240) (by omega) fun t => ?_
  simp only [rune, h1, if_false, h2, h3, h4, and_self, if_true]
  rfl
 ·have e : rune (c :: r) = (1, -1) := by simp only [rune, h1, if_false, h2, h3, h4]
  rw [e] at h; simp at h

end Go.Proofs.YtpmlmpibpmoclaaGreatDoor
