/-
  The document's answer on runes: letters, the head of a text.
-/
import Derived.Test.YtpmlmpibpmoclaaGreatDoorW1
namespace Go.Proofs.YtpmlmpibpmoclaaGreatDoor
set_option linter.all false
set_option maxRecDepth 20000
set_option maxHeartbeats 4000000
open Go.RowKit

theorem ret_b {a b : Bool} (h : a = b) : Ending.returned (.bool a) = .returned (.bool b) := by rw [h]

theorem letter_any (r : Int) (w : World) : Calls Tryz.prog 168 #[.int .i64 r] w fun e w' => e = .returned (.bool (letter r)) ∧ w' = w := by
 go_enter Tryz.func168, Tryz.ntmps168
 go_wp2
 all_goals
  go_ret
  refine ⟨ret_b ?_, rfl⟩
  unfold letter
  repeat' split
  all_goals first | rfl | (simp; omega) | (exfalso; omega) | (simp_all; done) | (by_cases h1 : r = 215 <;> by_cases h2 : r = 247 <;> by_cases h3 : r = 930 <;> simp_all)

theorem sv_get (s : Bs) (i : Nat) (h : i < (sv s).size) : (sv s)[i]'h = s[i]'(by rw [sv_size] at h; exact h) := by
 simp [sv]; rfl

/-- What Head answers: a rune that is there, or 1 and -1. -/
def HeadP (s : Bs) (w : World) (e : Ending) (w' : World) : Prop :=
 ∃ (m : Nat) (v : Int), e = .returned (.tuple #[.int .i64 m, .int .i64 v]) ∧ (0 ≤ v → rune s = (m, v)) ∧ (v < 0 → m = 1 ∧ v = -1) ∧ w' = w
theorem HeadP.no (s : Bs) (w : World) : HeadP s w (.returned (.tuple #[.int .i64 1, .int .i64 (-1)])) w := ⟨1, -1, rfl, by omega, by omega, rfl⟩
theorem HeadP.yes {s : Bs} {w : World} {m : Nat} {v : Int} (h : rune s = (m, v)) (hv : 0 ≤ v) : HeadP s w (.returned (.tuple #[.int .i64 m, .int .i64 v])) w := ⟨m, v, rfl, fun _ => h, by omega, rfl⟩

theorem rune_wide {c : UInt8} {r : Bs} {m least b : Nat} {u : Nat} (h1 : ¬ c.toNat < 128)
  (hp : (if 192 ≤ c.toNat ∧ c.toNat < 224 then some (2, 128, c.toNat - 192) else if 224 ≤ c.toNat ∧ c.toNat < 240 then some (3, 2048, c.toNat - 224) else if 240 ≤ c.toNat ∧ c.toNat < 248 then some (4, 65536, c.toNat - 240) else none : Option (Nat × Nat × Nat)) = some (m, least, c.toNat - b))
  (hm : more (m - 1) (c.toNat - b) r = some u) (hg : ¬ (u < least ∨ 1114111 < u ∨ (55296 ≤ u ∧ u < 57344))) : rune (c :: r) = (m, (u : Int)) := by
 unfold rune
 simp only [h1, if_false]
 rw [hp]
 simp only [hm, hg, if_false]

theorem head_asc (c : UInt8) (r : Bs) (w : World) (h1 : c.toNat < 128) : Calls Tryz.prog 151 #[.string (sv (c :: r))] w (HeadP (c :: r) w) := by
 have hsz := sv_size (c :: r)
 have h0 : 0 < (sv (c :: r)).size := by rw [hsz]; simp
 have hb : (sv (c :: r))[0]'h0 = c := sv_get _ _ _
 have hw : wrap64 (c.toNat : Int) = c.toNat := IntWalk.wrap64_in _ (by have := c.toNat_lt; omega)
 have h1' : (c.toNat : Int) < 128 := by omega
 have e := hid (show rune (c :: r) = (1, (c.toNat : Int)) by simp [rune, h1])
 clear hsz h1
 go_enter Tryz.func151, Tryz.ntmps151
 go_wp2
 go_ret2
 exact .yes e.out (by omega)

theorem head_none (c : UInt8) (r : Bs) (w : World) (h1 : ¬ c.toNat < 128) (h2 : ¬ (192 ≤ c.toNat ∧ c.toNat < 248)) : Calls Tryz.prog 151 #[.string (sv (c :: r))] w (HeadP (c :: r) w) := by
 have hsz := sv_size (c :: r)
 have h0 : 0 < (sv (c :: r)).size := by rw [hsz]; simp
 have hb : (sv (c :: r))[0]'h0 = c := sv_get _ _ _
 have hw : wrap64 (c.toNat : Int) = c.toNat := IntWalk.wrap64_in _ (by have := c.toNat_lt; omega)
 have h1' : ¬ (c.toNat : Int) < 128 := by omega
 by_cases h5 : c.toNat < 192
 ·have a1 : ¬ (192 : Int) ≤ c.toNat := by omega
  have a2 : ¬ (224 : Int) ≤ c.toNat := by omega
  have a3 : ¬ (240 : Int) ≤ c.toNat := by omega
  clear hsz h1 h2 h5
  go_enter Tryz.func151, Tryz.ntmps151
  go_wp2
  go_ret2
  exact .no _ _
 ·have a1 : ¬ (c.toNat : Int) < 224 := by omega
  have a2 : ¬ (c.toNat : Int) < 240 := by omega
  have a3 : ¬ (c.toNat : Int) < 248 := by omega
  have a4 : (192 : Int) ≤ c.toNat := by omega
  have a5 : (224 : Int) ≤ c.toNat := by omega
  have a6 : (240 : Int) ≤ c.toNat := by omega
  clear hsz h1 h2 h5
  go_enter Tryz.func151, Tryz.ntmps151
  go_wp2
  go_ret2
  exact .no _ _

theorem head_2 (c : UInt8) (r : Bs) (w : World) (hl : (c :: r).length ≤ 9223372036854775807) (h2 : 192 ≤ c.toNat ∧ c.toNat < 224) : Calls Tryz.prog 151 #[.string (sv (c :: r))] w (HeadP (c :: r) w) := by
 have hsz := sv_size (c :: r)
 have h0 : 0 < (sv (c :: r)).size := by rw [hsz]; simp
 have hb : (sv (c :: r))[0]'h0 = c := sv_get _ _ _
 have hc := c.toNat_lt
 have hwh := hid (show wrap64 (c.toNat : Int) = c.toNat from IntWalk.wrap64_in _ (by omega))
 have h1' : ¬ (c.toNat : Int) < 128 := by omega
 have a1 : (192 : Int) ≤ c.toNat := by omega
 have a2 : (c.toNat : Int) < 224 := by omega
 have hw0h := hid (show wrap64 ((c.toNat : Int) - 192) = (c.toNat : Int) - 192 from IntWalk.wrap64_in _ (by omega))
 by_cases hlen : r.length < 1
 ·have hs1 : ((sv (c :: r)).size : Int) < 2 := by rw [hsz]; simp; omega
  clear hlen h2 hsz hl
  have hw := hwh.out
  have hw0 := hw0h.out
  go_enter Tryz.func151, Tryz.ntmps151
  go_wp2
  go_ret2
  exact .no _ _
 have hs1 : ¬ ((sv (c :: r)).size : Int) < 2 := by rw [hsz]; simp; omega
 have hr := hid (fun (u : Nat) (hm : more 1 (c.toNat - 192) r = some u) (hg : ¬ (u < 128 ∨ 1114111 < u ∨ (55296 ≤ u ∧ u < 57344))) => rune_wide (m := 2) (least := 128) (b := 192) (by omega) (by
  repeat' split
  all_goals first | rfl | (exfalso; omega)) hm hg)
 have H := hid (show sv (c :: r) = sv (c :: r) ∧ r.length + 1 = (sv (c :: r)).size ∧ ¬ r.length < 1 ∧ 192 ≤ c.toNat ∧ c.toNat < 224 from ⟨rfl, by rw [hsz]; simp, hlen, h2⟩)
 clear hsz hlen h2
 have hw := hwh.out
 have hw0 := hw0h.out
 clear hwh hw0h
 go_enter Tryz.func151, Tryz.ntmps151
 go_wp2
 clear hw hw0
 go_loop [7, 8, 9] (fun v i _ => ∃ j u : Nat, 1 ≤ j ∧ j ≤ 2 ∧ i = .int .i64 j ∧ v = .int .i64 u ∧ Hid ((j = 1 → u < 32) ∧ (j = 2 → u < 2048)) ∧ Hid (more 1 (c.toNat - 192) r = more (2 - j) u (r.drop (j - 1)))) (fun _ i _ => 2 - (intOf i).toNat)
 case atStart =>
  obtain ⟨_, _, _, h2, h3⟩ := H.out
  exact ⟨1, c.toNat - 192, by decide, by decide, rfl, by congr 1; omega, hid (by omega), hid rfl⟩
 case round =>
  obtain ⟨j, u, hj1, hj2, rfl, rfl, hu, hmo⟩ := hrel
  by_cases hlt : j < 2
  ·obtain ⟨_, hsz, hlen, h2, h3⟩ := H.out
   have hjr : j - 1 < r.length := by omega
   have hji : j < (sv (c :: r)).size := by omega
   obtain ⟨dd, hdd⟩ : ∃ dd, r[j - 1] = dd := ⟨_, rfl⟩
   have hbj : (sv (c :: r))[j]'hji = dd := by
    rw [sv_get, ← hdd]
    obtain ⟨q, rfl⟩ : ∃ q, j = q + 1 := ⟨j - 1, by omega⟩
    simp
   have hdr : r.drop (j - 1) = dd :: r.drop j := by
    rw [List.drop_eq_getElem_cons hjr, hdd]
    congr 2; omega
   have hd := dd.toNat_lt
   have hu0 := hu.out
   have hu1 : (u : Int) < 8388608 := by omega
   have hu3 : (0 : Int) ≤ u := by omega
   have hd1 : (dd.toNat : Int) < 256 := by omega
   have hd2 : (0 : Int) ≤ dd.toNat := by omega
   have hlt' : (j : Int) < 2 := by omega
   have hji' : (j : Int) < ((sv (c :: r)).size : Int) := by omega
   by_cases hc1 : dd.toNat < 128
   ·have b1 : (dd.toNat : Int) < 128 := by omega
    clear hdr hdd hu0 hc1 hsz hlen h2 h3 hmo hu hr H
    go_wp2
    go_ret2
    exact .no _ _
   by_cases hc2 : 192 ≤ dd.toNat
   ·have b1 : ¬ (dd.toNat : Int) < 128 := by omega
    have b2 : (192 : Int) ≤ dd.toNat := by omega
    clear hdr hdd hu0 hc1 hc2 hsz hlen h2 h3 hmo hu hr H
    go_wp2
    go_ret2
    exact .no _ _
   have b1 : ¬ (dd.toNat : Int) < 128 := by omega
   have b2 : ¬ (192 : Int) ≤ dd.toNat := by omega
   have hcc : cont dd = true := by unfold cont; simp; omega
   have hmo2 := hid (show more 1 (c.toNat - 192) r = more (2 - (j + 1)) (u * 64 + (dd.toNat - 128)) (r.drop (j + 1 - 1)) from by
    rw [hmo.out, hdr, show 2 - j = (2 - (j + 1)) + 1 by omega, more, if_pos hcc, Nat.add_sub_cancel])
   have hu2 := hid (show ((j + 1 = 1 → u * 64 + (dd.toNat - 128) < 32) ∧ (j + 1 = 2 → u * 64 + (dd.toNat - 128) < 2048)) by omega)
   have hfin := hid (show (u : Int) * 64 + dd.toNat - 128 = ((u * 64 + (dd.toNat - 128) : Nat) : Int) by omega)
   have hmea := hid (show 2 - (j + 1) < 2 - j by omega)
   clear hdr hdd hu0 hc1 hc2 hsz hlen h2 h3 hmo hu hcc
   go_wp2
   go_round
   case rel => exact ⟨j + 1, u * 64 + (dd.toNat - 128), by omega, by omega, by go_num, by rw [hfin.out], hu2, hmo2⟩
   case measure => simp [intOf]; omega
  ·obtain rfl : j = 2 := by omega
   have hmo2 := hid (show more 1 (c.toNat - 192) r = some u from hmo.out)
   have hu0 := hu.out
   have hu1 : u < 8388608 := by omega
   clear hmo hu hu0
   by_cases hg : u < 128 ∨ 1114111 < u ∨ (55296 ≤ u ∧ u < 57344)
   ·clear hmo2 hr H
    go_wp2
    all_goals
     go_ret2
     first | exact .no _ _ | (exfalso; omega)
   ·have hfin := hid (hr.out u hmo2.out hg)
    clear hmo2 hr H
    go_wp2
    all_goals
     go_ret2
     first | exact .yes hfin.out (by omega) | (exfalso; omega)

theorem head_3 (c : UInt8) (r : Bs) (w : World) (hl : (c :: r).length ≤ 9223372036854775807) (h2 : 224 ≤ c.toNat ∧ c.toNat < 240) : Calls Tryz.prog 151 #[.string (sv (c :: r))] w (HeadP (c :: r) w) := by
 have hsz := sv_size (c :: r)
 have h0 : 0 < (sv (c :: r)).size := by rw [hsz]; simp
 have hb : (sv (c :: r))[0]'h0 = c := sv_get _ _ _
 have hc := c.toNat_lt
 have hwh := hid (show wrap64 (c.toNat : Int) = c.toNat from IntWalk.wrap64_in _ (by omega))
 have h1' : ¬ (c.toNat : Int) < 128 := by omega
 have a1 : (224 : Int) ≤ c.toNat := by omega
 have a2 : (c.toNat : Int) < 240 := by omega
 have a3 : ¬ (c.toNat : Int) < 224 := by omega
 have hw0h := hid (show wrap64 ((c.toNat : Int) - 224) = (c.toNat : Int) - 224 from IntWalk.wrap64_in _ (by omega))
 by_cases hlen : r.length < 2
 ·have hs1 : ((sv (c :: r)).size : Int) < 3 := by rw [hsz]; simp; omega
  clear hlen h2 hsz hl
  have hw := hwh.out
  have hw0 := hw0h.out
  go_enter Tryz.func151, Tryz.ntmps151
  go_wp2
  go_ret2
  exact .no _ _
 have hs1 : ¬ ((sv (c :: r)).size : Int) < 3 := by rw [hsz]; simp; omega
 have hr := hid (fun (u : Nat) (hm : more 2 (c.toNat - 224) r = some u) (hg : ¬ (u < 2048 ∨ 1114111 < u ∨ (55296 ≤ u ∧ u < 57344))) => rune_wide (m := 3) (least := 2048) (b := 224) (by omega) (by
  repeat' split
  all_goals first | rfl | (exfalso; omega)) hm hg)
 have H := hid (show sv (c :: r) = sv (c :: r) ∧ r.length + 1 = (sv (c :: r)).size ∧ ¬ r.length < 2 ∧ 224 ≤ c.toNat ∧ c.toNat < 240 from ⟨rfl, by rw [hsz]; simp, hlen, h2⟩)
 clear hsz hlen h2
 have hw := hwh.out
 have hw0 := hw0h.out
 clear hwh hw0h
 go_enter Tryz.func151, Tryz.ntmps151
 go_wp2
 clear hw hw0
 go_loop [7, 8, 9] (fun v i _ => ∃ j u : Nat, 1 ≤ j ∧ j ≤ 3 ∧ i = .int .i64 j ∧ v = .int .i64 u ∧ Hid ((j = 1 → u < 32) ∧ (j = 2 → u < 2048) ∧ (j = 3 → u < 131072)) ∧ Hid (more 2 (c.toNat - 224) r = more (3 - j) u (r.drop (j - 1)))) (fun _ i _ => 3 - (intOf i).toNat)
 case atStart =>
  obtain ⟨_, _, _, h2, h3⟩ := H.out
  exact ⟨1, c.toNat - 224, by decide, by decide, rfl, by congr 1; omega, hid (by omega), hid rfl⟩
 case round =>
  obtain ⟨j, u, hj1, hj2, rfl, rfl, hu, hmo⟩ := hrel
  by_cases hlt : j < 3
  ·obtain ⟨_, hsz, hlen, h2, h3⟩ := H.out
   have hjr : j - 1 < r.length := by omega
   have hji : j < (sv (c :: r)).size := by omega
   obtain ⟨dd, hdd⟩ : ∃ dd, r[j - 1] = dd := ⟨_, rfl⟩
   have hbj : (sv (c :: r))[j]'hji = dd := by
    rw [sv_get, ← hdd]
    obtain ⟨q, rfl⟩ : ∃ q, j = q + 1 := ⟨j - 1, by omega⟩
    simp
   have hdr : r.drop (j - 1) = dd :: r.drop j := by
    rw [List.drop_eq_getElem_cons hjr, hdd]
    congr 2; omega
   have hd := dd.toNat_lt
   have hu0 := hu.out
   have hu1 : (u : Int) < 8388608 := by omega
   have hu3 : (0 : Int) ≤ u := by omega
   have hd1 : (dd.toNat : Int) < 256 := by omega
   have hd2 : (0 : Int) ≤ dd.toNat := by omega
   have hlt' : (j : Int) < 3 := by omega
   have hji' : (j : Int) < ((sv (c :: r)).size : Int) := by omega
   by_cases hc1 : dd.toNat < 128
   ·have b1 : (dd.toNat : Int) < 128 := by omega
    clear hdr hdd hu0 hc1 hsz hlen h2 h3 hmo hu hr H
    go_wp2
    go_ret2
    exact .no _ _
   by_cases hc2 : 192 ≤ dd.toNat
   ·have b1 : ¬ (dd.toNat : Int) < 128 := by omega
    have b2 : (192 : Int) ≤ dd.toNat := by omega
    clear hdr hdd hu0 hc1 hc2 hsz hlen h2 h3 hmo hu hr H
    go_wp2
    go_ret2
    exact .no _ _
   have b1 : ¬ (dd.toNat : Int) < 128 := by omega
   have b2 : ¬ (192 : Int) ≤ dd.toNat := by omega
   have hcc : cont dd = true := by unfold cont; simp; omega
   have hmo2 := hid (show more 2 (c.toNat - 224) r = more (3 - (j + 1)) (u * 64 + (dd.toNat - 128)) (r.drop (j + 1 - 1)) from by
    rw [hmo.out, hdr, show 3 - j = (3 - (j + 1)) + 1 by omega, more, if_pos hcc, Nat.add_sub_cancel])
   have hu2 := hid (show ((j + 1 = 1 → u * 64 + (dd.toNat - 128) < 32) ∧ (j + 1 = 2 → u * 64 + (dd.toNat - 128) < 2048) ∧ (j + 1 = 3 → u * 64 + (dd.toNat - 128) < 131072)) by omega)
   have hfin := hid (show (u : Int) * 64 + dd.toNat - 128 = ((u * 64 + (dd.toNat - 128) : Nat) : Int) by omega)
   have hmea := hid (show 3 - (j + 1) < 3 - j by omega)
   clear hdr hdd hu0 hc1 hc2 hsz hlen h2 h3 hmo hu hcc
   go_wp2
   go_round
   case rel => exact ⟨j + 1, u * 64 + (dd.toNat - 128), by omega, by omega, by go_num, by rw [hfin.out], hu2, hmo2⟩
   case measure => simp [intOf]; omega
  ·obtain rfl : j = 3 := by omega
   have hmo2 := hid (show more 2 (c.toNat - 224) r = some u from hmo.out)
   have hu0 := hu.out
   have hu1 : u < 8388608 := by omega
   clear hmo hu hu0
   by_cases hg : u < 2048 ∨ 1114111 < u ∨ (55296 ≤ u ∧ u < 57344)
   ·clear hmo2 hr H
    go_wp2
    all_goals
     go_ret2
     first | exact .no _ _ | (exfalso; omega)
   ·have hfin := hid (hr.out u hmo2.out hg)
    clear hmo2 hr H
    go_wp2
    all_goals
     go_ret2
     first | exact .yes hfin.out (by omega) | (exfalso; omega)

theorem head_4 (c : UInt8) (r : Bs) (w : World) (hl : (c :: r).length ≤ 9223372036854775807) (h2 : 240 ≤ c.toNat ∧ c.toNat < 248) : Calls Tryz.prog 151 #[.string (sv (c :: r))] w (HeadP (c :: r) w) := by
 have hsz := sv_size (c :: r)
 have h0 : 0 < (sv (c :: r)).size := by rw [hsz]; simp
 have hb : (sv (c :: r))[0]'h0 = c := sv_get _ _ _
 have hc := c.toNat_lt
 have hwh := hid (show wrap64 (c.toNat : Int) = c.toNat from IntWalk.wrap64_in _ (by omega))
 have h1' : ¬ (c.toNat : Int) < 128 := by omega
 have a1 : (240 : Int) ≤ c.toNat := by omega
 have a2 : (c.toNat : Int) < 248 := by omega
 have a3 : ¬ (c.toNat : Int) < 224 := by omega
 have a4 : ¬ (c.toNat : Int) < 240 := by omega
 have hw0h := hid (show wrap64 ((c.toNat : Int) - 240) = (c.toNat : Int) - 240 from IntWalk.wrap64_in _ (by omega))
 by_cases hlen : r.length < 3
 ·have hs1 : ((sv (c :: r)).size : Int) < 4 := by rw [hsz]; simp; omega
  clear hlen h2 hsz hl
  have hw := hwh.out
  have hw0 := hw0h.out
  go_enter Tryz.func151, Tryz.ntmps151
  go_wp2
  go_ret2
  exact .no _ _
 have hs1 : ¬ ((sv (c :: r)).size : Int) < 4 := by rw [hsz]; simp; omega
 have hr := hid (fun (u : Nat) (hm : more 3 (c.toNat - 240) r = some u) (hg : ¬ (u < 65536 ∨ 1114111 < u ∨ (55296 ≤ u ∧ u < 57344))) => rune_wide (m := 4) (least := 65536) (b := 240) (by omega) (by
  repeat' split
  all_goals first | rfl | (exfalso; omega)) hm hg)
 have H := hid (show sv (c :: r) = sv (c :: r) ∧ r.length + 1 = (sv (c :: r)).size ∧ ¬ r.length < 3 ∧ 240 ≤ c.toNat ∧ c.toNat < 248 from ⟨rfl, by rw [hsz]; simp, hlen, h2⟩)
 clear hsz hlen h2
 have hw := hwh.out
 have hw0 := hw0h.out
 clear hwh hw0h
 go_enter Tryz.func151, Tryz.ntmps151
 go_wp2
 clear hw hw0
 go_loop [7, 8, 9] (fun v i _ => ∃ j u : Nat, 1 ≤ j ∧ j ≤ 4 ∧ i = .int .i64 j ∧ v = .int .i64 u ∧ Hid ((j = 1 → u < 32) ∧ (j = 2 → u < 2048) ∧ (j = 3 → u < 131072) ∧ (j = 4 → u < 8388608)) ∧ Hid (more 3 (c.toNat - 240) r = more (4 - j) u (r.drop (j - 1)))) (fun _ i _ => 4 - (intOf i).toNat)
 case atStart =>
  obtain ⟨_, _, _, h2, h3⟩ := H.out
  exact ⟨1, c.toNat - 240, by decide, by decide, rfl, by congr 1; omega, hid (by omega), hid rfl⟩
 case round =>
  obtain ⟨j, u, hj1, hj2, rfl, rfl, hu, hmo⟩ := hrel
  by_cases hlt : j < 4
  ·obtain ⟨_, hsz, hlen, h2, h3⟩ := H.out
   have hjr : j - 1 < r.length := by omega
   have hji : j < (sv (c :: r)).size := by omega
   obtain ⟨dd, hdd⟩ : ∃ dd, r[j - 1] = dd := ⟨_, rfl⟩
   have hbj : (sv (c :: r))[j]'hji = dd := by
    rw [sv_get, ← hdd]
    obtain ⟨q, rfl⟩ : ∃ q, j = q + 1 := ⟨j - 1, by omega⟩
    simp
   have hdr : r.drop (j - 1) = dd :: r.drop j := by
    rw [List.drop_eq_getElem_cons hjr, hdd]
    congr 2; omega
   have hd := dd.toNat_lt
   have hu0 := hu.out
   have hu1 : (u : Int) < 8388608 := by omega
   have hu3 : (0 : Int) ≤ u := by omega
   have hd1 : (dd.toNat : Int) < 256 := by omega
   have hd2 : (0 : Int) ≤ dd.toNat := by omega
   have hlt' : (j : Int) < 4 := by omega
   have hji' : (j : Int) < ((sv (c :: r)).size : Int) := by omega
   by_cases hc1 : dd.toNat < 128
   ·have b1 : (dd.toNat : Int) < 128 := by omega
    clear hdr hdd hu0 hc1 hsz hlen h2 h3 hmo hu hr H
    go_wp2
    go_ret2
    exact .no _ _
   by_cases hc2 : 192 ≤ dd.toNat
   ·have b1 : ¬ (dd.toNat : Int) < 128 := by omega
    have b2 : (192 : Int) ≤ dd.toNat := by omega
    clear hdr hdd hu0 hc1 hc2 hsz hlen h2 h3 hmo hu hr H
    go_wp2
    go_ret2
    exact .no _ _
   have b1 : ¬ (dd.toNat : Int) < 128 := by omega
   have b2 : ¬ (192 : Int) ≤ dd.toNat := by omega
   have hcc : cont dd = true := by unfold cont; simp; omega
   have hmo2 := hid (show more 3 (c.toNat - 240) r = more (4 - (j + 1)) (u * 64 + (dd.toNat - 128)) (r.drop (j + 1 - 1)) from by
    rw [hmo.out, hdr, show 4 - j = (4 - (j + 1)) + 1 by omega, more, if_pos hcc, Nat.add_sub_cancel])
   have hu2 := hid (show ((j + 1 = 1 → u * 64 + (dd.toNat - 128) < 32) ∧ (j + 1 = 2 → u * 64 + (dd.toNat - 128) < 2048) ∧ (j + 1 = 3 → u * 64 + (dd.toNat - 128) < 131072) ∧ (j + 1 = 4 → u * 64 + (dd.toNat - 128) < 8388608)) by omega)
   have hfin := hid (show (u : Int) * 64 + dd.toNat - 128 = ((u * 64 + (dd.toNat - 128) : Nat) : Int) by omega)
   have hmea := hid (show 4 - (j + 1) < 4 - j by omega)
   clear hdr hdd hu0 hc1 hc2 hsz hlen h2 h3 hmo hu hcc
   go_wp2
   go_round
   case rel => exact ⟨j + 1, u * 64 + (dd.toNat - 128), by omega, by omega, by go_num, by rw [hfin.out], hu2, hmo2⟩
   case measure => simp [intOf]; omega
  ·obtain rfl : j = 4 := by omega
   have hmo2 := hid (show more 3 (c.toNat - 240) r = some u from hmo.out)
   have hu0 := hu.out
   have hu1 : u < 8388608 := by omega
   clear hmo hu hu0
   by_cases hg : u < 65536 ∨ 1114111 < u ∨ (55296 ≤ u ∧ u < 57344)
   ·clear hmo2 hr H
    go_wp2
    all_goals
     go_ret2
     first | exact .no _ _ | (exfalso; omega)
   ·have hfin := hid (hr.out u hmo2.out hg)
    clear hmo2 hr H
    go_wp2
    all_goals
     go_ret2
     first | exact .yes hfin.out (by omega) | (exfalso; omega)

theorem head_any (s : Bs) (w : World) (hs : s ≠ []) (hl : s.length ≤ 9223372036854775807) : Calls Tryz.prog 151 #[.string (sv s)] w (HeadP s w) := by
 obtain ⟨c, r, rfl⟩ := List.exists_cons_of_ne_nil hs
 by_cases h1 : c.toNat < 128
 ·exact head_asc c r w h1
 by_cases h2 : 192 ≤ c.toNat ∧ c.toNat < 224
 ·exact head_2 c r w hl h2
 by_cases h3 : 224 ≤ c.toNat ∧ c.toNat < 240
 ·exact head_3 c r w hl h3
 by_cases h4 : 240 ≤ c.toNat ∧ c.toNat < 248
 ·exact head_4 c r w hl h4
 exact head_none c r w h1 (by omega)

end Go.Proofs.YtpmlmpibpmoclaaGreatDoor
