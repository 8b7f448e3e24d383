/-
  What the reference does besides: contracts of Remove, Fit, Load, Same.
-/
import Derived.Test.YtpmlmpibpmoclaaRefW
namespace Go.Proofs.Ytpmlmpibpmoclaa
open Go.RowKit

set_option maxHeartbeats 2000000 in
theorem refremove_any (rb : Nat) (S : List Fl) (k : ByteArray) (w : World) (h : RT w rb S) (hS : Rising S) (hlen : S.length ≤ 4398046511104) :
    Calls Try.prog 23 #[.pointer (some ⟨rb, 0, none⟩), .string k] w fun e w' => e = .returned (.bool (hit S k)) ∧ RT w' rb (del S k) ∧ Ext (fun i => i = rb) w w' := by
  have hf := find_any rb S k w h (by omega)
  have hlt := h.lt
  have hit_dec : decide (∃ h : idx S k < S.length, S[idx S k].1 = k) = hit S k := by
    cases hh : hit S k
    · exact decide_eq_false fun h => by rw [(hit_iff hS).2 h] at hh; cases hh
    · exact decide_eq_true ((hit_iff hS).1 hh)
  rw [hit_dec] at hf
  cases hh : hit S k
  · have hd : del S k = S := by unfold del; rw [hh]; rfl
    rw [hd]
    rw [hh] at hf
    clear hit_dec hd hh
    go_enter Try.func23, Try.ntmps23
    go_wp2_with (go_at_call 27; refine hf.mono ?_; rintro e w1 ⟨rfl, hx⟩)
    go_ret
    exact ⟨rfl, h.keep hx id (fun _ h => h.elim), hx.F⟩
  · obtain ⟨x, hb, hs0⟩ := h
    have hs : Sl (fun g => g < w.heap.size) w x S := hs0.mono fun g hg _ => hg
    have hns := slice_no_string hs
    have c0 := RT.c0 hb
    have f0 := RT.f0 hb
    have hle := idx_le S k
    obtain ⟨hk1, _⟩ := (hit_iff hS).1 hh
    obtain ⟨ii, hi, hz0, hz1, hz2⟩ := info_parts Try.info44
    obtain ⟨x1, hr1, hs1⟩ := hs.runTake (P := Try.prog) Try.underlying26 hi hle
    obtain ⟨x2, hr2, hs2⟩ := hs.runDrop (P := Try.prog) Try.underlying26 hi hz1 (k := idx S k + 1) hk1
    have hdel : del S k = ([] ++ S.take (idx S k)) ++ S.drop (idx S k + 1) := by unfold del; rw [hh]; simp
    rw [hdel]
    rw [hh] at hf
    have hA : ([] : List Fl).length + (S.take (idx S k)).length ≤ 4398046511104 := by rw [List.length_take]; simp; omega
    have hB : ([] ++ S.take (idx S k)).length + (S.drop (idx S k + 1)).length ≤ 4398046511104 := by simp; omega
    clear hdel hit_dec hh
    generalize S.take (idx S k) = S1 at *
    generalize S.drop (idx S k + 1) = S2 at *
    generalize idx S k = n at *
    push_cast at hr2
    go_enter Try.func23, Try.ntmps23
    go_wp2_with (first
      | (go_at_call 27; refine hf.mono ?_; rintro e w1 ⟨rfl, hx⟩; have c1 := hx.cellF c0; have hs1' := hs1.keep hx (fun _ _ _ h => h))
      | (at_builtin; refine wpList_append_sl rfl (.tmp 15) (.tmp 21) 26 rfl w.heap.size 44 ii _ Try.underlying26 hi hz0 hz1 hz2 rfl _ [] _ S1 rfl rfl (own_nil _ _) hs1' hA hx.size ?_; intro p1 n1 q1 w2 hd1 hx2; have hx5 := Ext.transB (Ext.F hx) hx2; have c4 := hx5.cellB hlt c0; have hs2' := hs2.keepB hx5)
      | (at_builtin; refine wpList_append_sl rfl (.tmp 24) (.tmp 31) 26 rfl w.heap.size 44 ii _ Try.underlying26 hi hz0 hz1 hz2 rfl _ _ _ S2 rfl rfl hd1 hs2' hB hx5.size ?_; intro p3 n3 q3 w6 hd3 hx6; have hx7 := hx5.transB hx6; have c6 := hx7.cellB hlt c0; have f6 := (World.frozen?_of_block (w := w) (a := ⟨rb, 0, none⟩) (hx7.block _ hlt (by simpa using hlt))).trans f0)
      | fail)
    go_ret
    have hend := RT.renew hb hx7 hns hd3
    exact ⟨rfl, hend.1, hend.2⟩

/-! ### does Load take the files? -/

def okAt (S : List Fl) (i : Nat) : Bool := (i == 0 || plt (S.getD (i - 1) default).1 (S.getD i default).1) && decide ((S.getD i default).2.size ≤ 65536)
def okF (S : List Fl) : Bool := (List.range S.length).all (okAt S)

/-- What Fit answers. -/
def fitN (S : List Fl) : Int := if okF S = true then 0 else 21
theorem fitN_yes {S : List Fl} (h : okF S = true) : 0 = fitN S := by unfold fitN; rw [if_pos h]
theorem fitN_no {S : List Fl} (h : okF S = false) : 21 = fitN S := by unfold fitN; rw [h]; rfl
theorem ret_int {a b : Int} (h : a = b) : Ending.returned (.int .i64 a) = .returned (.int .i64 b) := by rw [h]

theorem okF_of {S : List Fl} (h : ∀ i, i < S.length → okAt S i = true) : okF S = true := by
  unfold okF; rw [List.all_eq_true]; intro i hi; exact h i (List.mem_range.1 hi)
theorem okF_not {S : List Fl} {i : Nat} (hi : i < S.length) (h : okAt S i = false) : okF S = false := by
  unfold okF; rw [List.all_eq_false]; exact ⟨i, List.mem_range.2 hi, by rw [h]; simp⟩
theorem okF_at {S : List Fl} (h : okF S = true) {i : Nat} (hi : i < S.length) : okAt S i = true := by
  unfold okF at h; rw [List.all_eq_true] at h; exact h i (List.mem_range.2 hi)

theorem getD_lt {S : List Fl} {i : Nat} (h : i < S.length) : S.getD i default = S[i] := by simp [List.getD, h]

theorem okF_fits {S : List Fl} (h : okF S = true) : fits S := by
  constructor
  · refine rising_of_next fun i h1 => ?_
    have := okF_at h h1
    unfold okAt at this
    simp only [Nat.add_sub_cancel, getD_lt h1, getD_lt (Nat.lt_of_succ_lt h1)] at this
    simp at this
    exact this.1
  · intro p hp
    obtain ⟨i, hi, rfl⟩ := List.mem_iff_getElem.1 hp
    have := okF_at h hi
    unfold okAt at this
    rw [getD_lt hi] at this
    simp at this
    exact this.2

theorem okAt_zero {S : List Fl} {n : Nat} (hlt : n < S.length) (h0 : n = 0) (hb : S[n].2.size ≤ 65536) : Hid (okAt S n = true) := by
  show okAt S n = true
  unfold okAt; rw [getD_lt hlt]; subst h0; simp [hb]
theorem okAt_big {S : List Fl} {n : Nat} (hlt : n < S.length) (hb : ¬ S[n].2.size ≤ 65536) : Hid (okAt S n = false) := by
  show okAt S n = false
  unfold okAt; rw [getD_lt hlt, decide_eq_false hb]; simp
theorem okAt_not {S : List Fl} {n : Nat} (hlt : n < S.length) (h1 : n - 1 < S.length) (h0 : n ≠ 0) (hp : plt S[n - 1].1 S[n].1 = false) : Hid (okAt S n = false) := by
  show okAt S n = false
  unfold okAt; rw [getD_lt hlt, getD_lt h1, hp]; simp [h0]
theorem okAt_yes {S : List Fl} {n : Nat} (hlt : n < S.length) (h1 : n - 1 < S.length) (hp : plt S[n - 1].1 S[n].1 = true) (hb : S[n].2.size ≤ 65536) : Hid (okAt S n = true) := by
  show okAt S n = true
  unfold okAt; rw [getD_lt hlt, getD_lt h1, hp]; simp [hb]

set_option maxHeartbeats 2000000 in
theorem fit_any (x : Value) (S : List Fl) (Y : Nat → Prop) (w : World) (h : Sl Y w x S) (hlen : S.length ≤ 4611686018427387904) (hw : ∀ p ∈ S, p.2.size ≤ 9223372036854775807) :
    Calls Try.prog 28 #[x] w fun e w' => e = .returned (.int .i64 (fitN S)) ∧ Ext (fun _ => False) w w' := by
  rcases h with ⟨rfl, p0, c0, rfl, _⟩ | ⟨g, o, c, rfl, hc, hy, hg, ha⟩
  · go_enter Try.func28, Try.ntmps28
    go_wp2
    go_loop [3] (fun i => i = .int .i64 0) (fun _ => 0)
    case atStart => rfl
    case round =>
      subst hrel
      go_wp2
      go_ret
      exact ⟨ret_int (fitN_yes rfl), Ext.refl _ _⟩
  · go_enter Try.func28, Try.ntmps28
    go_wp2
    go_loopw [3] (fun i wr => ∃ n : Nat, n ≤ S.length ∧ i = .int .i64 n ∧ (∀ j, j < n → okAt S j = true) ∧ Ext (fun _ => False) w wr) (fun i _ => S.length - (intOf i).toNat)
    case atStart => exact ⟨0, Nat.zero_le _, rfl, fun _ h => absurd h (by omega), Ext.refl _ _⟩
    case round =>
      obtain ⟨n, hn, rfl, hok, hx⟩ := hrel
      by_cases hlt : n < S.length
      · have c0 := hx.cellF (ha.at0 hlt)
        have c1 := hx.cellF (ha.at1 hlt)
        have hsz := hw _ (List.getElem_mem hlt)
        have hlt' : (n : Int) < (S.length : Int) := by omega
        by_cases h0 : n = 0
        · have h0' : decide (0 < n) = false := by simp [h0]
          by_cases hb : S[n].2.size ≤ 65536
          · have hb' : ¬ (65536 : Int) < (S[n].2.size : Int) := by omega
            have H : Hid (okAt S n = true) := okAt_zero hlt h0 hb
            clear h0 hb
            go_wp2
            go_quiet (fail)
            go_wp2
            go_roundw
            case rel => exact ⟨n + 1, by omega, by go_num, fun j hj => by rcases Nat.lt_succ_iff_lt_or_eq.1 hj with h | h; exact hok j h; subst h; exact H.out, hx.of_eq (Ext.drewN _ _ _)⟩
            case measure => simp [intOf]; omega
          · have hb' : (65536 : Int) < (S[n].2.size : Int) := by omega
            have H : Hid (okAt S n = false) := okAt_big hlt hb
            clear h0 hb
            go_wp2
            go_quiet (fail)
            go_wp2
            go_ret
            exact ⟨ret_int (fitN_no (okF_not hlt H.out)), hx.of_eq (Ext.drewN _ _ _)⟩
        · have h0' : decide (0 < n) = true := by simp; omega
          have hlt1 : n - 1 < S.length := by omega
          have c2 := hx.cellF (ha.at0 hlt1)
          have hz : (0 : Int) ≤ (n : Int) - 1 := by omega
          have hz' : (n : Int) - 1 < (S.length : Int) := by omega
          cases hp : plt S[n - 1].1 S[n].1
          · have hp' : Op.bytesLess S[n - 1].1.toList S[n].1.toList = false := hp
            have H : Hid (okAt S n = false) := okAt_not hlt hlt1 h0 hp
            clear h0 hp
            go_wp2
            go_quiet (fail)
            go_wp2
            go_ret
            exact ⟨ret_int (fitN_no (okF_not hlt H.out)), hx.of_eq (Ext.drewN _ _ _)⟩
          · have hp' : Op.bytesLess S[n - 1].1.toList S[n].1.toList = true := hp
            by_cases hb : S[n].2.size ≤ 65536
            · have hb' : ¬ (65536 : Int) < (S[n].2.size : Int) := by omega
              have H : Hid (okAt S n = true) := okAt_yes hlt hlt1 hp hb
              clear h0 hp hb
              go_wp2
              go_quiet (fail)
              go_wp2
              go_roundw
              case rel => exact ⟨n + 1, by omega, by go_num, fun j hj => by rcases Nat.lt_succ_iff_lt_or_eq.1 hj with h | h; exact hok j h; subst h; exact H.out, hx.of_eq (Ext.drewN _ _ _)⟩
              case measure => simp [intOf]; omega
            · have hb' : (65536 : Int) < (S[n].2.size : Int) := by omega
              have H : Hid (okAt S n = false) := okAt_big hlt hb
              clear h0 hp hb
              go_wp2
              go_quiet (fail)
              go_wp2
              go_ret
              exact ⟨ret_int (fitN_no (okF_not hlt H.out)), hx.of_eq (Ext.drewN _ _ _)⟩
      · have hall : okF S = true := okF_of fun i hi => hok i (by omega)
        have H := hid hall
        clear hall
        go_wp2
        go_ret
        exact ⟨ret_int (fitN_yes H.out), hx⟩

end Go.Proofs.Ytpmlmpibpmoclaa
