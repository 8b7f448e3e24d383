/-
  Contracts of the reference's Load and Same.
-/
import Derived.Test.YtpmlmpibpmoclaaRefV
namespace Go.Proofs.Ytpmlmpibpmoclaa
open Go.RowKit

set_option maxHeartbeats 1000000 in
theorem refload_no (rb : Nat) (x : Value) (S : List Fl) (Y : Nat → Prop) (w : World) (h : Sl Y w x S) (hlen : S.length ≤ 4611686018427387904) (hw : ∀ p ∈ S, p.2.size ≤ 9223372036854775807) (hf : okF S = false) :
    Calls Try.prog 17 #[.pointer (some ⟨rb, 0, none⟩), x] w fun e w' => e = .returned (.int .i64 21) ∧ Ext (fun _ => False) w w' := by
  have hfit := fit_any x S Y w h hlen hw
  rw [← fitN_no hf] at hfit
  go_enter Try.func17, Try.ntmps17
  go_wp2_with (go_at_call 28; refine hfit.mono ?_; rintro e w1 ⟨rfl, hx⟩)
  go_ret
  exact ⟨rfl, hx⟩

set_option maxHeartbeats 1000000 in
theorem refload_yes (rb : Nat) (x y : Value) (S : List Fl) (Y : Nat → Prop) (w : World) (hb : w.heap[rb]? = some (.cells #[y] 28 (0, 0))) (hy : ∀ s, y ≠ .string s) (h : Sl Y w x S) (hlen : S.length ≤ 4398046511104) (hw : ∀ p ∈ S, p.2.size ≤ 9223372036854775807) (hf : okF S = true) :
    Calls Try.prog 17 #[.pointer (some ⟨rb, 0, none⟩), x] w fun e w' => e = .returned (.int .i64 0) ∧ RT w' rb S ∧ Ext (fun i => i = rb) w w' := by
  have hfit := fit_any x S Y w h (by omega) hw
  rw [← fitN_yes hf] at hfit
  have hlt := (Array.getElem?_eq_some_iff.1 hb).1
  have c0 := RT.c0 hb
  have f0 := RT.f0 hb
  obtain ⟨ii, hi, hz0, hz1, hz2⟩ := info_parts Try.info44
  have hA : ([] : List Fl).length + S.length ≤ 4398046511104 := by simp; omega
  go_enter Try.func17, Try.ntmps17
  go_wp2_with (first
    | (go_at_call 28; refine hfit.mono ?_; rintro e w1 ⟨rfl, hx⟩; have h1 := h.keep hx (fun _ _ _ h => h))
    | (at_builtin; refine wpList_append_sl rfl (.tmp 12) (.tmp 13) 26 rfl w.heap.size 44 ii _ Try.underlying26 hi hz0 hz1 hz2 rfl _ [] _ S rfl rfl (own_nil _ _) h1 hA hx.size ?_; intro p1 n1 q1 w2 hd1 hx2; have hx7 := Ext.transB (Ext.F hx) hx2; have c6 := hx7.cellB hlt c0; have f6 := (World.frozen?_of_block (w := w) (a := ⟨rb, 0, none⟩) (hx7.block _ hlt (by simpa using hlt))).trans f0)
    | fail)
  go_ret
  have hend := RT.renew hb hx7 hy hd1
  exact ⟨rfl, hend.1, hend.2⟩

/-- File by file. -/
def sameF (A B : List Fl) : Bool := decide (A = B)

theorem ret_bool {a b : Bool} (h : a = b) : Ending.returned (.bool a) = .returned (.bool b) := by rw [h]

theorem sameF_len {A B : List Fl} (h : A.length ≠ B.length) : false = sameF A B := by
  unfold sameF; symm; exact decide_eq_false fun e => h (by rw [e])

theorem sameF_at {A B : List Fl} {n : Nat} (ha : n < A.length) (hb : n < B.length) (h : A[n] ≠ B[n]) : false = sameF A B := by
  unfold sameF; symm; exact decide_eq_false fun e => h (by simp only [e])

theorem sameF_all {A B : List Fl} (hl : A.length = B.length) (h : ∀ n (ha : n < A.length) (hb : n < B.length), A[n] = B[n]) : true = sameF A B := by
  unfold sameF; symm; exact decide_eq_true (List.ext_getElem hl fun n h1 h2 => h n h1 h2)

theorem neq_files (p q : Fl) (w : World) : (binOp .neq 44 (.agg #[.string p.1, .string p.2]) (.agg #[.string q.1, .string q.2])).run Try.prog w = .ok (.bool (decide (p ≠ q))) w := by
  go_simp
  by_cases h1 : p.1 = q.1 <;> by_cases h2 : p.2 = q.2
  · have : p = q := Prod.ext h1 h2
    simp [this]
  · have : p ≠ q := fun e => h2 (by rw [e])
    have h2' : p.2.toList ≠ q.2.toList := fun e => h2 (toList_inj e)
    simp [h2', this]
  · have : p ≠ q := fun e => h1 (by rw [e])
    have h1' : p.1.toList ≠ q.1.toList := fun e => h1 (toList_inj e)
    simp [h1', this]
  · have : p ≠ q := fun e => h1 (by rw [e])
    have h1' : p.1.toList ≠ q.1.toList := fun e => h1 (toList_inj e)
    simp [h1', this]

set_option maxHeartbeats 2000000 in
theorem same_any (x y : Value) (A B : List Fl) (Y Z : Nat → Prop) (w : World) (ha : Sl Y w x A) (hb : Sl Z w y B) (hA : A.length ≤ 4611686018427387904) (hB : B.length ≤ 4611686018427387904) :
    Calls Try.prog 11 #[x, y] w fun e w' => e = .returned (.bool (sameF A B)) ∧ Ext (fun _ => False) w w' := by
  obtain ⟨pa, ca, hxa, hca⟩ : ∃ pa ca, x = .slice pa A.length ca ∧ (∀ n (h : n < A.length), ∃ g o, pa = some ⟨g, o, none⟩ ∧ w.cell? ⟨g, o + n * 2, none⟩ = some (.string A[n].1) ∧ w.cell? ⟨g, o + n * 2 + 1, none⟩ = some (.string A[n].2)) := by
    rcases ha with ⟨rfl, p0, c0, rfl, _⟩ | ⟨g, o, c, rfl, hc, _, hg, ha⟩
    · exact ⟨p0, c0, rfl, fun n h => by simp at h⟩
    · exact ⟨_, c, rfl, fun n h => ⟨g, o, rfl, ha.at0 h, ha.at1 h⟩⟩
  obtain ⟨pb, cb, hxb, hcb⟩ : ∃ pb cb, y = .slice pb B.length cb ∧ (∀ n (h : n < B.length), ∃ g o, pb = some ⟨g, o, none⟩ ∧ w.cell? ⟨g, o + n * 2, none⟩ = some (.string B[n].1) ∧ w.cell? ⟨g, o + n * 2 + 1, none⟩ = some (.string B[n].2)) := by
    rcases hb with ⟨rfl, p0, c0, rfl, _⟩ | ⟨g, o, c, rfl, hc, _, hg, hb⟩
    · exact ⟨p0, c0, rfl, fun n h => by simp at h⟩
    · exact ⟨_, c, rfl, fun n h => ⟨g, o, rfl, hb.at0 h, hb.at1 h⟩⟩
  subst hxa; subst hxb
  by_cases hl : A.length = B.length
  · have hne : ((A.length : Int) != (B.length : Int)) = false := by rw [hl]; simp
    have HL := hid hl
    clear hl
    go_enter Try.func11, Try.ntmps11
    go_wp2
    go_loopw [5] (fun i wr => ∃ n : Nat, n ≤ A.length ∧ i = .int .i64 n ∧ (∀ j (h1 : j < A.length) (h2 : j < B.length), j < n → A[j] = B[j]) ∧ Ext (fun _ => False) w wr) (fun i _ => A.length - (intOf i).toNat)
    case atStart => exact ⟨0, Nat.zero_le _, rfl, fun _ _ _ h => absurd h (by omega), Ext.refl _ _⟩
    case round =>
      obtain ⟨n, hn, rfl, hok, hx⟩ := hrel
      by_cases hlt : n < A.length
      · have hltb : n < B.length := by have := HL.out; omega
        obtain ⟨ga, oa, rfl, a0, a1⟩ := hca n hlt
        obtain ⟨gb, ob, rfl, b0, b1⟩ := hcb n hltb
        have a0' := hx.cellF a0
        have a1' := hx.cellF a1
        have b0' := hx.cellF b0
        have b1' := hx.cellF b1
        have hlt' : (n : Int) < (A.length : Int) := by omega
        have hltb' : (n : Int) < (B.length : Int) := by omega
        clear hca hcb a0 a1 b0 b1
        by_cases he : A[n] = B[n]
        · have hneq : ∀ w, (binOp .neq 44 (.agg #[.string A[n].1, .string A[n].2]) (.agg #[.string B[n].1, .string B[n].2])).run Try.prog w = .ok (.bool false) w := fun w => by
            rw [neq_files, decide_eq_false (fun h => h he)]
          have HE := hid he
          clear he
          go_wp2
          go_quiet (fail)
          go_wp2
          go_roundw
          case rel =>
            refine ⟨n + 1, by omega, by go_num, fun j h1 h2 hj => ?_, hx.of_eq (Ext.drewN _ _ _)⟩
            rcases Nat.lt_succ_iff_lt_or_eq.1 hj with h | h
            · exact hok j h1 h2 h
            · subst h; exact HE.out
          case measure => simp [intOf]; omega
        · have hneq : ∀ w, (binOp .neq 44 (.agg #[.string A[n].1, .string A[n].2]) (.agg #[.string B[n].1, .string B[n].2])).run Try.prog w = .ok (.bool true) w := fun w => by
            rw [neq_files, decide_eq_true he]
          have HE := hid he
          clear he
          go_wp2
          go_quiet (fail)
          go_wp2
          go_ret
          exact ⟨ret_bool (sameF_at hlt hltb HE.out), hx.of_eq (Ext.drewN _ _ _)⟩
      · have hall : true = sameF A B := sameF_all HL.out fun j h1 h2 => hok j h1 h2 (by omega)
        have hge : ¬ (n : Int) < (A.length : Int) := by omega
        have H := hid hall
        clear hall
        go_wp2
        go_ret
        exact ⟨ret_bool H.out, hx⟩
  · have hne : ((A.length : Int) != (B.length : Int)) = true := bne_iff_ne.2 (by omega)
    have H := hid (sameF_len hl)
    clear hl
    go_enter Try.func11, Try.ntmps11
    go_wp2
    go_ret
    exact ⟨ret_bool H.out, Ext.refl _ _⟩

end Go.Proofs.Ytpmlmpibpmoclaa
