/-
  What the law's 'long' makes: so many zero bytes.
-/
import Derived.Test.YtpmlmpibpmoclaaCopy
namespace Go.Proofs.Ytpmlmpibpmoclaa
open Go.RowKit

def zeros (k : Nat) : ByteArray := (List.replicate k (0 : Int)).foldl (fun r n => r.push (UInt8.ofNat n.toNat)) ByteArray.empty

theorem zeros_size (k : Nat) : (zeros k).size = k := by
  have h : ∀ (l : List Int) (b : ByteArray), (l.foldl (fun r n => r.push (UInt8.ofNat n.toNat)) b).size = b.size + l.length := by
    intro l
    induction l with
    | nil => intro b; simp
    | cons a l ih => intro b; simp only [List.foldl_cons, ih, ByteArray.size_push, List.length_cons]; omega
  unfold zeros
  rw [h]; simp

theorem Try.info5 : (Try.prog.info? 5).map (fun i => (i.zero, i.size, i.bytes)) = some (some (.int .u8 0), 1, 1) := by kernel_rfl

theorem make_zeros (w : World) (k : Nat) (hk : k ≤ 65537) : ∃ w', (Instr.makeSlice 59 (.int .i64 (k : Int)) (.int .i64 (k : Int))).run Try.prog w = .ok (.slice (some ⟨w.heap.size, 0, none⟩) k k) w' ∧
    (convert 59 9 (.slice (some ⟨w.heap.size, 0, none⟩) k k)).run Try.prog w' = .ok (.string (zeros k)) w' ∧ Ext (fun _ => False) w w' := by
  obtain ⟨ii, hi, hz0, hz1, hz2⟩ := info_parts Try.info5
  obtain ⟨w', hrun, hown, hg⟩ := run_make_full (P := Try.prog) w w.heap.size 59 5 ii _ 1 Try.underlying59 hi hz0 hz1 .i64 .i64 k (by rw [hz2]; omega) (by unfold maxLen; omega) (Nat.le_refl _)
  refine ⟨w', hrun, ?_, Ext.grown hg fun _ h => by cases h⟩
  rw [run_convert_bytes_string w' 59 9 5 _ _ _ Try.underlying59 Try.underlying5 Try.underlying9]
  refine run_bytesToString w' _ _ _ (List.replicate k 0) ?_
  rcases hown.2 with ⟨h, _⟩ | ⟨g, cap, cur, hv, _, hb, _, _, hs, ht⟩
  · cases h
  · simp at hv
    obtain ⟨rfl, rfl⟩ := hv
    have := run_loadCells_list (P := Try.prog) (w := w') ⟨w.heap.size, 0, none⟩ ((List.replicate k (0 : Int)).map (Value.int .u8)) (fun j v hj => by
      have hc : cur.toList = (madeCells (Value.int .u8 0).cells (k * 1)).toList := by rw [← ht, List.take_of_length_le (by simp [hs])]
      have hj2 : j < k := by
        have := (List.getElem?_eq_some_iff.1 hj).1
        simpa using this
      have hv : v = .int .u8 0 := by
        rw [List.getElem?_map, List.getElem?_replicate] at hj
        rw [if_pos hj2] at hj
        simpa using hj.symm
      subst hv
      unfold Addr.add
      have hcj : cur[j]? = some (.int .u8 0) := by
        rw [← Array.getElem?_toList, hc, Array.getElem?_toList]
        simp only [madeCells, Array.getElem?_map, Nat.mul_one]
        rw [Array.getElem?_range, if_pos hj2]
        simp [Value.cells, Nat.mod_one]
      split
      · rename_i h0; subst h0; simp [World.cell?, hb, hcj]
      · simp [World.cell?, hb, hcj])
    simpa using this

/-- How many bytes 'long' makes. -/
def longN (n : Int) : Nat := if n ≤ 0 then 0 else if n ≤ 65537 then n.toNat else 65537

theorem longN_le (n : Int) : longN n ≤ 65537 := by
  unfold longN
  split
  · omega
  · split <;> omega

theorem ret_str {a b : ByteArray} (h : a = b) : Ending.returned (.string a) = .returned (.string b) := by rw [h]

set_option maxRecDepth 100000 in
set_option maxHeartbeats 400000 in
theorem long_any (n : Int) (w : World) :
    Calls Try.prog 22 #[.int .i64 n] w fun e w' => e = .returned (.string (zeros (longN n))) ∧ Ext (fun _ => False) w w' := by
  obtain ⟨w1, h1, h2, hx⟩ := make_zeros w (longN n) (longN_le n)
  unfold longN at *
  by_cases hn : n ≤ 0
  · rw [if_pos hn] at *
    have hb1 : ¬ (65537 : Int) < n := by omega
    have hb2 : ¬ (0 : Int) < n := by omega
    change (Instr.makeSlice 59 (.int .i64 0) (.int .i64 0)).run Try.prog w = _ at h1
    go_enter Try.func22, Try.ntmps22
    go_wp2
    go_ret
    exact ⟨rfl, hx⟩
  · rw [if_neg hn] at *
    by_cases hm : n ≤ 65537
    · rw [if_pos hm] at *
      have hb1 : ¬ (65537 : Int) < n := by omega
      have hb2 : (0 : Int) < n := by omega
      obtain ⟨k, rfl⟩ := Int.eq_ofNat_of_zero_le (show 0 ≤ n by omega)
      rw [Int.toNat_natCast] at *
      go_enter Try.func22, Try.ntmps22
      go_wp2
      go_ret
      exact ⟨rfl, hx⟩
    · rw [if_neg hm] at *
      have hb1 : (65537 : Int) < n := by omega
      change (Instr.makeSlice 59 (.int .i64 65537) (.int .i64 65537)).run Try.prog w = _ at h1
      go_enter Try.func22, Try.ntmps22
      go_wp2
      go_ret
      exact ⟨rfl, hx⟩

end Go.Proofs.Ytpmlmpibpmoclaa
