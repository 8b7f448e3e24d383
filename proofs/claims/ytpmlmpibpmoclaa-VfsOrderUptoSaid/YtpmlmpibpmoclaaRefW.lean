/-
  What the reference's table does: contracts of Write and Remove.
-/
import Derived.Test.YtpmlmpibpmoclaaRef
namespace Go.Proofs.Ytpmlmpibpmoclaa
open Go.RowKit

section
variable {P : Program} {w : World} {Y : Nat → Prop}

/-- 'append(d, x...)' at the operation: d is the call's own, x whatever holds the files S. -/
theorem wpList_append_sl {ops : Array Oper} {rest : List Oper} {o : Oper} {a : Act} {Q : Exit → Act → World → Prop} (hgd : o.guard = none) (s x : Operand) (t : TypeId)
    (ho : o.op = .call { callee := .builtin .append, args := #[s, x], argTypes := #[t, t] }) (base : Nat) (e : TypeId) (i : TypeInfo) (z : Value) (ht : P.underlying t = some (.slice e)) (hi : P.info? e = some i)
    (hz : i.zero = some z) (hs : i.size = 2) (hby : i.bytes = 32) (hzs : z.cells.size = 2) (d : Value) (D : List Fl) (v : Value) (S : List Fl) (hsd : a.eval s = d) (hsx : a.eval x = v)
    (hown : w.ownsRow base e 2 d D.length (cellsOf D)) (hsl : Sl Y w v S) (hlen : D.length + S.length ≤ 4398046511104) (hbase : base ≤ w.heap.size)
    (h : ∀ p n c w', w'.ownsRow base e 2 (.slice p n c) (D ++ S).length (cellsOf (D ++ S)) → Ext (fun g => base ≤ g) w w' → wpList P ops Q rest (a.put o.dst (.slice p n c)) w') : wpList P ops Q (o :: rest) a w := by
  refine wpList_plain hgd fun K hK => ?_
  obtain ⟨v', w', hr, h2, h3⟩ := Sl.runAppend hown hsl ht hi hz hs hby hzs o.type hlen hbase
  unfold Oper.wp execOp
  simp only [ho, resolve, invoke, builtin, Sem.run_bind, Sem.run_pure, Result.andThen_ok, List.map_toArray, List.map_cons, List.map_nil, hsd, hsx, hr]
  obtain ⟨p, n, c, rfl⟩ : ∃ p n c, v' = .slice p n c := by
    rcases h2.2 with ⟨h, _⟩ | ⟨_, _, _, h, _⟩
    · exact ⟨_, _, _, h⟩
    · exact ⟨_, _, _, h⟩
  refine hK _ _ (h p n c w' h2 (Ext.grown h3 fun k hk hlt => ?_))
  rcases hown.2 with ⟨rfl, _⟩ | ⟨g, cap, cur, rfl, hg, _⟩
  · cases hk
  · simp [Value.ownBlock] at hk; omega

end

theorem Sl.one (Y : Nat → Prop) (w : World) (k v : ByteArray) (hY : Y w.heap.size) : Sl Y (w.alloc (.cells #[.string k, .string v] 44)) (.slice (some ⟨w.heap.size, 0, none⟩) 1 1) [(k, v)] := by
  refine .inr ⟨w.heap.size, 0, 1, rfl, Nat.le_refl _, hY, by simp, fun j u hj => ?_⟩
  have hb := (MapKept.heap_alloc w (.cells #[.string k, .string v] 44)).1
  simp only [World.cell?, hb, Nat.zero_add]
  simp [cellsOf] at hj
  simpa using hj

/-- A table's cell gets another slice. -/
theorem RT.stored {w : World} {rb : Nat} {v v' : Value} {S : List Fl} (hb : w.heap[rb]? = some (.cells #[v] 28 (0, 0))) (hs : Sl (fun _ => True) w v' S) (hd : Dull w rb) : RT (w.setCell ⟨rb, 0, none⟩ v') rb S := by
  have hlt := (Array.getElem?_eq_some_iff.1 hb).1
  refine ⟨v', ?_, hs.keepDull (X := fun g => g = rb) (Ext.setCell _ _ _ fun _ => rfl) fun g hg => by subst hg; exact hd⟩
  simp only [World.setCell, Array.getElem?_modify, if_pos, hb]
  simp

set_option maxHeartbeats 400000 in
theorem refwrite_long (rb : Nat) (k v : ByteArray) (w : World) (hv : 65536 < v.size) (hm : v.size ≤ 9223372036854775807) :
    Calls Try.prog 15 #[.pointer (some ⟨rb, 0, none⟩), .string k, .string v] w fun e w' => e = .returned (.int .i64 20) ∧ w = w' := by
  have hlt : (65536 : Int) < (v.size : Int) := by omega
  go_enter Try.func15, Try.ntmps15
  go_wp2
  go_ret
  exact ⟨rfl, rfl⟩

theorem Ext.cellB {w w' : World} {base : Nat} (hx : Ext (fun g => base ≤ g) w w') {a : Addr} {v : Value} (hb : a.block < base) (h : w.cell? a = some v) : w'.cell? a = some v := by
  have hlt : a.block < w.heap.size := by
    rcases Nat.lt_or_ge a.block w.heap.size with h1 | h1
    · exact h1
    · have : w.heap[a.block]? = none := Array.getElem?_eq_none h1
      simp [World.cell?, this] at h
  rw [World.cell?_of_block (w := w) (hx.block _ hlt (by omega))]; exact h

theorem Ext.F {X : Nat → Prop} {w w' : World} (hx : Ext (fun _ => False) w w') : Ext X w w' := hx.mono fun _ _ h => h.elim

theorem Ext.transB {a b c : World} {base : Nat} (h : Ext (fun g => base ≤ g) a b) (k : Ext (fun g => base ≤ g) b c) : Ext (fun g => base ≤ g) a c :=
  h.trans (k.mono fun _ _ hx => .inl hx)

theorem Sl.keepB {w w' : World} {base : Nat} {v : Value} {S : List Fl} (h : Sl (fun g => g < base) w v S) (hx : Ext (fun g => base ≤ g) w w') : Sl (fun g => g < base) w' v S :=
  h.keep hx fun g hg _ => by omega

theorem own_alloc {w : World} {base : Nat} {v : Value} {n : Nat} {xs : List Value} (h : w.ownsRow base 44 2 v n xs) (o : Obj) : (w.alloc o).ownsRow base 44 2 v n xs :=
  own_keep h (Ext.alloc (fun _ => False) _ _) fun _ _ _ => id

/-- The end of Write and Remove: the table's cell gets the new slice. -/
theorem RT.renew {w w' : World} {rb : Nat} {x d : Value} {S : List Fl} (hb : w.heap[rb]? = some (.cells #[x] 28 (0, 0))) (hx : Ext (fun g => w.heap.size ≤ g) w w') (hn : ∀ s, x ≠ .string s)
    (ho : w'.ownsRow w.heap.size 44 2 d S.length (cellsOf S)) : RT (w'.setCell ⟨rb, 0, none⟩ d) rb S ∧ Ext (fun i => i = rb) w (w'.setCell ⟨rb, 0, none⟩ d) := by
  have hlt := (Array.getElem?_eq_some_iff.1 hb).1
  have hb' : w'.heap[rb]? = some (.cells #[x] 28 (0, 0)) := (hx.block _ hlt (by omega)).trans hb
  refine ⟨RT.stored hb' ((Sl.ofOwn ho).mono fun _ _ _ => trivial) (dull_cell hb' hn), ?_⟩
  refine Ext.trans (hx.mono (Y := fun i => i = rb) fun k h1 h2 => by omega) (Ext.setCell _ _ _ fun _ => .inl rfl)

theorem slice_no_string {Y : Nat → Prop} {w : World} {v : Value} {S : List Fl} (h : Sl Y w v S) (s : ByteArray) : v ≠ .string s := by
  intro e; subst e
  rcases h with ⟨_, _, _, h, _⟩ | ⟨_, _, _, h, _⟩ <;> cases h

set_option maxHeartbeats 2000000 in
theorem refwrite_short (rb : Nat) (S : List Fl) (k v : ByteArray) (w : World) (h : RT w rb S) (hS : Rising S) (hlen : S.length + 1 ≤ 4398046511104) (hv : v.size ≤ 65536) :
    Calls Try.prog 15 #[.pointer (some ⟨rb, 0, none⟩), .string k, .string v] w fun e w' => e = .returned (.int .i64 0) ∧ RT w' rb (ins S k v) ∧ Ext (fun i => i = rb) w w' := by
  have hf := find_any rb S k w h (by omega)
  have hlt := h.lt
  obtain ⟨x, hb, hs0⟩ := h
  have hs : Sl (fun g => g < w.heap.size) w x S := hs0.mono fun g hg _ => hg
  have hns := slice_no_string hs
  have c0 := RT.c0 hb
  have f0 := RT.f0 hb
  have hnv : ¬ (65536 : Int) < (v.size : Int) := by omega
  have hle := idx_le S k
  obtain ⟨ii, hi, hz0, hz1, hz2⟩ := info_parts Try.info44
  obtain ⟨x1, hr1, hs1⟩ := hs.runTake (P := Try.prog) Try.underlying26 hi hle
  have hlast : idx S k + (if hit S k then 1 else 0) ≤ S.length := by
    by_cases hh : hit S k = true
    · rw [if_pos hh]; obtain ⟨h1, _⟩ := (hit_iff hS).1 hh; omega
    · rw [if_neg hh]; omega
  obtain ⟨x2, hr2, hs2⟩ := hs.runDrop (P := Try.prog) Try.underlying26 hi hz1 hlast
  have hit_dec : decide (∃ h : idx S k < S.length, S[idx S k].1 = k) = hit S k := by
    cases hh : hit S k
    · exact decide_eq_false fun h => by rw [(hit_iff hS).2 h] at hh; cases hh
    · exact decide_eq_true ((hit_iff hS).1 hh)
  rw [hit_dec] at hf
  have hins : ins S k v = (([] ++ S.take (idx S k)) ++ [(k, v)]) ++ S.drop (idx S k + if hit S k then 1 else 0) := by simp [ins]
  have hll := length_ins hS k v
  rw [hins] at hll ⊢
  clear hins hit_dec
  have hA : ([] : List Fl).length + (S.take (idx S k)).length ≤ 4398046511104 := by rw [List.length_take]; simp; omega
  have hB : ([] ++ S.take (idx S k)).length + [(k, v)].length ≤ 4398046511104 := by simp; omega
  have hC : (([] ++ S.take (idx S k)) ++ [(k, v)]).length + (S.drop (idx S k + if hit S k then 1 else 0)).length ≤ 4398046511104 := by
    rw [List.length_append] at hll
    have h2 : (if hit S k = true then S.length else S.length + 1) ≤ S.length + 1 := by split <;> omega
    omega
  clear hll
  generalize S.take (idx S k) = S1 at *
  generalize S.drop (idx S k + if hit S k then 1 else 0) = S2 at *
  generalize hit S k = hh at *
  cases hh
  all_goals
    simp only [Bool.false_eq_true, if_false, Nat.add_zero, if_true] at hr2 hlast
    generalize idx S k = n at *
    try push_cast at hr2
    go_enter Try.func15, Try.ntmps15
    go_wp2_with (first
      | (go_at_call 27; refine hf.mono ?_; rintro e w1 ⟨rfl, hx⟩; have c1 := hx.cellF c0; have hs1' := hs1.keep hx (fun _ _ _ h => h))
      | (at_builtin; refine wpList_append_sl rfl (.tmp 19) (.tmp 25) 26 rfl w.heap.size 44 ii _ Try.underlying26 hi hz0 hz1 hz2 rfl _ [] _ S1 rfl rfl (own_nil _ _) hs1' hA hx.size ?_; intro p1 n1 q1 w2 hd1 hx2; have hx3 := (hx2.transB (Ext.alloc _ w2 (.cells #[.string k, .string v] 44))); have hsz : w.heap.size ≤ (w2.alloc (.cells #[.string k, .string v] 44)).heap.size := Nat.le_trans hx.size hx3.size)
      | (at_builtin; refine wpList_append_sl rfl (.tmp 27) (.tmp 31) 26 rfl w.heap.size 44 ii _ Try.underlying26 hi hz0 hz1 hz2 rfl _ _ _ [(k, v)] rfl rfl (own_alloc hd1 _) (Sl.one (fun _ => True) w2 k v trivial) hB hsz ?_; intro p2 n2 q2 w4 hd2 hx4; have hx5 := Ext.transB (Ext.F hx) (hx3.transB hx4); have c4 := hx5.cellB hlt c0; have hs2' := hs2.keepB hx5)
      | (at_builtin; refine wpList_append_sl rfl (.tmp 37) (.tmp 43) 26 rfl w.heap.size 44 ii _ Try.underlying26 hi hz0 hz1 hz2 rfl _ _ _ S2 rfl rfl hd2 hs2' hC hx5.size ?_; intro p3 n3 q3 w6 hd3 hx6; have hx7 := hx5.transB hx6; have c6 := hx7.cellB hlt c0; have f6 := (World.frozen?_of_block (w := w) (a := ⟨rb, 0, none⟩) (hx7.block _ hlt (by simpa using hlt))).trans f0)
      | fail)
    go_ret
    have hend := RT.renew hb hx7 hns hd3
    exact ⟨rfl, hend.1, hend.2⟩

end Go.Proofs.Ytpmlmpibpmoclaa
