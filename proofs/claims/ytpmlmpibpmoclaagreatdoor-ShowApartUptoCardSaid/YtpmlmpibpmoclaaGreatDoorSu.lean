/-
  What must come whatever the input is.
-/
import Derived.Test.YtpmlmpibpmoclaaGreatDoorSh
import Derived.Handy
namespace Go.Proofs.YtpmlmpibpmoclaaGreatDoor
set_option linter.all false
set_option maxRecDepth 20000
set_option maxHeartbeats 4000000
open Go.RowKit


theorem flat4 {α : Type} (f : α → List Value) (hf : ∀ a, (f a).length = 4) (l : List α) (i j : Nat) (hj : j < 4) (h : i < l.length) : (l.flatMap f)[i * 4 + j]? = (f l[i])[j]? := by
 induction l generalizing i with
 | nil => simp at h
 | cons a r ih =>
  rw [List.flatMap_cons]
  cases i with
  | zero => rw [List.getElem?_append_left (by rw [hf]; omega)]; simp
  | succ i =>
   rw [List.getElem?_append_right (by rw [hf]; omega), hf]
   have := ih i (by simpa using h)
   rw [show (i + 1) * 4 + j - 4 = i * 4 + j by omega, this]
   simp
theorem cell_of_heap {w : World} {g : Nat} {cs : Array Value} {T : TypeId} {fr : Nat × Nat} (h : w.heap[g]? = some (.cells cs T fr)) {i : Nat} {v : Value} (hi : cs.toList[i]? = some v) : w.cell? ⟨g, i, none⟩ = some v := by
 simp only [World.cell?, h]; simpa using hi
def cells4 (q : Tr × Value) : List Value := [.int .i64 q.1.k, .string (sv q.1.t), .int .i64 q.1.n, q.2]
theorem nd_kids {B : Nat} {w : World} {g : Nat} {cs : Array Value} {T : TypeId} {fr : Nat × Nat} (h : w.heap[g]? = some (.cells cs T fr)) (hg : g < B) (k n : Int) (t : Bs) (qs : List (Tr × Value)) (hcs : cs.toList = qs.flatMap cells4) (hn : ∀ q ∈ qs, NodeAt B w (nv q.1 q.2) q.1)
  (hk : -9223372036854775808 ≤ k ∧ k ≤ 9223372036854775807) (hnn : -9223372036854775808 ≤ n ∧ n ≤ 9223372036854775807) (ht : t.length ≤ 4398046511104) (c m : Nat) (hm : qs.length = m) (hc : m ≤ c ∧ m ≤ 4398046511104) :
  NodeAt B w (.agg #[.int .i64 k, .string (sv t), .int .i64 n, .slice (some ⟨g, 0, none⟩) m c]) (.mk k t n (qs.map (·.1))) := by
 subst hm
 have e : (qs.map (·.1)).length = qs.length := List.length_map ..
 rw [← e]
 rw [← e] at hc
 have inh : Inhabited (Tr × Value) := ⟨⟨.mk 0 [] 0 [], .bool false⟩⟩
 have c4 : ∀ i (hi : i < qs.length) j, j < 4 → ∀ v, (cells4 qs[i])[j]? = some v → w.cell? ⟨g, 0 + i * 4 + j, none⟩ = some v := fun i hi j hj v hv => cell_of_heap h (by rw [hcs, Nat.zero_add, flat4 cells4 (fun _ => rfl) qs i j hj hi]; exact hv)
 have gd : ∀ i (hi : i < qs.length), (qs.getD i default) = qs[i] := fun i hi => by simp [List.getD, hi]
 refine .mk k t n _ _ c (fun i => (qs.getD i default).2) hk hnn ht hc (fun i hi => ?_) (fun i hi => ?_)
 ·have hi' : i < qs.length := by simpa using hi
  simp only [List.getElem_map, gd i hi']
  exact ⟨g, 0, rfl, hg, c4 i hi' 0 (by omega) _ rfl, c4 i hi' 1 (by omega) _ rfl, c4 i hi' 2 (by omega) _ rfl, c4 i hi' 3 (by omega) _ rfl⟩
 ·have hi' : i < qs.length := by simpa using hi
  simp only [List.getElem_map, gd i hi']
  exact hn _ (List.getElem_mem hi')
theorem nd_leaf {B : Nat} {w : World} (k n : Int) (t : Bs) (hk : -9223372036854775808 ≤ k ∧ k ≤ 9223372036854775807) (hnn : -9223372036854775808 ≤ n ∧ n ≤ 9223372036854775807) (ht : t.length ≤ 4398046511104) :
  NodeAt B w (.agg #[.int .i64 k, .string (sv t), .int .i64 n, .slice none 0 0]) (.mk k t n []) :=
 .mk k t n [] none 0 (fun _ => .bool false) hk hnn ht ⟨Nat.le_refl _, by simp⟩ (fun i h => by simp at h) (fun i h => by simp at h)

theorem num_p (n : Int) (w : World) : Calls Tryz.prog 27 #[.int .i64 n] w fun e w' => e = .returned (.agg #[.int .i64 1, .string (sv []), .int .i64 n, .slice none 0 0]) ∧ Fx w w' := by
 go_enter Tryz.func27, Tryz.ntmps27
 go_wp2
 go_returns
 exact ⟨rfl, Ext.alloc _ _ _⟩

theorem op_p (s : ByteArray) (p : Option Addr) (m c : Nat) (w : World) : Calls Tryz.prog 26 #[.string s, .slice p m c] w fun e w' => e = .returned (.agg #[.int .i64 16, .string s, .int .i64 0, .slice p m c]) ∧ Fx w w' := by
 go_enter Tryz.func26, Tryz.ntmps26
 go_wp2
 go_returns
 exact ⟨rfl, Ext.alloc _ _ _⟩


/-! ### a tree of no form -/

theorem ne_e0 {k : Int} (h : k < 1) : ∀ i ∈ ([1, 2, 3, 4, 5, 6, 7, 8, 9, 11, 15, 16, 17, 18, 19, 20, 21, 22] : List Int), ¬ k = i := by
 intro i hi
 simp only [List.mem_cons, List.not_mem_nil, or_false] at hi
 omega
theorem ne_t0 {k : Int} (h : k < 1) : ∀ i ∈ ([30, 31, 32, 33, 35] : List Int), ¬ k = i := by
 intro i hi
 simp only [List.mem_cons, List.not_mem_nil, or_false] at hi
 omega
theorem ne_s0 {k : Int} (h : k < 1) : ∀ i ∈ ([40, 41, 47, 48, 49, 50, 51, 52] : List Int), ¬ k = i := by
 intro i hi
 simp only [List.mem_cons, List.not_mem_nil, or_false] at hi
 omega

theorem t58_0 (B : Nat) (v : Value) (w : World) (h : NT B w v (.mk 0 [] 0 [])) : Calls Tryz.prog 58 #[v] w (Ans false w) := by
 obtain ⟨sl, rfl, hks, _, _, htl⟩ := id h.node.open
 have xw : Fx w (w.alloc (.cells #[.int .i64 0, .string (sv []), .int .i64 0, sl] 24)) := Ext.alloc _ _ _
 have xx := xw
 obtain ⟨c0, c1, c2, c3⟩ := nd_cells w 0 0 (sv []) sl
 have hd := hid (h.keepF xw)
 clear h hks htl
 simp only [nv, Tr.k, Tr.t, Tr.n] at hd ⊢
 go_enter Tryz.func58, Tryz.ntmps58
 go_wp2_with ((first | (go_at_call 56; refine (like_any B _ _ _ hd.out.node).mono ?_; rintro e w56 ⟨rfl, z_⟩) | (go_at_call 61; refine (stmt_no' _ (ne_s0 (show Tr.k (.mk 0 [] 0 []) < 1 by decide)) B _ _ hd.out).mono ?_; rintro e w61 ⟨rfl, z_⟩)) <;> (replace xx := xx.of_eq z_; replace ⟨c0, c1, c2, c3⟩ := F4 z_ c0 c1 c2 c3; replace hd := hid (hd.out.keepF z_)))
 go_ret
 exact ⟨rfl, xx⟩

theorem t28_0 (B : Nat) (v : Value) (w : World) (h : NT B w v (.mk 0 [] 0 [])) : Calls Tryz.prog 28 #[v] w (AnsI 0 w) := by
 obtain ⟨sl, rfl, hks, _, _, htl⟩ := id h.node.open
 have xw : Fx w (w.alloc (.cells #[.int .i64 0, .string (sv []), .int .i64 0, sl] 24)) := Ext.alloc _ _ _
 have xx := xw
 obtain ⟨c0, c1, c2, c3⟩ := nd_cells w 0 0 (sv []) sl
 have hd := hid (h.keepF xw)
 clear h hks htl
 simp only [nv, Tr.k, Tr.t, Tr.n] at hd ⊢
 go_enter Tryz.func28, Tryz.ntmps28
 go_wp2_with ((first | (go_at_call 64; refine (expr_no' _ (ne_e0 (show Tr.k (.mk 0 [] 0 []) < 1 by decide)) B _ _ hd.out).mono ?_; rintro e w64 ⟨rfl, z_⟩) | (go_at_call 65; refine (type_no' _ (ne_t0 (show Tr.k (.mk 0 [] 0 []) < 1 by decide)) B _ _ hd.out).mono ?_; rintro e w65 ⟨rfl, z_⟩) | (go_at_call 61; refine (stmt_no' _ (ne_s0 (show Tr.k (.mk 0 [] 0 []) < 1 by decide)) B _ _ hd.out).mono ?_; rintro e w61 ⟨rfl, z_⟩) | (go_at_call 58; refine (t58_0 B _ _ hd.out).mono ?_; rintro e w58 ⟨rfl, z_⟩)) <;> (replace xx := xx.of_eq z_; replace ⟨c0, c1, c2, c3⟩ := F4 z_ c0 c1 c2 c3; replace hd := hid (hd.out.keepF z_)))
 go_ret
 exact ⟨rfl, xx⟩

theorem show_0 (B : Nat) (w : World) (v : Value) (h : NT B w v (.mk 0 [] 0 [])) (hpw : Pow B w) : Calls Tryz.prog 9 #[v] w (StrP [] w) := by
 obtain ⟨sl, rfl, hks, hkr, hnr, htl⟩ := id h.node.open
 have hBs := hid h.tab.le
 have xw : Fx w (w.alloc (.cells #[.int .i64 0, .string (sv []), .int .i64 0, sl] 24)) := Ext.alloc _ _ _
 obtain ⟨c0, c1, c2, c3⟩ := nd_cells w 0 0 (sv []) sl
 have xq : Fx (w.alloc (.cells #[.int .i64 0, .string (sv []), .int .i64 0, sl] 24)) ((w.alloc (.cells #[.int .i64 0, .string (sv []), .int .i64 0, sl] 24)).alloc (.cells #[.slice none 0 0] 43)) := Ext.alloc _ _ _
 have hz1 : (w.alloc (.cells #[.int .i64 0, .string (sv []), .int .i64 0, sl] 24)).heap.size = w.heap.size + 1 := alloc_size _ _
 have hz2 : ((w.alloc (.cells #[.int .i64 0, .string (sv []), .int .i64 0, sl] 24)).alloc (.cells #[.slice none 0 0] 43)).heap.size = w.heap.size + 2 := by rw [alloc_size, hz1]
 have hq := heap_new (w.alloc (.cells #[.int .i64 0, .string (sv []), .int .i64 0, sl] 24)) (.cells #[.slice none 0 0] 43)
 rw [hz1] at hq
 have hN := hid ((h.keepF (xw.of_eq xq)).up (B' := w.heap.size + 1) (by have := hBs.out; omega) (by rw [hz2]; omega))
 have hP := hid ((hpw.keepF (xw.of_eq xq)).up (B' := w.heap.size + 1) (by have := hBs.out; omega) (by rw [hz2]; omega))
 have hQ := hid (show PrAt (w.heap.size + 1) ((w.alloc (.cells #[.int .i64 0, .string (sv []), .int .i64 0, sl] 24)).alloc (.cells #[.slice none 0 0] 43)) (w.heap.size + 1) [] from ⟨⟨_, hq, rfl, .inl ⟨rfl, rfl⟩⟩, Nat.le_refl _, hP.out⟩)
 have g0 := xq.cellF c0
 have g1 := xq.cellF c1
 have g2 := xq.cellF c2
 have g3 := xq.cellF c3
 have XW := hid (xw.of_eq xq)
 clear h hks hkr hnr hpw hq hz2 hP xw xq
 simp only [nv, Tr.k, Tr.t, Tr.n] at hN ⊢
 go_enter Tryz.func9, Tryz.ntmps9
 go_wp2_with (first
  | (go_at_call 28; refine (t28_0 _ _ _ hN.out).mono ?_; rintro e w28 ⟨rfl, z_⟩; replace hQ := hid (hQ.out.keepF z_); replace XW := hid (XW.out.of_eq z_))
  | (go_at_call 33; refine (text_p (hQ.out) (by trivial) (by simp [lay]) (by simp)).mono ?_; rintro e w33 ⟨rfl, x33⟩))
 go_ret
 exact ⟨rfl, XW.out.of_eq x33⟩

/-! ### sure -/
def xPlus : Tr := .mk 16 [43] 0 [.mk 1 [] 1 [], .mk 1 [] 2 []]
def xStar : Tr := .mk 16 [42] 0 [xPlus, .mk 1 [] 3 []]
def xFunc : Tr := .mk 11 [] 0 [.mk 12 [] 0 [], .mk 14 [] 0 [], .mk 52 [] 0 []]
def xCall : Tr := .mk 19 [] 0 [xFunc]
def xStm : Tr := .mk 47 [] 0 [xCall]
theorem starE : isE xStar = true := by decide +kernel
theorem starT : lay 0 false (qE 1 xStar) = [40, 49, 32, 43, 32, 50, 41, 32, 42, 32, 51] := by decide +kernel
theorem stmS : isS xStm = true := by decide +kernel
theorem stmD : dollar xStm = false := by decide +kernel
theorem stmT : lay 0 false (qI xStm) = [40, 102, 117, 110, 99, 116, 105, 111, 110, 32, 40, 41, 32, 123, 125, 40, 41, 41, 59] := by decide +kernel
theorem starW : wt xStar ≤ BW := by decide +kernel
theorem stmW : wts [xStm] ≤ BW := by decide +kernel

theorem show_star (B : Nat) (w : World) (v : Value) (h : NT B w v xStar) (hpw : Pow B w) : Calls Tryz.prog 9 #[v] w (StrP [40, 49, 32, 43, 32, 50, 41, 32, 42, 32, 51] w) :=
 starT ▸ show_1 xStar starE (by decide) starW B w v h hpw
theorem show_stm (B : Nat) (w : World) (v : Value) (h : NT B w v xStm) (hpw : Pow B w) : Calls Tryz.prog 9 #[v] w (StrP [40, 102, 117, 110, 99, 116, 105, 111, 110, 32, 40, 41, 32, 123, 125, 40, 41, 41, 59] w) :=
 stmT ▸ show_3 xStm stmS (by decide) (by decide) (by decide) (by decide +kernel) B w v h hpw
theorem show_mod (B : Nat) (w : World) (v : Value) (h : NT B w v (.mk 68 [] 0 [xStm])) (hpw : Pow B w) : Calls Tryz.prog 9 #[v] w (StrP [40, 102, 117, 110, 99, 116, 105, 111, 110, 32, 40, 41, 32, 123, 125, 40, 41, 41, 59, 10] w) := by
 have hi : ∀ y ∈ [xStm], isItem y = true ∧ dollar y = false := fun y hy => by obtain rfl := List.mem_singleton.1 hy; exact ⟨isS_item stmS, stmD⟩
 have e : [xStm].flatMap rowT = [40, 102, 117, 110, 99, 116, 105, 111, 110, 32, 40, 41, 32, 123, 125, 40, 41, 41, 59, 10] := by
  show rowT xStm ++ [] = _
  unfold rowT
  rw [stmT]; rfl
 exact e ▸ show_5 68 5 (.inl rfl) [xStm] (fun y hy => .inl (hi y hy).1) (fun B v w h => t28_5 _ B v w h hi (by decide +kernel)) stmW B w v h hpw

theorem heap_keep {w w' : World} (hx : Fx w w') {g : Nat} {o : Obj} (h : w.heap[g]? = some o) : w'.heap[g]? = some o :=
 (hx.block g (Array.getElem?_eq_some_iff.1 h).1 (fun h => h)).trans h
theorem heap_old (w : World) (o o' : Obj) {g : Nat} (h : w.heap[g]? = some o) : (w.alloc o').heap[g]? = some o := heap_keep (Ext.alloc _ _ _) h
/-- What the first statements of sure leave: the statement in memory. -/
theorem stm_mem (w : World) : NodeAt (w.heap.size + 5) (((((w.alloc (.cells #[.int .i64 12, .string { data := #[] }, .int .i64 0, .slice none 0 0, .int .i64 14, .string { data := #[] }, .int .i64 0, .slice none 0 0, .int .i64 52, .string { data := #[] }, .int .i64 0, .slice none 0 0] 24)).alloc (.cells #[.int .i64 11, .string { data := #[] }, .int .i64 0, .slice (some ⟨w.heap.size, 0, none⟩) 3 3] 24)).alloc (.cells #[.int .i64 11, .string { data := #[] }, .int .i64 0, .slice (some ⟨w.heap.size, 0, none⟩) 3 3] 24)).alloc (.cells #[.int .i64 19, .string { data := #[] }, .int .i64 0, .slice (some ⟨w.heap.size + 1 + 1, 0, none⟩) 1 1] 24)).alloc (.cells #[.int .i64 47, .string { data := #[] }, .int .i64 0, .slice (some ⟨w.heap.size + 1 + 1 + 1, 0, none⟩) 1 1] 24)) (.agg #[.int .i64 47, .string (sv []), .int .i64 0, .slice (some ⟨w.heap.size + 1 + 1 + 1, 0, none⟩) 1 1]) xStm ∧ (((((w.alloc (.cells #[.int .i64 12, .string { data := #[] }, .int .i64 0, .slice none 0 0, .int .i64 14, .string { data := #[] }, .int .i64 0, .slice none 0 0, .int .i64 52, .string { data := #[] }, .int .i64 0, .slice none 0 0] 24)).alloc (.cells #[.int .i64 11, .string { data := #[] }, .int .i64 0, .slice (some ⟨w.heap.size, 0, none⟩) 3 3] 24)).alloc (.cells #[.int .i64 11, .string { data := #[] }, .int .i64 0, .slice (some ⟨w.heap.size, 0, none⟩) 3 3] 24)).alloc (.cells #[.int .i64 19, .string { data := #[] }, .int .i64 0, .slice (some ⟨w.heap.size + 1 + 1, 0, none⟩) 1 1] 24)).alloc (.cells #[.int .i64 47, .string { data := #[] }, .int .i64 0, .slice (some ⟨w.heap.size + 1 + 1 + 1, 0, none⟩) 1 1] 24)).heap.size = w.heap.size + 5 ∧ Fx w (((((w.alloc (.cells #[.int .i64 12, .string { data := #[] }, .int .i64 0, .slice none 0 0, .int .i64 14, .string { data := #[] }, .int .i64 0, .slice none 0 0, .int .i64 52, .string { data := #[] }, .int .i64 0, .slice none 0 0] 24)).alloc (.cells #[.int .i64 11, .string { data := #[] }, .int .i64 0, .slice (some ⟨w.heap.size, 0, none⟩) 3 3] 24)).alloc (.cells #[.int .i64 11, .string { data := #[] }, .int .i64 0, .slice (some ⟨w.heap.size, 0, none⟩) 3 3] 24)).alloc (.cells #[.int .i64 19, .string { data := #[] }, .int .i64 0, .slice (some ⟨w.heap.size + 1 + 1, 0, none⟩) 1 1] 24)).alloc (.cells #[.int .i64 47, .string { data := #[] }, .int .i64 0, .slice (some ⟨w.heap.size + 1 + 1 + 1, 0, none⟩) 1 1] 24)) ∧
  (((((w.alloc (.cells #[.int .i64 12, .string { data := #[] }, .int .i64 0, .slice none 0 0, .int .i64 14, .string { data := #[] }, .int .i64 0, .slice none 0 0, .int .i64 52, .string { data := #[] }, .int .i64 0, .slice none 0 0] 24)).alloc (.cells #[.int .i64 11, .string { data := #[] }, .int .i64 0, .slice (some ⟨w.heap.size, 0, none⟩) 3 3] 24)).alloc (.cells #[.int .i64 11, .string { data := #[] }, .int .i64 0, .slice (some ⟨w.heap.size, 0, none⟩) 3 3] 24)).alloc (.cells #[.int .i64 19, .string { data := #[] }, .int .i64 0, .slice (some ⟨w.heap.size + 1 + 1, 0, none⟩) 1 1] 24)).alloc (.cells #[.int .i64 47, .string { data := #[] }, .int .i64 0, .slice (some ⟨w.heap.size + 1 + 1 + 1, 0, none⟩) 1 1] 24)).heap[w.heap.size + 1 + 1 + 1 + 1]? = some (.cells #[.int .i64 47, .string { data := #[] }, .int .i64 0, .slice (some ⟨w.heap.size + 1 + 1 + 1, 0, none⟩) 1 1] 24) := by
 have z1 : (w.alloc (.cells #[.int .i64 12, .string { data := #[] }, .int .i64 0, .slice none 0 0, .int .i64 14, .string { data := #[] }, .int .i64 0, .slice none 0 0, .int .i64 52, .string { data := #[] }, .int .i64 0, .slice none 0 0] 24)).heap.size = w.heap.size + 1 := alloc_size _ _
 have z2 : ((w.alloc (.cells #[.int .i64 12, .string { data := #[] }, .int .i64 0, .slice none 0 0, .int .i64 14, .string { data := #[] }, .int .i64 0, .slice none 0 0, .int .i64 52, .string { data := #[] }, .int .i64 0, .slice none 0 0] 24)).alloc (.cells #[.int .i64 11, .string { data := #[] }, .int .i64 0, .slice (some ⟨w.heap.size, 0, none⟩) 3 3] 24)).heap.size = w.heap.size + 1 + 1 := by rw [alloc_size, z1]
 have z3 : (((w.alloc (.cells #[.int .i64 12, .string { data := #[] }, .int .i64 0, .slice none 0 0, .int .i64 14, .string { data := #[] }, .int .i64 0, .slice none 0 0, .int .i64 52, .string { data := #[] }, .int .i64 0, .slice none 0 0] 24)).alloc (.cells #[.int .i64 11, .string { data := #[] }, .int .i64 0, .slice (some ⟨w.heap.size, 0, none⟩) 3 3] 24)).alloc (.cells #[.int .i64 11, .string { data := #[] }, .int .i64 0, .slice (some ⟨w.heap.size, 0, none⟩) 3 3] 24)).heap.size = w.heap.size + 1 + 1 + 1 := by rw [alloc_size, z2]
 have z4 : ((((w.alloc (.cells #[.int .i64 12, .string { data := #[] }, .int .i64 0, .slice none 0 0, .int .i64 14, .string { data := #[] }, .int .i64 0, .slice none 0 0, .int .i64 52, .string { data := #[] }, .int .i64 0, .slice none 0 0] 24)).alloc (.cells #[.int .i64 11, .string { data := #[] }, .int .i64 0, .slice (some ⟨w.heap.size, 0, none⟩) 3 3] 24)).alloc (.cells #[.int .i64 11, .string { data := #[] }, .int .i64 0, .slice (some ⟨w.heap.size, 0, none⟩) 3 3] 24)).alloc (.cells #[.int .i64 19, .string { data := #[] }, .int .i64 0, .slice (some ⟨w.heap.size + 1 + 1, 0, none⟩) 1 1] 24)).heap.size = w.heap.size + 1 + 1 + 1 + 1 := by rw [alloc_size, z3]
 have z5 : (((((w.alloc (.cells #[.int .i64 12, .string { data := #[] }, .int .i64 0, .slice none 0 0, .int .i64 14, .string { data := #[] }, .int .i64 0, .slice none 0 0, .int .i64 52, .string { data := #[] }, .int .i64 0, .slice none 0 0] 24)).alloc (.cells #[.int .i64 11, .string { data := #[] }, .int .i64 0, .slice (some ⟨w.heap.size, 0, none⟩) 3 3] 24)).alloc (.cells #[.int .i64 11, .string { data := #[] }, .int .i64 0, .slice (some ⟨w.heap.size, 0, none⟩) 3 3] 24)).alloc (.cells #[.int .i64 19, .string { data := #[] }, .int .i64 0, .slice (some ⟨w.heap.size + 1 + 1, 0, none⟩) 1 1] 24)).alloc (.cells #[.int .i64 47, .string { data := #[] }, .int .i64 0, .slice (some ⟨w.heap.size + 1 + 1 + 1, 0, none⟩) 1 1] 24)).heap.size = w.heap.size + 5 := by rw [alloc_size, z4]
 have b0 := heap_new w (.cells #[.int .i64 12, .string { data := #[] }, .int .i64 0, .slice none 0 0, .int .i64 14, .string { data := #[] }, .int .i64 0, .slice none 0 0, .int .i64 52, .string { data := #[] }, .int .i64 0, .slice none 0 0] 24)
 have b2 := heap_new ((w.alloc (.cells #[.int .i64 12, .string { data := #[] }, .int .i64 0, .slice none 0 0, .int .i64 14, .string { data := #[] }, .int .i64 0, .slice none 0 0, .int .i64 52, .string { data := #[] }, .int .i64 0, .slice none 0 0] 24)).alloc (.cells #[.int .i64 11, .string { data := #[] }, .int .i64 0, .slice (some ⟨w.heap.size, 0, none⟩) 3 3] 24)) (.cells #[.int .i64 11, .string { data := #[] }, .int .i64 0, .slice (some ⟨w.heap.size, 0, none⟩) 3 3] 24)
 have b3 := heap_new (((w.alloc (.cells #[.int .i64 12, .string { data := #[] }, .int .i64 0, .slice none 0 0, .int .i64 14, .string { data := #[] }, .int .i64 0, .slice none 0 0, .int .i64 52, .string { data := #[] }, .int .i64 0, .slice none 0 0] 24)).alloc (.cells #[.int .i64 11, .string { data := #[] }, .int .i64 0, .slice (some ⟨w.heap.size, 0, none⟩) 3 3] 24)).alloc (.cells #[.int .i64 11, .string { data := #[] }, .int .i64 0, .slice (some ⟨w.heap.size, 0, none⟩) 3 3] 24)) (.cells #[.int .i64 19, .string { data := #[] }, .int .i64 0, .slice (some ⟨w.heap.size + 1 + 1, 0, none⟩) 1 1] 24)
 have b4 := heap_new ((((w.alloc (.cells #[.int .i64 12, .string { data := #[] }, .int .i64 0, .slice none 0 0, .int .i64 14, .string { data := #[] }, .int .i64 0, .slice none 0 0, .int .i64 52, .string { data := #[] }, .int .i64 0, .slice none 0 0] 24)).alloc (.cells #[.int .i64 11, .string { data := #[] }, .int .i64 0, .slice (some ⟨w.heap.size, 0, none⟩) 3 3] 24)).alloc (.cells #[.int .i64 11, .string { data := #[] }, .int .i64 0, .slice (some ⟨w.heap.size, 0, none⟩) 3 3] 24)).alloc (.cells #[.int .i64 19, .string { data := #[] }, .int .i64 0, .slice (some ⟨w.heap.size + 1 + 1, 0, none⟩) 1 1] 24)) (.cells #[.int .i64 47, .string { data := #[] }, .int .i64 0, .slice (some ⟨w.heap.size + 1 + 1 + 1, 0, none⟩) 1 1] 24)
 rw [z2] at b2
 rw [z3] at b3
 rw [z4] at b4
 have x1 : Fx (w.alloc (.cells #[.int .i64 12, .string { data := #[] }, .int .i64 0, .slice none 0 0, .int .i64 14, .string { data := #[] }, .int .i64 0, .slice none 0 0, .int .i64 52, .string { data := #[] }, .int .i64 0, .slice none 0 0] 24)) (((((w.alloc (.cells #[.int .i64 12, .string { data := #[] }, .int .i64 0, .slice none 0 0, .int .i64 14, .string { data := #[] }, .int .i64 0, .slice none 0 0, .int .i64 52, .string { data := #[] }, .int .i64 0, .slice none 0 0] 24)).alloc (.cells #[.int .i64 11, .string { data := #[] }, .int .i64 0, .slice (some ⟨w.heap.size, 0, none⟩) 3 3] 24)).alloc (.cells #[.int .i64 11, .string { data := #[] }, .int .i64 0, .slice (some ⟨w.heap.size, 0, none⟩) 3 3] 24)).alloc (.cells #[.int .i64 19, .string { data := #[] }, .int .i64 0, .slice (some ⟨w.heap.size + 1 + 1, 0, none⟩) 1 1] 24)).alloc (.cells #[.int .i64 47, .string { data := #[] }, .int .i64 0, .slice (some ⟨w.heap.size + 1 + 1 + 1, 0, none⟩) 1 1] 24)) := (((Ext.alloc _ _ _ : Fx (w.alloc (.cells #[.int .i64 12, .string { data := #[] }, .int .i64 0, .slice none 0 0, .int .i64 14, .string { data := #[] }, .int .i64 0, .slice none 0 0, .int .i64 52, .string { data := #[] }, .int .i64 0, .slice none 0 0] 24)) ((w.alloc (.cells #[.int .i64 12, .string { data := #[] }, .int .i64 0, .slice none 0 0, .int .i64 14, .string { data := #[] }, .int .i64 0, .slice none 0 0, .int .i64 52, .string { data := #[] }, .int .i64 0, .slice none 0 0] 24)).alloc (.cells #[.int .i64 11, .string { data := #[] }, .int .i64 0, .slice (some ⟨w.heap.size, 0, none⟩) 3 3] 24))).of_eq (Ext.alloc _ _ _ : Fx ((w.alloc (.cells #[.int .i64 12, .string { data := #[] }, .int .i64 0, .slice none 0 0, .int .i64 14, .string { data := #[] }, .int .i64 0, .slice none 0 0, .int .i64 52, .string { data := #[] }, .int .i64 0, .slice none 0 0] 24)).alloc (.cells #[.int .i64 11, .string { data := #[] }, .int .i64 0, .slice (some ⟨w.heap.size, 0, none⟩) 3 3] 24)) (((w.alloc (.cells #[.int .i64 12, .string { data := #[] }, .int .i64 0, .slice none 0 0, .int .i64 14, .string { data := #[] }, .int .i64 0, .slice none 0 0, .int .i64 52, .string { data := #[] }, .int .i64 0, .slice none 0 0] 24)).alloc (.cells #[.int .i64 11, .string { data := #[] }, .int .i64 0, .slice (some ⟨w.heap.size, 0, none⟩) 3 3] 24)).alloc (.cells #[.int .i64 11, .string { data := #[] }, .int .i64 0, .slice (some ⟨w.heap.size, 0, none⟩) 3 3] 24)))).of_eq (Ext.alloc _ _ _ : Fx (((w.alloc (.cells #[.int .i64 12, .string { data := #[] }, .int .i64 0, .slice none 0 0, .int .i64 14, .string { data := #[] }, .int .i64 0, .slice none 0 0, .int .i64 52, .string { data := #[] }, .int .i64 0, .slice none 0 0] 24)).alloc (.cells #[.int .i64 11, .string { data := #[] }, .int .i64 0, .slice (some ⟨w.heap.size, 0, none⟩) 3 3] 24)).alloc (.cells #[.int .i64 11, .string { data := #[] }, .int .i64 0, .slice (some ⟨w.heap.size, 0, none⟩) 3 3] 24)) ((((w.alloc (.cells #[.int .i64 12, .string { data := #[] }, .int .i64 0, .slice none 0 0, .int .i64 14, .string { data := #[] }, .int .i64 0, .slice none 0 0, .int .i64 52, .string { data := #[] }, .int .i64 0, .slice none 0 0] 24)).alloc (.cells #[.int .i64 11, .string { data := #[] }, .int .i64 0, .slice (some ⟨w.heap.size, 0, none⟩) 3 3] 24)).alloc (.cells #[.int .i64 11, .string { data := #[] }, .int .i64 0, .slice (some ⟨w.heap.size, 0, none⟩) 3 3] 24)).alloc (.cells #[.int .i64 19, .string { data := #[] }, .int .i64 0, .slice (some ⟨w.heap.size + 1 + 1, 0, none⟩) 1 1] 24)))).of_eq (Ext.alloc _ _ _ : Fx ((((w.alloc (.cells #[.int .i64 12, .string { data := #[] }, .int .i64 0, .slice none 0 0, .int .i64 14, .string { data := #[] }, .int .i64 0, .slice none 0 0, .int .i64 52, .string { data := #[] }, .int .i64 0, .slice none 0 0] 24)).alloc (.cells #[.int .i64 11, .string { data := #[] }, .int .i64 0, .slice (some ⟨w.heap.size, 0, none⟩) 3 3] 24)).alloc (.cells #[.int .i64 11, .string { data := #[] }, .int .i64 0, .slice (some ⟨w.heap.size, 0, none⟩) 3 3] 24)).alloc (.cells #[.int .i64 19, .string { data := #[] }, .int .i64 0, .slice (some ⟨w.heap.size + 1 + 1, 0, none⟩) 1 1] 24)) (((((w.alloc (.cells #[.int .i64 12, .string { data := #[] }, .int .i64 0, .slice none 0 0, .int .i64 14, .string { data := #[] }, .int .i64 0, .slice none 0 0, .int .i64 52, .string { data := #[] }, .int .i64 0, .slice none 0 0] 24)).alloc (.cells #[.int .i64 11, .string { data := #[] }, .int .i64 0, .slice (some ⟨w.heap.size, 0, none⟩) 3 3] 24)).alloc (.cells #[.int .i64 11, .string { data := #[] }, .int .i64 0, .slice (some ⟨w.heap.size, 0, none⟩) 3 3] 24)).alloc (.cells #[.int .i64 19, .string { data := #[] }, .int .i64 0, .slice (some ⟨w.heap.size + 1 + 1, 0, none⟩) 1 1] 24)).alloc (.cells #[.int .i64 47, .string { data := #[] }, .int .i64 0, .slice (some ⟨w.heap.size + 1 + 1 + 1, 0, none⟩) 1 1] 24)))
 have x3 : Fx (((w.alloc (.cells #[.int .i64 12, .string { data := #[] }, .int .i64 0, .slice none 0 0, .int .i64 14, .string { data := #[] }, .int .i64 0, .slice none 0 0, .int .i64 52, .string { data := #[] }, .int .i64 0, .slice none 0 0] 24)).alloc (.cells #[.int .i64 11, .string { data := #[] }, .int .i64 0, .slice (some ⟨w.heap.size, 0, none⟩) 3 3] 24)).alloc (.cells #[.int .i64 11, .string { data := #[] }, .int .i64 0, .slice (some ⟨w.heap.size, 0, none⟩) 3 3] 24)) (((((w.alloc (.cells #[.int .i64 12, .string { data := #[] }, .int .i64 0, .slice none 0 0, .int .i64 14, .string { data := #[] }, .int .i64 0, .slice none 0 0, .int .i64 52, .string { data := #[] }, .int .i64 0, .slice none 0 0] 24)).alloc (.cells #[.int .i64 11, .string { data := #[] }, .int .i64 0, .slice (some ⟨w.heap.size, 0, none⟩) 3 3] 24)).alloc (.cells #[.int .i64 11, .string { data := #[] }, .int .i64 0, .slice (some ⟨w.heap.size, 0, none⟩) 3 3] 24)).alloc (.cells #[.int .i64 19, .string { data := #[] }, .int .i64 0, .slice (some ⟨w.heap.size + 1 + 1, 0, none⟩) 1 1] 24)).alloc (.cells #[.int .i64 47, .string { data := #[] }, .int .i64 0, .slice (some ⟨w.heap.size + 1 + 1 + 1, 0, none⟩) 1 1] 24)) := (Ext.alloc _ _ _ : Fx (((w.alloc (.cells #[.int .i64 12, .string { data := #[] }, .int .i64 0, .slice none 0 0, .int .i64 14, .string { data := #[] }, .int .i64 0, .slice none 0 0, .int .i64 52, .string { data := #[] }, .int .i64 0, .slice none 0 0] 24)).alloc (.cells #[.int .i64 11, .string { data := #[] }, .int .i64 0, .slice (some ⟨w.heap.size, 0, none⟩) 3 3] 24)).alloc (.cells #[.int .i64 11, .string { data := #[] }, .int .i64 0, .slice (some ⟨w.heap.size, 0, none⟩) 3 3] 24)) ((((w.alloc (.cells #[.int .i64 12, .string { data := #[] }, .int .i64 0, .slice none 0 0, .int .i64 14, .string { data := #[] }, .int .i64 0, .slice none 0 0, .int .i64 52, .string { data := #[] }, .int .i64 0, .slice none 0 0] 24)).alloc (.cells #[.int .i64 11, .string { data := #[] }, .int .i64 0, .slice (some ⟨w.heap.size, 0, none⟩) 3 3] 24)).alloc (.cells #[.int .i64 11, .string { data := #[] }, .int .i64 0, .slice (some ⟨w.heap.size, 0, none⟩) 3 3] 24)).alloc (.cells #[.int .i64 19, .string { data := #[] }, .int .i64 0, .slice (some ⟨w.heap.size + 1 + 1, 0, none⟩) 1 1] 24))).of_eq (Ext.alloc _ _ _ : Fx ((((w.alloc (.cells #[.int .i64 12, .string { data := #[] }, .int .i64 0, .slice none 0 0, .int .i64 14, .string { data := #[] }, .int .i64 0, .slice none 0 0, .int .i64 52, .string { data := #[] }, .int .i64 0, .slice none 0 0] 24)).alloc (.cells #[.int .i64 11, .string { data := #[] }, .int .i64 0, .slice (some ⟨w.heap.size, 0, none⟩) 3 3] 24)).alloc (.cells #[.int .i64 11, .string { data := #[] }, .int .i64 0, .slice (some ⟨w.heap.size, 0, none⟩) 3 3] 24)).alloc (.cells #[.int .i64 19, .string { data := #[] }, .int .i64 0, .slice (some ⟨w.heap.size + 1 + 1, 0, none⟩) 1 1] 24)) (((((w.alloc (.cells #[.int .i64 12, .string { data := #[] }, .int .i64 0, .slice none 0 0, .int .i64 14, .string { data := #[] }, .int .i64 0, .slice none 0 0, .int .i64 52, .string { data := #[] }, .int .i64 0, .slice none 0 0] 24)).alloc (.cells #[.int .i64 11, .string { data := #[] }, .int .i64 0, .slice (some ⟨w.heap.size, 0, none⟩) 3 3] 24)).alloc (.cells #[.int .i64 11, .string { data := #[] }, .int .i64 0, .slice (some ⟨w.heap.size, 0, none⟩) 3 3] 24)).alloc (.cells #[.int .i64 19, .string { data := #[] }, .int .i64 0, .slice (some ⟨w.heap.size + 1 + 1, 0, none⟩) 1 1] 24)).alloc (.cells #[.int .i64 47, .string { data := #[] }, .int .i64 0, .slice (some ⟨w.heap.size + 1 + 1 + 1, 0, none⟩) 1 1] 24)))
 have x4 : Fx ((((w.alloc (.cells #[.int .i64 12, .string { data := #[] }, .int .i64 0, .slice none 0 0, .int .i64 14, .string { data := #[] }, .int .i64 0, .slice none 0 0, .int .i64 52, .string { data := #[] }, .int .i64 0, .slice none 0 0] 24)).alloc (.cells #[.int .i64 11, .string { data := #[] }, .int .i64 0, .slice (some ⟨w.heap.size, 0, none⟩) 3 3] 24)).alloc (.cells #[.int .i64 11, .string { data := #[] }, .int .i64 0, .slice (some ⟨w.heap.size, 0, none⟩) 3 3] 24)).alloc (.cells #[.int .i64 19, .string { data := #[] }, .int .i64 0, .slice (some ⟨w.heap.size + 1 + 1, 0, none⟩) 1 1] 24)) (((((w.alloc (.cells #[.int .i64 12, .string { data := #[] }, .int .i64 0, .slice none 0 0, .int .i64 14, .string { data := #[] }, .int .i64 0, .slice none 0 0, .int .i64 52, .string { data := #[] }, .int .i64 0, .slice none 0 0] 24)).alloc (.cells #[.int .i64 11, .string { data := #[] }, .int .i64 0, .slice (some ⟨w.heap.size, 0, none⟩) 3 3] 24)).alloc (.cells #[.int .i64 11, .string { data := #[] }, .int .i64 0, .slice (some ⟨w.heap.size, 0, none⟩) 3 3] 24)).alloc (.cells #[.int .i64 19, .string { data := #[] }, .int .i64 0, .slice (some ⟨w.heap.size + 1 + 1, 0, none⟩) 1 1] 24)).alloc (.cells #[.int .i64 47, .string { data := #[] }, .int .i64 0, .slice (some ⟨w.heap.size + 1 + 1 + 1, 0, none⟩) 1 1] 24)) := Ext.alloc _ _ _
 replace b0 := heap_keep x1 b0
 replace b2 := heap_keep x3 b2
 replace b3 := heap_keep x4 b3
 refine ⟨?_, z5, (Ext.alloc _ _ _ : Fx w (w.alloc (.cells #[.int .i64 12, .string { data := #[] }, .int .i64 0, .slice none 0 0, .int .i64 14, .string { data := #[] }, .int .i64 0, .slice none 0 0, .int .i64 52, .string { data := #[] }, .int .i64 0, .slice none 0 0] 24))).of_eq x1, b4⟩
 have d : ∀ k : Int, (k = 12 ∨ k = 14 ∨ k = 52) → NodeAt (w.heap.size + 5) (((((w.alloc (.cells #[.int .i64 12, .string { data := #[] }, .int .i64 0, .slice none 0 0, .int .i64 14, .string { data := #[] }, .int .i64 0, .slice none 0 0, .int .i64 52, .string { data := #[] }, .int .i64 0, .slice none 0 0] 24)).alloc (.cells #[.int .i64 11, .string { data := #[] }, .int .i64 0, .slice (some ⟨w.heap.size, 0, none⟩) 3 3] 24)).alloc (.cells #[.int .i64 11, .string { data := #[] }, .int .i64 0, .slice (some ⟨w.heap.size, 0, none⟩) 3 3] 24)).alloc (.cells #[.int .i64 19, .string { data := #[] }, .int .i64 0, .slice (some ⟨w.heap.size + 1 + 1, 0, none⟩) 1 1] 24)).alloc (.cells #[.int .i64 47, .string { data := #[] }, .int .i64 0, .slice (some ⟨w.heap.size + 1 + 1 + 1, 0, none⟩) 1 1] 24)) (nv (.mk k [] 0 []) (.slice none 0 0)) (.mk k [] 0 []) := fun k hk => nd_leaf k 0 [] (by omega) (by decide) (by simp)
 have n1 := nd_kids (B := w.heap.size + 5) b0 (by omega) 11 0 [] [(.mk 12 [] 0 [], .slice none 0 0), (.mk 14 [] 0 [], .slice none 0 0), (.mk 52 [] 0 [], .slice none 0 0)] rfl
  (fun q hq => by simp only [List.mem_cons, List.not_mem_nil, or_false] at hq; rcases hq with rfl | rfl | rfl; exact d 12 (by simp); exact d 14 (by simp); exact d 52 (by simp)) (by decide) (by decide) (by simp) 3 3 rfl (by omega)
 have n2 := nd_kids (B := w.heap.size + 5) b2 (by omega) 19 0 [] [(xFunc, .slice (some ⟨w.heap.size, 0, none⟩) 3 3)] rfl (fun q hq => by obtain rfl := List.mem_singleton.1 hq; exact n1) (by decide) (by decide) (by simp) 1 1 rfl (by omega)
 exact nd_kids (B := w.heap.size + 5) b3 (by omega) 47 0 [] [(xCall, .slice (some ⟨w.heap.size + 1 + 1, 0, none⟩) 1 1)] rfl (fun q hq => by obtain rfl := List.mem_singleton.1 hq; exact n2) (by decide) (by decide) (by simp) 1 1 rfl (by omega)

theorem sure_p (w : World) (B : Nat) (hT : Tabs B w) (hP : Pow B w) : Calls Tryz.prog 8 #[] w fun e w' => e = .returned (.bool true) ∧ Fx w w' := by
 have hsv := sv_list
 obtain ⟨n5', z5', x5', b5'⟩ := stm_mem w
 have n5 := hid n5'
 have z5 := hid z5'
 have x5 := hid x5'
 have b5 := hid b5'
 have HT := hid hT
 have HP := hid hP
 clear n5' z5' x5' b5' hT hP
 go_enter Tryz.func8, Tryz.ntmps8
 go_wp2_with (first
  | (go_at_call_of 27 (Value.int .i64 1); refine (num_p _ _).mono ?_; rintro e wa ⟨rfl, xa⟩; replace xa := hid xa)
  | (go_at_call_of 27 (Value.int .i64 2); refine (num_p _ _).mono ?_; rintro e wb ⟨rfl, xb⟩; replace xb := hid xb)
  | (go_at_call_of 27 (Value.int .i64 3); refine (num_p _ _).mono ?_; rintro e wd ⟨rfl, xd⟩; replace xd := hid xd)
  | (go_at_call_of 26 (Value.string { data := #[43] }); refine (op_p _ _ _ _ _).mono ?_; rintro e wc ⟨rfl, xc⟩; replace xc := hid xc)
  | (go_at_call_of 26 (Value.string { data := #[42] }); refine (op_p _ _ _ _ _).mono ?_; rintro e we ⟨rfl, xe⟩; replace xe := hid xe)
  | (go_at_call_of 9 (Value.string { data := #[42] })
     have bp := heap_keep xc.out (heap_new wb (.cells #[.int .i64 1, .string (sv []), .int .i64 1, .slice none 0 0, .int .i64 1, .string (sv []), .int .i64 2, .slice none 0 0] 24))
     have xce : Fx wc we := xd.out.of_eq ((Ext.alloc _ _ _).of_eq xe.out)
     replace bp := heap_keep xce bp
     have bq := heap_keep xe.out (heap_new wd (.cells #[.int .i64 16, .string { data := #[43] }, .int .i64 0, .slice (some ⟨wb.heap.size, 0, none⟩) 2 2, .int .i64 1, .string (sv []), .int .i64 3, .slice none 0 0] 24))
     have lp : wb.heap.size < we.heap.size := (Array.getElem?_eq_some_iff.1 bp).1
     have lq : wd.heap.size < we.heap.size := (Array.getElem?_eq_some_iff.1 bq).1
     have d : ∀ n : Int, (n = 1 ∨ n = 2 ∨ n = 3) → NodeAt we.heap.size we (nv (.mk 1 [] n []) (.slice none 0 0)) (.mk 1 [] n []) := fun n hn => nd_leaf 1 n [] (by decide) (by omega) (by simp)
     have n1 := nd_kids (B := we.heap.size) bp lp 16 0 [43] [(.mk 1 [] 1 [], .slice none 0 0), (.mk 1 [] 2 [], .slice none 0 0)] rfl
      (fun q hq => by simp only [List.mem_cons, List.not_mem_nil, or_false] at hq; rcases hq with rfl | rfl; exact d 1 (by simp); exact d 2 (by simp)) (by decide) (by decide) (by simp) 2 2 rfl (by omega)
     have n2 := nd_kids (B := we.heap.size) bq lq 16 0 [42] [(xPlus, .slice (some ⟨wb.heap.size, 0, none⟩) 2 2), (.mk 1 [] 3 [], .slice none 0 0)] rfl
      (fun q hq => by simp only [List.mem_cons, List.not_mem_nil, or_false] at hq; rcases hq with rfl | rfl; exact n1; exact d 3 (by simp)) (by decide) (by decide) (by simp) 2 2 rfl (by omega)
     have xwe : Fx (((((w.alloc (.cells #[.int .i64 12, .string { data := #[] }, .int .i64 0, .slice none 0 0, .int .i64 14, .string { data := #[] }, .int .i64 0, .slice none 0 0, .int .i64 52, .string { data := #[] }, .int .i64 0, .slice none 0 0] 24)).alloc (.cells #[.int .i64 11, .string { data := #[] }, .int .i64 0, .slice (some ⟨w.heap.size, 0, none⟩) 3 3] 24)).alloc (.cells #[.int .i64 11, .string { data := #[] }, .int .i64 0, .slice (some ⟨w.heap.size, 0, none⟩) 3 3] 24)).alloc (.cells #[.int .i64 19, .string { data := #[] }, .int .i64 0, .slice (some ⟨w.heap.size + 1 + 1, 0, none⟩) 1 1] 24)).alloc (.cells #[.int .i64 47, .string { data := #[] }, .int .i64 0, .slice (some ⟨w.heap.size + 1 + 1 + 1, 0, none⟩) 1 1] 24)) we := (((xa.out.of_eq xb.out).of_eq (Ext.alloc _ _ _)).of_eq xc.out).of_eq xce
     have hle := HT.out.le
     have hsz := (x5.out.of_eq xwe).size
     have hTe := (HT.out.keepF (x5.out.of_eq xwe)).up (B' := we.heap.size) (by omega) (Nat.le_refl _)
     have hPe := (HP.out.keepF (x5.out.of_eq xwe)).up (B' := we.heap.size) (by omega) (Nat.le_refl _)
     refine (show_star we.heap.size we _ ⟨n2, hTe⟩ hPe).mono ?_
     rintro e wf ⟨rfl, xf⟩
     have hb := heap_keep (xwe.of_eq xf) b5.out
     have c0 := cell_of_heap (i := 0) hb rfl
     have c1 := cell_of_heap (i := 1) hb rfl
     have c2 := cell_of_heap (i := 2) hb rfl
     have c3 := cell_of_heap (i := 3) hb rfl
     have x9 := hid (xwe.of_eq xf)
     clear bp xce bq lp lq d n1 n2 hle hsz hTe hPe xwe xf hb)
  | (go_at_call_of 9 (Value.int .i64 68)
     have hb := heap_new wh (.cells #[.int .i64 47, .string { data := #[] }, .int .i64 0, .slice (some ⟨w.heap.size + 1 + 1 + 1, 0, none⟩) 1 1] 24)
     have xm := x9.out.of_eq (Ext.alloc (fun _ => False) wh (.cells #[.int .i64 47, .string { data := #[] }, .int .i64 0, .slice (some ⟨w.heap.size + 1 + 1 + 1, 0, none⟩) 1 1] 24))
     have z := alloc_size wh (.cells #[.int .i64 47, .string { data := #[] }, .int .i64 0, .slice (some ⟨w.heap.size + 1 + 1 + 1, 0, none⟩) 1 1] 24)
     have hle := HT.out.le
     have hsz := (x5.out.of_eq xm).size
     have h5 := x9.out.size
     rw [z5.out] at h5
     have n1 := nd_kids (B := wh.heap.size + 1) hb (by omega) 68 0 [] [(xStm, .slice (some ⟨w.heap.size + 1 + 1 + 1, 0, none⟩) 1 1)] rfl (fun q hq => by obtain rfl := List.mem_singleton.1 hq; exact (n5.out.keepF xm).monoB (by omega)) (by decide) (by decide) (by simp) 1 1 rfl (by omega)
     have hTe := (HT.out.keepF (x5.out.of_eq xm)).up (B' := wh.heap.size + 1) (by omega) (by omega)
     have hPe := (HP.out.keepF (x5.out.of_eq xm)).up (B' := wh.heap.size + 1) (by omega) (by omega)
     refine (show_mod (wh.heap.size + 1) _ _ ⟨n1, hTe⟩ hPe).mono ?_
     rintro e wi ⟨rfl, xi⟩
     replace x9 := hid (xm.of_eq xi)
     clear hb xm z hle hsz h5 n1 hTe hPe xi)
  | (go_at_call_of 9 (Value.int .i64 47)
     have hle := HT.out.le
     have hsz := (x5.out.of_eq x9.out).size
     have h5 := x9.out.size
     rw [z5.out] at h5
     have hTe := (HT.out.keepF (x5.out.of_eq x9.out)).up (B' := wf.heap.size) (by omega) (Nat.le_refl _)
     have hPe := (HP.out.keepF (x5.out.of_eq x9.out)).up (B' := wf.heap.size) (by omega) (Nat.le_refl _)
     refine (show_stm wf.heap.size wf _ ⟨(n5.out.keepF x9.out).monoB h5, hTe⟩ hPe).mono ?_
     rintro e wg ⟨rfl, xg⟩
     replace ⟨c0, c1, c2, c3⟩ := F4 xg c0 c1 c2 c3
     replace x9 := hid (x9.out.of_eq xg)
     clear hle hsz h5 hTe hPe xg)
  | (go_at_call 9
     have hTe := HT.out.keepF (x5.out.of_eq x9.out)
     have hPe := HP.out.keepF (x5.out.of_eq x9.out)
     refine (show_0 B wg _ ⟨nd_leaf 0 0 [] (by decide) (by decide) (by simp), hTe⟩ hPe).mono ?_
     rintro e wh ⟨rfl, xh⟩
     replace ⟨c0, c1, c2, c3⟩ := F4 xh c0 c1 c2 c3
     replace x9 := hid (x9.out.of_eq xh)
     clear hTe hPe xh))
 go_ret
 exact ⟨rfl, x5.out.of_eq x9.out⟩

end Go.Proofs.YtpmlmpibpmoclaaGreatDoor
