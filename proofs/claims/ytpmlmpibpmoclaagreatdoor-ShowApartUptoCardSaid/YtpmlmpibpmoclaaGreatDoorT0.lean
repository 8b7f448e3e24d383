/-
  The program's own tests: the library's tables, valid texts.
-/
import Derived.Test.YtpmlmpibpmoclaaGreatDoorR1
import Derived.Shelf.Unicode.ValidAny
namespace Go.Proofs.YtpmlmpibpmoclaaGreatDoor
set_option linter.all false
open Go.RowKit

def Tryz.lv_ren : Go.Shelf.Ren := ⟨fun | 196 => 221 | 259 => 237 | n => n, fun | 9 => 9 | 4 => 4 | 3 => 3 | 5 => 5 | 12 => 12 | 119 => 172 | 0 => 0 | 46 => 118 | 139 => 175 | 138 => 174 | 53 => 145 | n => n, fun | 3 => 0 | 4 => 1 | n => n⟩

theorem Tryz.lv : Go.Proofs.Lays.n196 Tryz.prog Tryz.lv_ren :=
  {  mixed := by kernel_rfl,
     f196 := Tryz.func221.trans (congrArg some (by kernel_rfl)),
     f259 := Tryz.func237.trans (congrArg some (by kernel_rfl)),
     t0 := Tryz.underlying0,
     a0 := Tryz.isAgg0,
     z0 := Tryz.sizeOf0,
     v0 := Tryz.zeroValue0,
     t3 := Tryz.underlying3,
     a3 := Tryz.isAgg3,
     z3 := Tryz.sizeOf3,
     v3 := Tryz.zeroValue3,
     t4 := Tryz.underlying4,
     a4 := Tryz.isAgg4,
     z4 := Tryz.sizeOf4,
     v4 := Tryz.zeroValue4,
     t5 := Tryz.underlying5,
     a5 := Tryz.isAgg5,
     z5 := Tryz.sizeOf5,
     v5 := Tryz.zeroValue5,
     t9 := Tryz.underlying9,
     a9 := Tryz.isAgg9,
     z9 := Tryz.sizeOf9,
     v9 := Tryz.zeroValue9,
     t12 := Tryz.underlying12,
     a12 := Tryz.isAgg12,
     z12 := Tryz.sizeOf12,
     v12 := Tryz.zeroValue12,
     t46 := Tryz.underlying118,
     a46 := Tryz.isAgg118,
     z46 := Tryz.sizeOf118,
     v46 := Tryz.zeroValue118,
     t53 := Tryz.underlying145,
     a53 := Tryz.isAgg145,
     z53 := Tryz.sizeOf145,
     v53 := Tryz.zeroValue145,
     t119 := Tryz.underlying172,
     a119 := Tryz.isAgg172,
     z119 := Tryz.sizeOf172,
     t138 := Tryz.underlying174,
     a138 := Tryz.isAgg174,
     z138 := Tryz.sizeOf174,
     v138 := Tryz.zeroValue174,
     t139 := Tryz.underlying175,
     a139 := Tryz.isAgg175,
     z139 := Tryz.sizeOf175,
     v139 := Tryz.zeroValue175,
     g3 := by kernel_rfl,
     g4 := by kernel_rfl }

/-- The library's tables of UTF-8, as start-up laid them; they lie below B. -/
structure Tabs (B : Nat) (w : World) : Prop where
  le : B ≤ w.heap.size
  all : ∀ w', Below B w w' → Lib.Utf8Tabs (Tryz.lv_ren.g 3) (Tryz.lv_ren.g 4) w'
  bru : ∀ w', Below B w w' → w'.cell? ⟨7, 15, none⟩ = some (.int .u8 4)

theorem Tabs.keep {B : Nat} {w w' : World} {X : Nat → Prop} (h : Tabs B w) (hx : Ext X w w') (hX : ∀ g, X g → B ≤ g) : Tabs B w' :=
  ⟨Nat.le_trans h.le hx.size, fun w'' hb => h.all w'' ((hx.below h.le fun k _ hk => hX k hk).trans hb), fun w'' hb => h.bru w'' ((hx.below h.le fun k _ hk => hX k hk).trans hb)⟩
theorem Tabs.keepF {B : Nat} {w w' : World} (h : Tabs B w) (hx : Fx w w') : Tabs B w' := h.keep hx fun _ h => h.elim
theorem Tabs.now {B : Nat} {w : World} (h : Tabs B w) : Lib.Utf8Tabs (Tryz.lv_ren.g 3) (Tryz.lv_ren.g 4) w := h.all w (Below.refl _ _)

/-- A tree in memory, and the tables. -/
structure NT (B : Nat) (w : World) (v : Value) (x : Tr) : Prop where
  node : NodeAt B w v x
  tab : Tabs B w
theorem NT.keepF {B : Nat} {w w' : World} {v : Value} {x : Tr} (h : NT B w v x) (hx : Fx w w') : NT B w' v x := ⟨h.node.keepF hx, h.tab.keepF hx⟩

theorem fx_below {w w' : World} (h : Below w.heap.size w w') : Fx w w' := ⟨h.os, h.tape, h.output, h.size, fun k hk _ => h.block k hk⟩

theorem valid_t (s : Bs) (hl : s.length ≤ 4398046511104) (B : Nat) (w : World) (hT : Tabs B w) : Calls Tryz.prog 171 #[.string (sv s)] w (Ans (valid s) w) := by
  have cV : Calls Tryz.prog 221 #[.string (sv s)] w _ := Any.utf8_ValidString Tryz.lv (sv s) w (by rw [sv_size]; omega) hT.now
  have e : Lib.validD (sv s).data.toList = valid s := by rw [show (sv s).data.toList = s by simp [sv]]; exact validD_eq s
  rw [e] at cV
  clear e
  go_enter Tryz.func171, Tryz.ntmps171
  go_wp2_with (go_at_call 221; refine cV.mono ?_; rintro e w1 ⟨rfl, hb⟩)
  go_ret
  exact ⟨rfl, fx_below hb⟩

theorem X5 {w w1 w2 : World} {a b c d : Addr} {u v x y : Value} {B : Nat} {q : Value} {r : Tr} (z : Fx w1 w2) (xx : Fx w w1) (h0 : w1.cell? a = some u) (h1 : w1.cell? b = some v) (h2 : w1.cell? c = some x) (h3 : w1.cell? d = some y) (hd : Hid (NT B w1 q r)) :
    Fx w w2 ∧ (w2.cell? a = some u ∧ w2.cell? b = some v ∧ w2.cell? c = some x ∧ w2.cell? d = some y) ∧ Hid (NT B w2 q r) := ⟨xx.of_eq z, F4 z h0 h1 h2 h3, hd.out.keepF z⟩
theorem D2 {B : Nat} {w w' : World} {u : Value} {l : List Tr} (z : Fx w w') (hk : Hid (KidsAt B w u l)) (hT : Hid (Tabs B w)) : Hid (KidsAt B w' u l) ∧ Hid (Tabs B w') := ⟨hk.out.keepF z, hT.out.keepF z⟩
theorem hT_ {B : Nat} {w : World} {v : Value} {k n : Int} {t : Bs} {l : List Tr} (h : NT B w v (.mk k t n l)) : ∃ p c, v = nv (.mk k t n l) (.slice p l.length c) ∧ KidsAt B w (.slice p l.length c) l ∧ (-9223372036854775808 ≤ k ∧ k ≤ 9223372036854775807) ∧ (-9223372036854775808 ≤ n ∧ n ≤ 9223372036854775807) ∧ t.length ≤ 4398046511104 ∧ (l.length ≤ c ∧ l.length ≤ 4398046511104) ∧ (∀ i (hi : i < l.length), ∃ g o s, p = some ⟨g, o, none⟩ ∧ g < B ∧
    w.cell? ⟨g, o + i * 4, none⟩ = some (.int .i64 l[i].k) ∧ w.cell? ⟨g, o + i * 4 + 1, none⟩ = some (.string (sv l[i].t)) ∧
    w.cell? ⟨g, o + i * 4 + 2, none⟩ = some (.int .i64 l[i].n) ∧ w.cell? ⟨g, o + i * 4 + 3, none⟩ = some s ∧ NodeAt B w (nv l[i] s) l[i]) ∧
    Fx w (w.alloc (.cells #[.int .i64 k, .string (sv t), .int .i64 n, .slice p l.length c] 24)) ∧ Hid ((w.alloc (.cells #[.int .i64 k, .string (sv t), .int .i64 n, .slice p l.length c] 24)).cell? ⟨w.heap.size, 0, none⟩ = some (.int .i64 k) ∧ (w.alloc (.cells #[.int .i64 k, .string (sv t), .int .i64 n, .slice p l.length c] 24)).cell? ⟨w.heap.size, 1, none⟩ = some (.string (sv t)) ∧ (w.alloc (.cells #[.int .i64 k, .string (sv t), .int .i64 n, .slice p l.length c] 24)).cell? ⟨w.heap.size, 2, none⟩ = some (.int .i64 n) ∧ (w.alloc (.cells #[.int .i64 k, .string (sv t), .int .i64 n, .slice p l.length c] 24)).cell? ⟨w.heap.size, 3, none⟩ = some (.slice p l.length c)) ∧ Hid (NT B (w.alloc (.cells #[.int .i64 k, .string (sv t), .int .i64 n, .slice p l.length c] 24)) (nv (.mk k t n l) (.slice p l.length c)) (.mk k t n l)) ∧ Hid (KidsAt B (w.alloc (.cells #[.int .i64 k, .string (sv t), .int .i64 n, .slice p l.length c] 24)) (.slice p l.length c) l) ∧ Hid (Tabs B (w.alloc (.cells #[.int .i64 k, .string (sv t), .int .i64 n, .slice p l.length c] 24))) := by
  obtain ⟨p, c, e, hks, hkr, hnr, htl, hcp, hkid, xw, C, _, hk⟩ := hR h.node
  exact ⟨p, c, e, hks, hkr, hnr, htl, hcp, hkid, xw, C, by rw [← e]; exact h.keepF xw, hk, h.tab.keepF xw⟩


/-- 'like(n, false, false)'. -/
theorem like_any (B : Nat) (x : Tr) (v : Value) (w : World) (h : NodeAt B w v x) : Calls Tryz.prog 56 #[v, .bool false, .bool false] w (Ans (plainT x) w) := by
 obtain ⟨sl, rfl, _⟩ := h.open
 obtain ⟨k, t, n, l⟩ := x
 obtain ⟨c0, c1, c2, c3⟩ := nd_cells w k n (sv t) sl
 have xa : Fx w (w.alloc (.cells #[.int .i64 k, .string (sv t), .int .i64 n, sl] 24)) := Ext.alloc _ _ _
 have hsv := sv_list
 simp only [nv, Tr.k, Tr.t, Tr.n]
 by_cases ht : t = []
 ·subst ht
  by_cases hn : n = 0
  ·subst hn
   go_enter Tryz.func56, Tryz.ntmps56
   go_wp2
   go_ret
   exact .mk (by rfl) xa
  ·have hp := hid (show plainT (.mk k [] n l) = false by simp [plainT, Tr.t, Tr.n, hn])
   have hn2 : (n == 0) = false := by simpa using hn
   go_enter Tryz.func56, Tryz.ntmps56
   go_wp2
   go_ret
   exact .mk hp.out xa
 ·have hp := hid (show plainT (.mk k t n l) = false by simp [plainT, Tr.t, Tr.n, ht])
  have ht2 : (t == []) = false := by simpa using ht
  go_enter Tryz.func56, Tryz.ntmps56
  go_wp2
  go_ret
  exact .mk hp.out xa

theorem tnone_any (B : Nat) (x : Tr) (v : Value) (w : World) (h : NodeAt B w v x) : Calls Tryz.prog 172 #[v] w (Ans (isNone x) w) := by
 obtain ⟨sl, rfl, hks, _⟩ := id h.open
 obtain ⟨k, t, n, l⟩ := x
 simp only [Tr.l] at hks
 obtain ⟨p, c, rfl, hcp, hkid⟩ := hks.kid
 have xa : Fx w (w.alloc (.cells #[.int .i64 k, .string (sv t), .int .i64 n, .slice p l.length c] 24)) := Ext.alloc _ _ _
 obtain ⟨c0, c1, c2, c3⟩ := nd_cells w k n (sv t) (.slice p l.length c)
 have hd := hid (h.keepF xa)
 clear h hks hkid hcp
 simp only [nv, Tr.k, Tr.t, Tr.n] at hd ⊢
 by_cases hk : k = 14
 ·subst hk
  cases hp : plainT (.mk 14 t n l)
  ·have hr := hid (show isNone (.mk 14 t n l) = false by unfold isNone; rw [hp]; simp)
   go_enter Tryz.func172, Tryz.ntmps172
   go_wp2_with (go_at_call 56; refine (like_any B _ _ _ hd.out).mono ?_; rintro e w1 ⟨rfl, x1⟩; replace c3 := x1.cellF c3)
   go_ret
   exact .mk hr.out (xa.of_eq x1)
  ·by_cases hl : l = []
   ·subst hl
    have hr := hid (show isNone (.mk 14 t n []) = true by unfold isNone; rw [hp]; rfl)
    go_enter Tryz.func172, Tryz.ntmps172
    go_wp2_with (go_at_call 56; refine (like_any B _ _ _ hd.out).mono ?_; rintro e w1 ⟨rfl, x1⟩; replace c3 := x1.cellF c3)
    go_ret
    exact .mk hr.out (xa.of_eq x1)
   ·have hr := hid (show isNone (.mk 14 t n l) = false by unfold isNone bare; simp [Tr.l, hl])
    have hl2 : ((l.length : Int) == 0) = false := by simpa using hl
    go_enter Tryz.func172, Tryz.ntmps172
    go_wp2_with (go_at_call 56; refine (like_any B _ _ _ hd.out).mono ?_; rintro e w1 ⟨rfl, x1⟩; replace c3 := x1.cellF c3)
    go_ret
    exact .mk hr.out (xa.of_eq x1)
 ·have hr := hid (show isNone (.mk k t n l) = false by unfold isNone; simp [Tr.k, hk])
  have hk2 : (k == 14) = false := by simpa using hk
  go_enter Tryz.func172, Tryz.ntmps172
  go_wp2
  go_ret
  exact .mk hr.out xa


def TTypeC (N : Nat) : Prop := ∀ x : Tr, cnt x < N → isT x = true → ∀ B v w, NT B w v x → Calls Tryz.prog 65 #[v] w (Ans true w)

theorem ttypeOr_any {N : Nat} (ih : TTypeC N) (x : Tr) (hx : cnt x < N) (ht : isTyOr x = true) (B : Nat) (v : Value) (w : World) (h : NT B w v x) : Calls Tryz.prog 115 #[v] w (Ans true w) := by
 obtain ⟨sl, rfl, hks, _, _, htl⟩ := id h.node.open
 have xw : Fx w (w.alloc (.cells #[.int .i64 x.k, .string (sv x.t), .int .i64 x.n, sl] 24)) := Ext.alloc _ _ _
 obtain ⟨c0, c1, c2, c3⟩ := nd_cells w x.k x.n (sv x.t) sl
 have hd := hid (h.keepF xw)
 have ht' := hid ht
 clear h hks htl ht
 simp only [nv] at hd ⊢
 cases hn : isNone x
 ·have hT := hid (show isT x = true by have := ht'.out; unfold isTyOr at this; rw [hn] at this; simpa using this)
  go_enter Tryz.func115, Tryz.ntmps115
  go_wp2_with (first
   | (go_at_call 172; refine (tnone_any B x _ _ hd.out.node).mono ?_; rintro e w1 ⟨rfl, x1⟩; replace ⟨c0, c1, c2, c3⟩ := F4 x1 c0 c1 c2 c3; have hd1 := hid (hd.out.keepF x1))
   | (go_at_call 65; refine (ih x hx hT.out B _ _ hd1.out).mono ?_; rintro e w2 ⟨rfl, x2⟩))
  go_ret
  exact .mk rfl ((xw.of_eq x1).of_eq x2)
 ·go_enter Tryz.func115, Tryz.ntmps115
  go_wp2_with (go_at_call 172; refine (tnone_any B x _ _ hd.out.node).mono ?_; rintro e w1 ⟨rfl, x1⟩)
  go_ret
  exact .mk rfl (xw.of_eq x1)

end Go.Proofs.YtpmlmpibpmoclaaGreatDoor
