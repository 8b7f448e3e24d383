/-
  The program's own tests on trees: spaces, texts without a $, imports, exports from.
-/
import Derived.Test.YtpmlmpibpmoclaaGreatDoorT10
import Derived.Lib.ConvBytes
namespace Go.Proofs.YtpmlmpibpmoclaaGreatDoor
set_option linter.all false
set_option maxRecDepth 20000
set_option maxHeartbeats 4000000
open Go.RowKit

theorem t122 (t : Bs) (ya : Tr) (B : Nat) (v : Value) (w : World) (h : NT B w v (.mk 67 t 0 [ya])) (hs : signs t = true) (ha : isName false ya = true) : Calls Tryz.prog 122 #[v] w (Ans true w) := by
 have hsv := sv_list
 obtain ⟨p, c, rfl, hks, hkr, hnr, htl, hcp, hkid, xw, C, hd, hk, hT⟩ := hT_ h
 have xx := xw
 obtain ⟨c0, c1, c2, c3⟩ := C.out
 have hll := hid hcp.2
 have Ha := hid ha
 have H := hid hs
 clear ha hs
 clear h hks hkid hcp hkr hnr
 simp only [nv, Tr.k, Tr.t, Tr.n, Tr.l, lC, lN, zA, Nat.reduceAdd] at *
 go_enter Tryz.func122, Tryz.ntmps122
 go_wp2_with ((first | (go_at_call 120; refine (prop_t t htl H.out B _ hT.out).mono ?_; rintro e w120 ⟨rfl, z_⟩) | (go_at_call 109; refine (row_123 _ _ _ ya B _ _ hd.out (name_t ya Ha.out B) _ _ _ rfl).mono ?_; rintro e w109 ⟨rfl, z_⟩)) <;> (replace ⟨xx, ⟨c0, c1, c2, c3⟩, hd⟩ := X5 z_ xx c0 c1 c2 c3 hd; replace ⟨hk, hT⟩ := D2 z_ hk hT))
 go_ret
 exact .mk rfl xx

theorem t63 (t : Bs) (l : List Tr) (B : Nat) (v : Value) (w : World) (h : NT B w v (.mk 66 t 0 l)) (hs : isId t = true) (ha : ∀ y ∈ l, ∃ t z, y = .mk 67 t 0 [z] ∧ signs t = true ∧ isName false z = true) : Calls Tryz.prog 63 #[v] w (Ans true w) := by
 have hsv := sv_list
 obtain ⟨p, c, rfl, hks, hkr, hnr, htl, hcp, hkid, xw, C, hd, hk, hT⟩ := hT_ h
 have xx := xw
 obtain ⟨c0, c1, c2, c3⟩ := C.out
 have hll := hid hcp.2
 have Ha := hid ha
 have H := hid hs
 clear ha hs
 clear h hks hkid hcp hkr hnr
 simp only [nv, Tr.k, Tr.t, Tr.n, Tr.l, lC, lN, zA, Nat.reduceAdd] at *
 go_enter Tryz.func63, Tryz.ntmps63
 go_wp2_with ((first | (go_at_call 108; refine (id_t t htl H.out B _ hT.out).mono ?_; rintro e w108 ⟨rfl, z_⟩) | (go_at_call 57; refine (all_122 l B _ _ hk.out hT.out (fun y hy u w' hn => by obtain ⟨t', z, rfl, h3, h4⟩ := Ha.out y hy; exact t122 t' z B u w' hn h3 h4)).mono ?_; rintro e w57 ⟨rfl, z_⟩)) <;> (replace ⟨xx, ⟨c0, c1, c2, c3⟩, hd⟩ := X5 z_ xx c0 c1 c2 c3 hd; replace ⟨hk, hT⟩ := D2 z_ hk hT))
 go_ret
 exact .mk rfl xx

theorem space_t (x : Tr) (hx : isSpace x = true) (B : Nat) (v : Value) (w : World) (h : NT B w v x) : Calls Tryz.prog 63 #[v] w (Ans true w) := by
 obtain ⟨k, t, n, l⟩ := x
 simp [isSpace, Tr.k, Tr.t, Tr.n, Tr.l] at hx
 obtain ⟨⟨⟨rfl, h1⟩, rfl⟩, h2⟩ := hx
 refine t63 t l B v w h h1 fun y hy => ?_
 have h3 := h2 y hy
 obtain ⟨yk, yt, yn, yl⟩ := y
 rcases yl with _ | ⟨z, _ | ⟨z2, m⟩⟩ <;> simp at h3
 obtain ⟨⟨⟨rfl, rfl⟩, h4⟩, h5⟩ := h3
 exact ⟨yt, z, rfl, h4, h5⟩

/-! ### texts without a $ -/

/-- v is a slice of the bytes t. -/
def SlB (w : World) (v : Value) (t : Bs) : Prop := ∃ p c, v = .slice p t.length c ∧ ∀ i (h : i < t.length), ∃ g o, p = some ⟨g, o, none⟩ ∧ w.cell? ⟨g, o + i, none⟩ = some (.int .u8 (t[i].toNat : Int))

theorem indexb_t (t : Bs) (hn : ¬ (36 : UInt8) ∈ t) (v : Value) (w : World) (h : SlB w v t) (hl : t.length ≤ 4398046511104) : Calls Tryz.prog 173 #[v, .int .u8 36] w (TellsI (-1) w) := by
 obtain ⟨p, c, rfl, hcell⟩ := h
 have H := hid hcell
 have HN := hid hn
 clear hcell hn
 go_enter Tryz.func173, Tryz.ntmps173
 go_wp2
 go_loop [8] (fun i => ∃ j : Nat, j ≤ t.length ∧ i = .int .i64 j) (fun i => t.length - (intOf i).toNat)
 case atStart => exact ⟨0, Nat.zero_le _, rfl⟩
 case round =>
  obtain ⟨j, hj, rfl⟩ := hrel
  by_cases hlt : j < t.length
  ·obtain ⟨g, o, rfl, hc⟩ := H.out j hlt
   have hq : t[j] ≠ 36 := fun e => HN.out (e ▸ List.getElem_mem hlt)
   have hq2 : ¬ t[j].toNat = 36 := fun e => hq (UInt8.toNat_inj.1 (by simpa using e))
   generalize t[j].toNat = q at *
   have hnq : ((36 : Int) == (q : Int)) = false := by simp; omega
   clear hq hq2
   go_wp2
   go_round
   case rel => exact ⟨j + 1, by omega, by go_num⟩
   case measure => simp [intOf]; omega
  ·go_wp2
   go_ret
   exact ⟨rfl, rfl⟩
theorem containsb_t (t : Bs) (hn : ¬ (36 : UInt8) ∈ t) (v : Value) (w : World) (h : SlB w v t) (hl : t.length ≤ 4398046511104) : Calls Tryz.prog 114 #[v, .int .u8 36] w (Tells false w) := by
 obtain ⟨p, c, rfl, hcell⟩ := id h
 go_enter Tryz.func114, Tryz.ntmps114
 go_wp2_with (go_at_call 173; refine (indexb_t t hn _ _ h hl).mono ?_; rintro e w1 ⟨rfl, rfl⟩)
 go_ret
 exact .mk rfl

theorem fx_bytes (w : World) (e : TypeId) (s : ByteArray) : Fx w (Lib.bytesWorld w e s) :=
 ⟨rfl, rfl, rfl, by rw [Lib.bytesWorld_size]; omega, fun k hk _ => Lib.bytesWorld_at_old w e s k hk⟩
theorem slb_bytes (w : World) (t : Bs) (c : Nat) : SlB (Lib.bytesWorld w 5 (sv t)) (.slice (some ⟨w.heap.size, 0, none⟩) t.length c) t :=
 ⟨_, _, rfl, fun i h => ⟨w.heap.size, 0, rfl, by
  rw [Nat.zero_add, Lib.bytesWorld_cell w 5 (sv t) i (by rw [sv_size]; exact h)]
  rw [show (sv t).data.toList = t by simp [sv]]
  simp [List.getD_eq_getElem?_getD, List.getElem?_eq_getElem h]⟩⟩

def TFreeC (N : Nat) : Prop := ∀ x : Tr, cnt x < N → dollar x = false → ∀ B v w, NT B w v x → Calls Tryz.prog 59 #[v] w (Ans true w)
theorem dollars_mem {l : List Tr} (h : dollars l = false) : ∀ y ∈ l, dollar y = false := by
 induction l with
 | nil => intro y hy; cases hy
 | cons x r ih =>
  simp [dollars] at h
  intro y hy
  rcases List.mem_cons.1 hy with rfl | hy
  ·exact h.1
  ·exact ih h.2 y hy

theorem t59_2 {N : Nat} (ih : TFreeC N) (t : Bs) (n : Int) (l : List Tr) (B : Nat) (v : Value) (w : World) (h : NT B w v (.mk 2 t n l)) (hc : cnts l < N) (ha : ∀ y ∈ l, dollar y = false) : Calls Tryz.prog 59 #[v] w (Ans true w) := by
 have hsv := sv_list
 obtain ⟨p, c, rfl, hks, hkr, hnr, htl, hcp, hkid, xw, C, hd, hk, hT⟩ := hT_ h
 have xx := xw
 obtain ⟨c0, c1, c2, c3⟩ := C.out
 have hll := hid hcp.2
 have Hc := hid hc
 have Ha := hid ha
 clear hc ha
 clear h hks hkid hcp hkr hnr
 simp only [nv, Tr.k, Tr.t, Tr.n, Tr.l, lC, lN, zA, Nat.reduceAdd] at *
 go_enter Tryz.func59, Tryz.ntmps59
 go_wp2_with (go_at_call 57; refine (all_59 l B _ _ hk.out hT.out (fun y hy u w' hn => ih y (Nat.lt_of_le_of_lt (cnt_mem hy) Hc.out) (Ha.out y hy) B u w' hn)).mono ?_; rintro e w57 ⟨rfl, z_⟩; replace ⟨xx, ⟨c0, c1, c2, c3⟩, hd⟩ := X5 z_ xx c0 c1 c2 c3 hd; replace ⟨hk, hT⟩ := D2 z_ hk hT)
 go_ret
 exact .mk rfl xx

theorem t59_60 {N : Nat} (ih : TFreeC N) (t : Bs) (n : Int) (l : List Tr) (B : Nat) (v : Value) (w : World) (h : NT B w v (.mk 60 t n l)) (hc : cnts l < N) (ha : ∀ y ∈ l, dollar y = false) : Calls Tryz.prog 59 #[v] w (Ans true w) := by
 have hsv := sv_list
 obtain ⟨p, c, rfl, hks, hkr, hnr, htl, hcp, hkid, xw, C, hd, hk, hT⟩ := hT_ h
 have xx := xw
 obtain ⟨c0, c1, c2, c3⟩ := C.out
 have hll := hid hcp.2
 have Hc := hid hc
 have Ha := hid ha
 clear hc ha
 clear h hks hkid hcp hkr hnr
 simp only [nv, Tr.k, Tr.t, Tr.n, Tr.l, lC, lN, zA, Nat.reduceAdd] at *
 go_enter Tryz.func59, Tryz.ntmps59
 go_wp2_with (go_at_call 57; refine (all_59 l B _ _ hk.out hT.out (fun y hy u w' hn => ih y (Nat.lt_of_le_of_lt (cnt_mem hy) Hc.out) (Ha.out y hy) B u w' hn)).mono ?_; rintro e w57 ⟨rfl, z_⟩; replace ⟨xx, ⟨c0, c1, c2, c3⟩, hd⟩ := X5 z_ xx c0 c1 c2 c3 hd; replace ⟨hk, hT⟩ := D2 z_ hk hT)
 go_ret
 exact .mk rfl xx

theorem t59_64 {N : Nat} (ih : TFreeC N) (t : Bs) (n : Int) (l : List Tr) (B : Nat) (v : Value) (w : World) (h : NT B w v (.mk 64 t n l)) (hc : cnts l < N) (ha : ∀ y ∈ l, dollar y = false) : Calls Tryz.prog 59 #[v] w (Ans true w) := by
 have hsv := sv_list
 obtain ⟨p, c, rfl, hks, hkr, hnr, htl, hcp, hkid, xw, C, hd, hk, hT⟩ := hT_ h
 have xx := xw
 obtain ⟨c0, c1, c2, c3⟩ := C.out
 have hll := hid hcp.2
 have Hc := hid hc
 have Ha := hid ha
 clear hc ha
 clear h hks hkid hcp hkr hnr
 simp only [nv, Tr.k, Tr.t, Tr.n, Tr.l, lC, lN, zA, Nat.reduceAdd] at *
 go_enter Tryz.func59, Tryz.ntmps59
 go_wp2_with (go_at_call 57; refine (all_59 l B _ _ hk.out hT.out (fun y hy u w' hn => ih y (Nat.lt_of_le_of_lt (cnt_mem hy) Hc.out) (Ha.out y hy) B u w' hn)).mono ?_; rintro e w57 ⟨rfl, z_⟩; replace ⟨xx, ⟨c0, c1, c2, c3⟩, hd⟩ := X5 z_ xx c0 c1 c2 c3 hd; replace ⟨hk, hT⟩ := D2 z_ hk hT)
 go_ret
 exact .mk rfl xx

theorem t59_k {N : Nat} (ih : TFreeC N) (k : Int) (t : Bs) (n : Int) (l : List Tr) (B : Nat) (v : Value) (w : World) (h : NT B w v (.mk k t n l)) (hc : cnts l < N) (ha : ∀ y ∈ l, dollar y = false) (h2 : ¬ k = 2) (h60 : ¬ k = 60) (h64 : ¬ k = 64) (hn36 : ¬ (36 : UInt8) ∈ t) : Calls Tryz.prog 59 #[v] w (Ans true w) := by
 have hsv := sv_list
 obtain ⟨p, c, rfl, hks, hkr, hnr, htl, hcp, hkid, xw, C, hd, hk, hT⟩ := hT_ h
 have xx := xw
 obtain ⟨c0, c1, c2, c3⟩ := C.out
 have hll := hid hcp.2
 have Hc := hid hc
 have Ha := hid ha
 clear hc ha
 have k2 : (k == 2) = false := by simpa using h2
 have k60 : (k == 60) = false := by simpa using h60
 have k64 : (k == 64) = false := by simpa using h64
 have Hd := hid hn36
 clear hn36
 clear h hks hkid hcp hkr hnr
 simp only [nv, Tr.k, Tr.t, Tr.n, Tr.l, lC, lN, zA, Nat.reduceAdd] at *
 have hcv := Lib.run_convert_string_bytes (P := Tryz.prog) (w.alloc (.cells #[.int .i64 k, .string (sv t), .int .i64 n, .slice p l.length c] 24)) 9 47 5 (sv t) (u := .string) Tryz.underlying9 Tryz.underlying47 Tryz.underlying5
 rw [sv_size] at hcv
 have xv := fx_bytes (w.alloc (.cells #[.int .i64 k, .string (sv t), .int .i64 n, .slice p l.length c] 24)) 5 (sv t)
 have hsb := hid (fun c' => slb_bytes (w.alloc (.cells #[.int .i64 k, .string (sv t), .int .i64 n, .slice p l.length c] 24)) t c')
 have hk2 := hid (hk.out.keepF xv)
 have hT2 := hid (hT.out.keepF xv)
 have g3 := xv.cellF c3
 have xx2 := xx.of_eq xv
 generalize Lib.bytesWorld (w.alloc (.cells #[.int .i64 k, .string (sv t), .int .i64 n, .slice p l.length c] 24)) 5 (sv t) = BW at *
 have hsb2 := hsb.out
 rw [alloc_size] at hsb2
 replace hsb := hid hsb2
 clear hsb2
 go_enter Tryz.func59, Tryz.ntmps59
 go_wp2_with (first
  | (go_at_call 114; refine (containsb_t t Hd.out _ _ (hsb.out _) htl).mono ?_; rintro e w114 ⟨rfl, rfl⟩)
  | (go_at_call 57; refine (all_59 l B _ _ hk2.out hT2.out (fun y hy u w' hn => ih y (Nat.lt_of_le_of_lt (cnt_mem hy) Hc.out) (Ha.out y hy) B u w' hn)).mono ?_; rintro e w57 ⟨rfl, x57⟩))
 go_ret
 exact .mk rfl (xx2.of_eq x57)

def fstT (l : List Tr) : Bs := match l with | [] => [] | y :: _ => y.t
def ImpKid (l : List Tr) (i : Nat) (x : Tr) : Prop := ∃ kt o, x = .mk 61 kt 0 [o] ∧ isName false o = true ∧
 ((kt = [42] ∧ i + 1 = l.length ∧ (i = 0 ∨ (i = 1 ∧ fstT l = [100, 101, 102, 97, 117, 108, 116]))) ∨ (¬ kt = [42] ∧ signs kt = true))
theorem imps_kid {f : Bs} {l : List Tr} {i : Nat} (h : impsOk f i l = true) : ∀ j (hj : j < l.length), ∃ kt o, l[j] = .mk 61 kt 0 [o] ∧ isName false o = true ∧
  ((kt = [42] ∧ j + 1 = l.length ∧ (i + j = 0 ∨ (i + j = 1 ∧ f = [100, 101, 102, 97, 117, 108, 116]))) ∨ (¬ kt = [42] ∧ signs kt = true)) := by
 induction l generalizing i with
 | nil => intro j hj; simp at hj
 | cons x r ih =>
  obtain ⟨k, t, n, m⟩ := x
  rcases m with _ | ⟨z, _ | ⟨z2, m⟩⟩ <;> simp [impsOk] at h
  obtain ⟨⟨⟨⟨⟨rfl, rfl⟩, h3⟩, h4⟩, h5⟩, h6⟩ := h
  intro j hj
  cases j with
  | zero =>
   refine ⟨t, z, rfl, h3, ?_⟩
   by_cases hs : t = [42]
   ·refine .inl ⟨hs, ?_⟩
    rcases h5 with h5 | ⟨⟨a, b⟩, e⟩
    ·exact absurd hs (by simpa [star] using h5)
    ·have e' : r = [] := by simpa using e
     subst e'
     refine ⟨rfl, ?_⟩
     rcases b with rfl | b
     ·exact .inl rfl
     ·rcases Nat.eq_zero_or_pos i with rfl | hp
      ·exact .inl rfl
      ·exact .inr ⟨by omega, b⟩
   ·exact .inr ⟨hs, by rcases h4 with h4 | h4; exact absurd (by simpa [star] using h4) hs; exact h4⟩
  | succ j =>
   have hj' : j < r.length := by simpa using hj
   obtain ⟨kt, o, a, b, d⟩ := ih h6 j hj'
   refine ⟨kt, o, by simpa using a, b, ?_⟩
   rcases d with ⟨d1, d2, d3⟩ | d
   ·refine .inl ⟨d1, by simp; omega, ?_⟩
    rcases d3 with d3 | ⟨d3, d4⟩
    ·omega
    ·exact .inr ⟨by omega, d4⟩
   ·exact .inr d

theorem imports_0 (t : Bs) (l : List Tr) (hv : valid t = true) (hi : ∀ i (h : i < l.length), ImpKid l i l[i])  (B : Nat) (v : Value) (w : World) (h : NT B w v (.mk 60 t 0 l)) : Calls Tryz.prog 110 #[v] w (Ans true w) := by
 have Hi := hid hi
 have Hv := hid hv


 clear hi hv
 have hsv := sv_list
 obtain ⟨p, c, rfl, hks, hkr, hnr, htl, hcp, hkid, xw, C, _, _, hT⟩ := hT_ h
 obtain ⟨c0, c1, c2, c3⟩ := C.out
 have K := hid hkid
 have hll := hid hcp.2
 have HT := hid h.tab
 clear h hks hkid hcp hkr hnr
 simp only [nv, Tr.k, Tr.t, Tr.n, Tr.l]
 go_enter Tryz.func110, Tryz.ntmps110
 go_wp2_with (go_at_call 171; refine (valid_t' t htl Hv.out B _ hT.out).mono ?_; rintro e w171 ⟨rfl, x171⟩; replace ⟨c0, c1, c2, c3⟩ := F4 x171 c0 c1 c2 c3)
 clear c0 c1 c2 c3
 go_loopw [38] (fun i wr => ∃ j : Nat, j ≤ l.length ∧ i = .int .i64 j ∧ Fx (w.alloc (.cells #[.int .i64 60, .string (sv t), .int .i64 0, .slice p l.length c] 24)) wr) (fun i _ => l.length - (intOf i).toNat)
 case atStart => exact ⟨0, Nat.zero_le _, rfl, x171⟩
 case round =>
  obtain ⟨j, hj, rfl, x2⟩ := hrel
  have c0 := x2.cellF C.out.1
  have c1 := x2.cellF C.out.2.1
  have c2 := x2.cellF C.out.2.2.1
  have c3 := x2.cellF C.out.2.2.2
  have xx := xw.of_eq x2
  have hj4 : (j : Int) ≤ 4398046511104 := by have := hll.out; omega
  by_cases hlt : j < l.length
  ·obtain ⟨kt, o, hy0, ho, hcase⟩ := Hi.out j hlt
   have Ho := hid ho
   have hfst := hid (show ∀ h0 : 0 < l.length, fstT l = l[0].t from fun h0 => by cases l with | nil => simp at h0 | cons y r => rfl)
   clear ho


   rcases hcase with ⟨hkt, hlast, hcase⟩ | ⟨hkt, hs⟩
   ·subst hkt
    rcases hcase with hj0 | ⟨hj0, hf⟩
    ·have hA : ((j : Int) == 1) = false := beq_eq_false_iff_ne.2 (by omega)
     have hA3 : ¬ (j : Int) = 1 := by omega
     have hA2 : ¬ (1 : Int) < j := by omega
     have hB : ((j : Int) != (l.length : Int) - 1) = false := by simp; omega
     have HL1 := hid hlast
     have HJ := hid hj0
     have HW := hid (show wrap64 ((l.length : Int) - 1) = (l.length : Int) - 1 from by have := hll.out; unfold wrap64; omega)
     clear hlast hj0
     obtain ⟨g, off, s, rfl, hgB, e0, e1, e2, e3, hy⟩ := K.out j hlt
     rw [hy0] at e0 e1 e2 hy
     simp only [Tr.k, Tr.t, Tr.n] at e0 e1 e2
     obtain ⟨sl', hs', hks', hkr', hnr', htl'⟩ := id hy.open
     obtain rfl : s = sl' := by simpa [nv, Tr.k, Tr.t, Tr.n] using hs'
     simp only [Tr.k, Tr.t, Tr.n, Tr.l] at hks' htl'
     obtain ⟨p', c', rfl, _, hkid'⟩ := hks'.kid
     have K' := hid hkid'
     clear hs' hks' hkr' hnr' hy0 hkid'
     replace ⟨e0, e1, e2, e3⟩ := F4 xx e0 e1 e2 e3
     simp only [lC, lN, zA] at *
     have xb : Fx wr (wr.alloc (.cells #[.int .i64 61, .string (sv [42]), .int .i64 0, .slice p' 1 c'] 24)) := Ext.alloc _ _ _
     obtain ⟨d0, d1, d2, d3⟩ := nd_cells wr 61 0 (sv [42]) (.slice p' 1 c')
     have hd' := hid ((NT.mk hy HT.out).keepF (xx.of_eq xb))
     simp only [nv, Tr.k, Tr.t, Tr.n, Tr.l] at hd'
     have f0 := xb.cellF c0
     have f1 := xb.cellF c1
     have f2 := xb.cellF c2
     have f3 := xb.cellF c3
     replace xx := xx.of_eq xb
     clear hy
     go_wp2_with (go_at_call 109; refine (row_123 _ _ _ o B _ _ hd'.out (name_t o Ho.out B) _ _ _ (alloc_size _ _)).mono ?_; rintro e w109 ⟨rfl, x109⟩; replace xx := xx.of_eq x109; replace ⟨d0, d1, d2, d3⟩ := F4 x109 d0 d1 d2 d3; replace ⟨f0, f1, f2, f3⟩ := F4 x109 f0 f1 f2 f3; replace hd' := hid (hd'.out.keepF x109))
     all_goals first
      | (exfalso; have h9 := HW.out; have h8 := HL1.out; have h7 := HJ.out; omega)
      | skip
     go_roundw
     case rel => exact ⟨j + 1, by have := HL1.out; omega, by go_num, x2.of_eq (xb.of_eq x109)⟩
     case measure => simp [intOf]; omega
    ·have hA : ((j : Int) == 1) = true := beq_iff_eq.2 (by omega)
     have hA2 : ¬ (1 : Int) < j := by omega
     have hB : ((j : Int) != (l.length : Int) - 1) = false := by simp; omega
     have h0l : (0 : Int) < (l.length : Int) := by omega
     obtain ⟨g0, o0, s0, hp0, _, b0, b1, b2, b3, _⟩ := K.out 0 (Nat.lt_of_le_of_lt (Nat.zero_le _) hlt)
     rw [← hfst.out (Nat.lt_of_le_of_lt (Nat.zero_le _) hlt), hf] at b1
     clear b0 b2 b3
     simp only [zM, aZ] at b1
     have HL1 := hid hlast
     have HJ := hid hj0
     have HW := hid (show wrap64 ((l.length : Int) - 1) = (l.length : Int) - 1 from by have := hll.out; unfold wrap64; omega)
     clear hlast hj0 hf
     obtain ⟨g, off, s, rfl, hgB, e0, e1, e2, e3, hy⟩ := K.out j hlt
     rw [hy0] at e0 e1 e2 hy
     simp only [Tr.k, Tr.t, Tr.n] at e0 e1 e2
     obtain ⟨sl', hs', hks', hkr', hnr', htl'⟩ := id hy.open
     obtain rfl : s = sl' := by simpa [nv, Tr.k, Tr.t, Tr.n] using hs'
     simp only [Tr.k, Tr.t, Tr.n, Tr.l] at hks' htl'
     obtain ⟨p', c', rfl, _, hkid'⟩ := hks'.kid
     have K' := hid hkid'
     clear hs' hks' hkr' hnr' hy0 hkid'
     simp only [Option.some.injEq, Addr.mk.injEq, and_true] at hp0
     obtain ⟨rfl, rfl⟩ := hp0
     replace b1 := xx.cellF b1
     replace ⟨e0, e1, e2, e3⟩ := F4 xx e0 e1 e2 e3
     simp only [lC, lN, zA] at *
     have xb : Fx wr (wr.alloc (.cells #[.int .i64 61, .string (sv [42]), .int .i64 0, .slice p' 1 c'] 24)) := Ext.alloc _ _ _
     obtain ⟨d0, d1, d2, d3⟩ := nd_cells wr 61 0 (sv [42]) (.slice p' 1 c')
     have hd' := hid ((NT.mk hy HT.out).keepF (xx.of_eq xb))
     simp only [nv, Tr.k, Tr.t, Tr.n, Tr.l] at hd'
     have b1 := xb.cellF b1
     have f0 := xb.cellF c0
     have f1 := xb.cellF c1
     have f2 := xb.cellF c2
     have f3 := xb.cellF c3
     replace xx := xx.of_eq xb
     clear hy
     go_wp2_with (go_at_call 109; refine (row_123 _ _ _ o B _ _ hd'.out (name_t o Ho.out B) _ _ _ (alloc_size _ _)).mono ?_; rintro e w109 ⟨rfl, x109⟩; replace xx := xx.of_eq x109; replace b1 := x109.cellF b1; replace ⟨d0, d1, d2, d3⟩ := F4 x109 d0 d1 d2 d3; replace ⟨f0, f1, f2, f3⟩ := F4 x109 f0 f1 f2 f3; replace hd' := hid (hd'.out.keepF x109))
     all_goals first
      | (exfalso; have h9 := HW.out; have h8 := HL1.out; have h7 := HJ.out; omega)
      | skip
     go_roundw
     case rel => exact ⟨j + 1, by have := HL1.out; omega, by go_num, x2.of_eq (xb.of_eq x109)⟩
     case measure => simp [intOf]; omega
   ·have hk2 : (kt == [42]) = false := by simpa using hkt
    have Hs := hid hs
    clear hs hkt
    obtain ⟨g, off, s, rfl, hgB, e0, e1, e2, e3, hy⟩ := K.out j hlt
    rw [hy0] at e0 e1 e2 hy
    simp only [Tr.k, Tr.t, Tr.n] at e0 e1 e2
    obtain ⟨sl', hs', hks', hkr', hnr', htl'⟩ := id hy.open
    obtain rfl : s = sl' := by simpa [nv, Tr.k, Tr.t, Tr.n] using hs'
    simp only [Tr.k, Tr.t, Tr.n, Tr.l] at hks' htl'
    obtain ⟨p', c', rfl, _, hkid'⟩ := hks'.kid
    have K' := hid hkid'
    clear hs' hks' hkr' hnr' hy0 hkid'
    replace ⟨e0, e1, e2, e3⟩ := F4 xx e0 e1 e2 e3
    simp only [lC, lN, zA] at *
    have xb : Fx wr (wr.alloc (.cells #[.int .i64 61, .string (sv kt), .int .i64 0, .slice p' 1 c'] 24)) := Ext.alloc _ _ _
    obtain ⟨d0, d1, d2, d3⟩ := nd_cells wr 61 0 (sv kt) (.slice p' 1 c')
    have hd' := hid ((NT.mk hy HT.out).keepF (xx.of_eq xb))
    simp only [nv, Tr.k, Tr.t, Tr.n, Tr.l] at hd'
    have f0 := xb.cellF c0
    have f1 := xb.cellF c1
    have f2 := xb.cellF c2
    have f3 := xb.cellF c3
    replace xx := xx.of_eq xb
    clear hy
    go_wp2_with (first
     | (go_at_call 109; refine (row_123 _ _ _ o B _ _ hd'.out (name_t o Ho.out B) _ _ _ (alloc_size _ _)).mono ?_; rintro e w109 ⟨rfl, x109⟩; replace xx := xx.of_eq x109; replace ⟨d0, d1, d2, d3⟩ := F4 x109 d0 d1 d2 d3; replace ⟨f0, f1, f2, f3⟩ := F4 x109 f0 f1 f2 f3; replace hd' := hid (hd'.out.keepF x109))
     | (go_at_call 120; refine (prop_t kt htl' Hs.out B _ hd'.out.tab).mono ?_; rintro e w120 ⟨rfl, x120⟩; replace xx := xx.of_eq x120; replace ⟨d0, d1, d2, d3⟩ := F4 x120 d0 d1 d2 d3; replace ⟨f0, f1, f2, f3⟩ := F4 x120 f0 f1 f2 f3; replace hd' := hid (hd'.out.keepF x120)))
    go_roundw
    case rel => exact ⟨j + 1, by omega, by go_num, x2.of_eq ((xb.of_eq x109).of_eq x120)⟩
    case measure => simp [intOf]; omega
  ·go_wp2
   go_ret
   exact .mk rfl xx

theorem imports_1 (t : Bs) (l : List Tr) (hv : valid t = true) (hi : ∀ i (h : i < l.length), ImpKid l i l[i]) (hne : 0 < l.length) (hns : ∀ i (h : i < l.length), ¬ l[i].t = [42]) (B : Nat) (v : Value) (w : World) (h : NT B w v (.mk 60 t 1 l)) : Calls Tryz.prog 110 #[v] w (Ans true w) := by
 have Hi := hid hi
 have Hv := hid hv
 have Hns := hid hns
 have hle : ((l.length : Int) == 0) = false := beq_eq_false_iff_ne.2 (by omega)
 clear hi hv
 have hsv := sv_list
 obtain ⟨p, c, rfl, hks, hkr, hnr, htl, hcp, hkid, xw, C, _, _, hT⟩ := hT_ h
 obtain ⟨c0, c1, c2, c3⟩ := C.out
 have K := hid hkid
 have hll := hid hcp.2
 have HT := hid h.tab
 clear h hks hkid hcp hkr hnr
 simp only [nv, Tr.k, Tr.t, Tr.n, Tr.l]
 go_enter Tryz.func110, Tryz.ntmps110
 go_wp2_with (go_at_call 171; refine (valid_t' t htl Hv.out B _ hT.out).mono ?_; rintro e w171 ⟨rfl, x171⟩; replace ⟨c0, c1, c2, c3⟩ := F4 x171 c0 c1 c2 c3)
 clear c0 c1 c2 c3
 go_loopw [38] (fun i wr => ∃ j : Nat, j ≤ l.length ∧ i = .int .i64 j ∧ Fx (w.alloc (.cells #[.int .i64 60, .string (sv t), .int .i64 1, .slice p l.length c] 24)) wr) (fun i _ => l.length - (intOf i).toNat)
 case atStart => exact ⟨0, Nat.zero_le _, rfl, x171⟩
 case round =>
  obtain ⟨j, hj, rfl, x2⟩ := hrel
  have c0 := x2.cellF C.out.1
  have c1 := x2.cellF C.out.2.1
  have c2 := x2.cellF C.out.2.2.1
  have c3 := x2.cellF C.out.2.2.2
  have xx := xw.of_eq x2
  have hj4 : (j : Int) ≤ 4398046511104 := by have := hll.out; omega
  by_cases hlt : j < l.length
  ·obtain ⟨kt, o, hy0, ho, hcase⟩ := Hi.out j hlt
   have Ho := hid ho
   have hfst := hid (show ∀ h0 : 0 < l.length, fstT l = l[0].t from fun h0 => by cases l with | nil => simp at h0 | cons y r => rfl)
   clear ho
   have hnk := hid (Hns.out j hlt)
   rw [hy0] at hnk
   rcases hcase with ⟨hkt, hlast, hcase⟩ | ⟨hkt, hs⟩
   ·exfalso; exact hnk.out hkt
   ·have hk2 : (kt == [42]) = false := by simpa using hkt
    have Hs := hid hs
    clear hs hkt
    obtain ⟨g, off, s, rfl, hgB, e0, e1, e2, e3, hy⟩ := K.out j hlt
    rw [hy0] at e0 e1 e2 hy
    simp only [Tr.k, Tr.t, Tr.n] at e0 e1 e2
    obtain ⟨sl', hs', hks', hkr', hnr', htl'⟩ := id hy.open
    obtain rfl : s = sl' := by simpa [nv, Tr.k, Tr.t, Tr.n] using hs'
    simp only [Tr.k, Tr.t, Tr.n, Tr.l] at hks' htl'
    obtain ⟨p', c', rfl, _, hkid'⟩ := hks'.kid
    have K' := hid hkid'
    clear hs' hks' hkr' hnr' hy0 hkid'
    replace ⟨e0, e1, e2, e3⟩ := F4 xx e0 e1 e2 e3
    simp only [lC, lN, zA] at *
    have xb : Fx wr (wr.alloc (.cells #[.int .i64 61, .string (sv kt), .int .i64 0, .slice p' 1 c'] 24)) := Ext.alloc _ _ _
    obtain ⟨d0, d1, d2, d3⟩ := nd_cells wr 61 0 (sv kt) (.slice p' 1 c')
    have hd' := hid ((NT.mk hy HT.out).keepF (xx.of_eq xb))
    simp only [nv, Tr.k, Tr.t, Tr.n, Tr.l] at hd'
    have f0 := xb.cellF c0
    have f1 := xb.cellF c1
    have f2 := xb.cellF c2
    have f3 := xb.cellF c3
    replace xx := xx.of_eq xb
    clear hy
    go_wp2_with (first
     | (go_at_call 109; refine (row_123 _ _ _ o B _ _ hd'.out (name_t o Ho.out B) _ _ _ (alloc_size _ _)).mono ?_; rintro e w109 ⟨rfl, x109⟩; replace xx := xx.of_eq x109; replace ⟨d0, d1, d2, d3⟩ := F4 x109 d0 d1 d2 d3; replace ⟨f0, f1, f2, f3⟩ := F4 x109 f0 f1 f2 f3; replace hd' := hid (hd'.out.keepF x109))
     | (go_at_call 120; refine (prop_t kt htl' Hs.out B _ hd'.out.tab).mono ?_; rintro e w120 ⟨rfl, x120⟩; replace xx := xx.of_eq x120; replace ⟨d0, d1, d2, d3⟩ := F4 x120 d0 d1 d2 d3; replace ⟨f0, f1, f2, f3⟩ := F4 x120 f0 f1 f2 f3; replace hd' := hid (hd'.out.keepF x120)))
    go_roundw
    case rel => exact ⟨j + 1, by omega, by go_num, x2.of_eq ((xb.of_eq x109).of_eq x120)⟩
    case measure => simp [intOf]; omega
  ·go_wp2
   go_ret
   exact .mk rfl xx

end Go.Proofs.YtpmlmpibpmoclaaGreatDoor
