/-
  The program's own tests on trees: types, a kind at a time.
-/
import Derived.Test.YtpmlmpibpmoclaaGreatDoorT0
import Derived.Test.YtpmlmpibpmoclaaGreatDoorT4
import Derived.Test.YtpmlmpibpmoclaaGreatDoorT5
import Derived.Test.YtpmlmpibpmoclaaGreatDoorT6
namespace Go.Proofs.YtpmlmpibpmoclaaGreatDoor
set_option linter.all false
set_option maxRecDepth 20000
set_option maxHeartbeats 4000000
open Go.RowKit

theorem cnt_one {y : Tr} {N : Nat} {k n : Int} {t : Bs} (h : cnt (.mk k t n [y]) < N + 1) : cnt y < N := by simp [cnt, cnts] at h; omega

theorem isT_30' {t : Bs} {n : Int} {l : List Tr} (h : isT (.mk 30 t n l) = true) : n = 0 ∧ l = [] ∧ (isId t = true ∨ t = [110, 117, 108, 108] ∨ t = [117, 110, 100, 101, 102, 105, 110, 101, 100]) := by
 unfold isT at h; simp at h; obtain ⟨⟨h1, h2⟩, h3⟩ := h; exact ⟨h1, h2, by rcases h3 with (h | h) | h <;> simp [h]⟩
theorem isT_31' {t : Bs} {n : Int} {l : List Tr} (h : isT (.mk 31 t n l) = true) : t = [] ∧ n = 0 ∧ ∃ y, l = [y] ∧ isT y = true := by
 unfold isT at h
 rcases l with _ | ⟨y, _ | ⟨z, m⟩⟩ <;> simp at h
 exact ⟨h.1.1, h.1.2, y, rfl, h.2⟩
theorem isT_32' {t : Bs} {n : Int} {l : List Tr} (h : isT (.mk 32 t n l) = true) : t = [] ∧ n = 0 ∧ unionOk l = true ∧ 2 ≤ l.length := by
 unfold isT at h; simp at h; exact ⟨h.1.2.1, h.1.2.2, h.1.1, h.2⟩
theorem isT_33' {t : Bs} {n : Int} {l : List Tr} (h : isT (.mk 33 t n l) = true) : t = [] ∧ n = 0 ∧ tpropsOk [] l = true := by
 unfold isT at h; simp at h; exact ⟨h.2.1, h.2.2, h.1⟩
theorem isT_35' {t : Bs} {n : Int} {l : List Tr} (h : isT (.mk 35 t n l) = true) : t = [] ∧ n = 0 ∧ ∃ p r, l = [p, r] ∧ isPms true p = true ∧ isT r = true := by
 unfold isT at h
 rcases l with _ | ⟨⟨pk, pt, pn, pl⟩, _ | ⟨y, _ | ⟨z, m⟩⟩⟩ <;> simp at h
 exact ⟨h.1.1, h.1.2, _, y, rfl, by simp [isPms, plainT, Tr.k, Tr.t, Tr.n, Tr.l, h.2.1], h.2.2⟩

theorem union_mem {l : List Tr} (h : unionOk l = true) : ∀ y ∈ l, isT y = true ∧ ¬ y.k = 32 := by
 induction l with
 | nil => intro y hy; cases hy
 | cons x r ih =>
  simp [unionOk] at h
  intro y hy
  rcases List.mem_cons.1 hy with rfl | hy
  ·exact ⟨h.1.1, h.1.2⟩
  ·exact ih h.2 y hy
theorem tprops_all {l : List Tr} {S : List Bs} (h : tpropsOk S l = true) : (∀ y ∈ l, ∃ t z, y = .mk 34 t 0 [z] ∧ signs t = true ∧ isT z = true ∧ ¬ t ∈ S) ∧ (l.map Tr.t).Nodup := by
 induction l generalizing S with
 | nil => exact ⟨fun y hy => (by cases hy), List.Pairwise.nil⟩
 | cons x r ih =>
  obtain ⟨k, t, n, m⟩ := x
  rcases m with _ | ⟨z, _ | ⟨z2, m⟩⟩ <;> simp [tpropsOk] at h
  obtain ⟨⟨⟨⟨⟨rfl, rfl⟩, h3⟩, h4⟩, h5⟩, h6⟩ := h
  obtain ⟨a, b⟩ := ih h6
  refine ⟨fun y hy => ?_, ?_⟩
  ·rcases List.mem_cons.1 hy with rfl | hy
   ·exact ⟨t, z, rfl, h3, h4, h5⟩
   ·obtain ⟨t', z', e, p1, p2, p3⟩ := a y hy
    exact ⟨t', z', e, p1, p2, fun hm => p3 (List.mem_cons_of_mem _ hm)⟩
  ·simp only [mC, List.nodup_cons]
   refine ⟨fun hm => ?_, b⟩
   obtain ⟨y, hy, e⟩ := List.mem_map.1 hm
   obtain ⟨t', z', rfl, _, _, p3⟩ := a y hy
   exact p3 (by simp only [Tr.t] at e; subst e; exact List.mem_cons_self)
theorem pms_all {typed : Bool} {l : List Tr} {S : List Bs} (h : pms typed S l = true) : (∀ y ∈ l, ∃ t z, y = .mk 13 t 0 [z] ∧ isId t = true ∧ isTyOr z = true ∧ (typed = true → isT z = true) ∧ ¬ t ∈ S) ∧ (l.map Tr.t).Nodup := by
 induction l generalizing S with
 | nil => exact ⟨fun y hy => (by cases hy), List.Pairwise.nil⟩
 | cons x r ih =>
  obtain ⟨k, t, n, m⟩ := x
  rcases m with _ | ⟨z, _ | ⟨z2, m⟩⟩ <;> simp [pms] at h
  obtain ⟨⟨⟨⟨⟨rfl, rfl⟩, h3⟩, h4⟩, h5⟩, h6⟩ := h
  obtain ⟨a, b⟩ := ih h6
  refine ⟨fun y hy => ?_, ?_⟩
  ·rcases List.mem_cons.1 hy with rfl | hy
   ·refine ⟨t, z, rfl, h3, ?_, ?_, h5⟩
    ·unfold isTyOr; rcases h4 with h | h <;> simp [h]
    ·rintro rfl; simpa using h4
   ·obtain ⟨t', z', e, p1, p2, p3, p4⟩ := a y hy
    exact ⟨t', z', e, p1, p2, p3, fun hm => p4 (List.mem_cons_of_mem _ hm)⟩
  ·simp only [mC, List.nodup_cons]
   refine ⟨fun hm => ?_, b⟩
   obtain ⟨y, hy, e⟩ := List.mem_map.1 hm
   obtain ⟨t', z', rfl, _, _, _, p4⟩ := a y hy
   exact p4 (by simp only [Tr.t] at e; subst e; exact List.mem_cons_self)

theorem t65_30 (t : Bs) (B : Nat) (v : Value) (w : World) (h : NT B w v (.mk 30 t 0 [])) (hI : isId t = true) : Calls Tryz.prog 65 #[v] w (Ans true w) := by
 have hsv := sv_list
 obtain ⟨p, c, rfl, hks, hkr, hnr, htl, hcp, hkid, xw, C, hd, hk, hT⟩ := hT_ h
 have xx := xw
 obtain ⟨c0, c1, c2, c3⟩ := C.out
 have hll := hid hcp.2
 have H := hid hI
 clear hI
 clear h hks hkid hcp hkr hnr
 simp only [nv, Tr.k, Tr.t, Tr.n, Tr.l, lC, lN, zA, Nat.reduceAdd] at *
 go_enter Tryz.func65, Tryz.ntmps65
 go_wp2_with ((first | (go_at_call 56; refine (like_any B _ _ _ hd.out.node).mono ?_; rintro e w56 ⟨rfl, z_⟩) | (go_at_call 108; refine (id_t t htl H.out B _ hT.out).mono ?_; rintro e w108 ⟨rfl, z_⟩)) <;> (replace ⟨xx, ⟨c0, c1, c2, c3⟩, hd⟩ := X5 z_ xx c0 c1 c2 c3 hd; replace ⟨hk, hT⟩ := D2 z_ hk hT))
 go_ret
 exact .mk rfl xx

theorem t65_30_null  (B : Nat) (v : Value) (w : World) (h : NT B w v (.mk 30 [110, 117, 108, 108] 0 []))  : Calls Tryz.prog 65 #[v] w (Ans true w) := by
 have hsv := sv_list
 obtain ⟨p, c, rfl, hks, hkr, hnr, htl, hcp, hkid, xw, C, hd, hk, hT⟩ := hT_ h
 have xx := xw
 obtain ⟨c0, c1, c2, c3⟩ := C.out
 have hll := hid hcp.2
 clear h hks hkid hcp hkr hnr
 simp only [nv, Tr.k, Tr.t, Tr.n, Tr.l, lC, lN, zA, Nat.reduceAdd] at *
 go_enter Tryz.func65, Tryz.ntmps65
 go_wp2_with ((first | (go_at_call 56; refine (like_any B _ _ _ hd.out.node).mono ?_; rintro e w56 ⟨rfl, z_⟩) | (go_at_call 108; refine (id_w [110, 117, 108, 108] (by decide) (by decide) (by decide) B _ hT.out).mono ?_; rintro e w108 ⟨rfl, z_⟩)) <;> (replace ⟨xx, ⟨c0, c1, c2, c3⟩, hd⟩ := X5 z_ xx c0 c1 c2 c3 hd; replace ⟨hk, hT⟩ := D2 z_ hk hT))
 go_ret
 exact .mk rfl xx

theorem t65_30_undef  (B : Nat) (v : Value) (w : World) (h : NT B w v (.mk 30 [117, 110, 100, 101, 102, 105, 110, 101, 100] 0 []))  : Calls Tryz.prog 65 #[v] w (Ans true w) := by
 have hsv := sv_list
 obtain ⟨p, c, rfl, hks, hkr, hnr, htl, hcp, hkid, xw, C, hd, hk, hT⟩ := hT_ h
 have xx := xw
 obtain ⟨c0, c1, c2, c3⟩ := C.out
 have hll := hid hcp.2
 clear h hks hkid hcp hkr hnr
 simp only [nv, Tr.k, Tr.t, Tr.n, Tr.l, lC, lN, zA, Nat.reduceAdd] at *
 go_enter Tryz.func65, Tryz.ntmps65
 go_wp2_with ((first | (go_at_call 56; refine (like_any B _ _ _ hd.out.node).mono ?_; rintro e w56 ⟨rfl, z_⟩) | (go_at_call 108; refine (id_w [117, 110, 100, 101, 102, 105, 110, 101, 100] (by decide) (by decide) (by decide) B _ hT.out).mono ?_; rintro e w108 ⟨rfl, z_⟩)) <;> (replace ⟨xx, ⟨c0, c1, c2, c3⟩, hd⟩ := X5 z_ xx c0 c1 c2 c3 hd; replace ⟨hk, hT⟩ := D2 z_ hk hT))
 go_ret
 exact .mk rfl xx

theorem t65_31 {N : Nat} (ih : TTypeC N) (ya : Tr) (B : Nat) (v : Value) (w : World) (h : NT B w v (.mk 31 [] 0 [ya])) (hc : cnt ya < N) (ha : isT ya = true) : Calls Tryz.prog 65 #[v] w (Ans true w) := by
 have hsv := sv_list
 obtain ⟨p, c, rfl, hks, hkr, hnr, htl, hcp, hkid, xw, C, hd, hk, hT⟩ := hT_ h
 have xx := xw
 obtain ⟨c0, c1, c2, c3⟩ := C.out
 have hll := hid hcp.2
 have Hc := hid hc
 have Ha := hid ha
 clear hc ha
 have hp := hid (show plainT (.mk 31 [] 0 [ya]) = true from rfl)
 clear h hks hkid hcp hkr hnr
 simp only [nv, Tr.k, Tr.t, Tr.n, Tr.l, lC, lN, zA, Nat.reduceAdd] at *
 go_enter Tryz.func65, Tryz.ntmps65
 go_wp2_with (first
  | (go_at_call 56; refine (like_any B _ _ _ hd.out.node).mono ?_; rintro e w56 ⟨he56, z_⟩; rw [hp.out] at he56; subst he56; replace ⟨xx, ⟨c0, c1, c2, c3⟩, hd⟩ := X5 z_ xx c0 c1 c2 c3 hd; replace ⟨hk, hT⟩ := D2 z_ hk hT)
  | (go_at_call 109; refine (row_65 _ _ _ ya B _ _ hd.out (ih ya Hc.out Ha.out B) _ _ _ rfl).mono ?_; rintro e w109 ⟨rfl, z_⟩; replace ⟨xx, ⟨c0, c1, c2, c3⟩, hd⟩ := X5 z_ xx c0 c1 c2 c3 hd; replace ⟨hk, hT⟩ := D2 z_ hk hT))
 go_ret
 exact .mk rfl xx

theorem t128 {N : Nat} (ih : TTypeC N) (x : Tr) (hc : cnt x < N) (ha : isT x = true) (hk : ¬ x.k = 32) (B : Nat) (v : Value) (w : World) (h : NT B w v x) : Calls Tryz.prog 128 #[v] w (Ans true w) := by
 obtain ⟨sl, rfl, hks, _, _, htl⟩ := id h.node.open
 have xw : Fx w (w.alloc (.cells #[.int .i64 x.k, .string (sv x.t), .int .i64 x.n, sl] 24)) := Ext.alloc _ _ _
 obtain ⟨c0, c1, c2, c3⟩ := nd_cells w x.k x.n (sv x.t) sl
 have hd := hid (h.keepF xw)
 have hk2 : (x.k != 32) = true := by simpa using hk
 have Hc := hid hc
 have Ha := hid ha
 clear h hks htl hc ha
 simp only [nv] at hd ⊢
 go_enter Tryz.func128, Tryz.ntmps128
 go_wp2_with (go_at_call 65; refine (ih x Hc.out Ha.out B _ _ hd.out).mono ?_; rintro e w1 ⟨rfl, x1⟩)
 go_ret
 exact .mk rfl (xw.of_eq x1)

theorem t65_32 {N : Nat} (ih : TTypeC N) (l : List Tr) (B : Nat) (v : Value) (w : World) (h : NT B w v (.mk 32 [] 0 l)) (hc : cnts l < N) (hu : unionOk l = true) (h2 : 2 ≤ l.length) : Calls Tryz.prog 65 #[v] w (Ans true w) := by
 have hsv := sv_list
 obtain ⟨p, c, rfl, hks, hkr, hnr, htl, hcp, hkid, xw, C, hd, hk, hT⟩ := hT_ h
 have xx := xw
 obtain ⟨c0, c1, c2, c3⟩ := C.out
 have hll := hid hcp.2
 have Hc := hid hc
 have Hu := hid (union_mem hu)
 clear hc hu
 have hp := hid (show plainT (.mk 32 [] 0 l) = true from rfl)
 have h2i : (2 : Int) ≤ (l.length : Int) := by omega
 clear h2
 clear h hks hkid hcp hkr hnr
 simp only [nv, Tr.k, Tr.t, Tr.n, Tr.l, lC, lN, zA, Nat.reduceAdd] at *
 go_enter Tryz.func65, Tryz.ntmps65
 go_wp2_with (first
  | (go_at_call 56; refine (like_any B _ _ _ hd.out.node).mono ?_; rintro e w56 ⟨he56, z_⟩; rw [hp.out] at he56; subst he56; replace ⟨xx, ⟨c0, c1, c2, c3⟩, hd⟩ := X5 z_ xx c0 c1 c2 c3 hd; replace ⟨hk, hT⟩ := D2 z_ hk hT)
  | (go_at_call 57; refine (all_128 l B _ _ hk.out hT.out (fun y hy u w' hn => t128 ih y (Nat.lt_of_le_of_lt (cnt_mem hy) Hc.out) (Hu.out y hy).1 (Hu.out y hy).2 B u w' hn)).mono ?_; rintro e w57 ⟨rfl, z_⟩; replace ⟨xx, ⟨c0, c1, c2, c3⟩, hd⟩ := X5 z_ xx c0 c1 c2 c3 hd; replace ⟨hk, hT⟩ := D2 z_ hk hT))
 go_ret
 exact .mk rfl xx

theorem t129 {N : Nat} (ih : TTypeC N) (t : Bs) (ya : Tr) (B : Nat) (v : Value) (w : World) (h : NT B w v (.mk 34 t 0 [ya])) (hc : cnt ya < N) (hs : signs t = true) (ha : isT ya = true) : Calls Tryz.prog 129 #[v] w (Ans true w) := by
 have hsv := sv_list
 obtain ⟨p, c, rfl, hks, hkr, hnr, htl, hcp, hkid, xw, C, hd, hk, hT⟩ := hT_ h
 have xx := xw
 obtain ⟨c0, c1, c2, c3⟩ := C.out
 have hll := hid hcp.2
 have Hc := hid hc
 have Ha := hid ha
 have H := hid hs
 clear hc ha hs
 clear h hks hkid hcp hkr hnr
 simp only [nv, Tr.k, Tr.t, Tr.n, Tr.l, lC, lN, zA, Nat.reduceAdd] at *
 go_enter Tryz.func129, Tryz.ntmps129
 go_wp2_with ((first | (go_at_call 120; refine (prop_t t htl H.out B _ hT.out).mono ?_; rintro e w120 ⟨rfl, z_⟩) | (go_at_call 109; refine (row_65 _ _ _ ya B _ _ hd.out (ih ya Hc.out Ha.out B) _ _ _ rfl).mono ?_; rintro e w109 ⟨rfl, z_⟩)) <;> (replace ⟨xx, ⟨c0, c1, c2, c3⟩, hd⟩ := X5 z_ xx c0 c1 c2 c3 hd; replace ⟨hk, hT⟩ := D2 z_ hk hT))
 go_ret
 exact .mk rfl xx

theorem t65_33 {N : Nat} (ih : TTypeC N) (l : List Tr) (B : Nat) (v : Value) (w : World) (h : NT B w v (.mk 33 [] 0 l)) (hc : cnts l < N) (hu : tpropsOk [] l = true) : Calls Tryz.prog 65 #[v] w (Ans true w) := by
 have hsv := sv_list
 obtain ⟨p, c, rfl, hks, hkr, hnr, htl, hcp, hkid, xw, C, hd, hk, hT⟩ := hT_ h
 have xx := xw
 obtain ⟨c0, c1, c2, c3⟩ := C.out
 have hll := hid hcp.2
 have Hc := hid hc
 have Hu := hid (tprops_all hu)
 clear hc hu
 have hp := hid (show plainT (.mk 33 [] 0 l) = true from rfl)
 clear h hks hkid hcp hkr hnr
 simp only [nv, Tr.k, Tr.t, Tr.n, Tr.l, lC, lN, zA, Nat.reduceAdd] at *
 go_enter Tryz.func65, Tryz.ntmps65
 go_wp2_with (first
  | (go_at_call 56; refine (like_any B _ _ _ hd.out.node).mono ?_; rintro e w56 ⟨he56, z_⟩; rw [hp.out] at he56; subst he56; replace ⟨xx, ⟨c0, c1, c2, c3⟩, hd⟩ := X5 z_ xx c0 c1 c2 c3 hd; replace ⟨hk, hT⟩ := D2 z_ hk hT)
  | ((first | (go_at_call 121; refine (unlike_t l Hu.out.2 B _ _ hk.out).mono ?_; rintro e w121 ⟨rfl, z_⟩) | (go_at_call 57; refine (all_129 l B _ _ hk.out hT.out (fun y hy u w' hn => by obtain ⟨t', z, rfl, h3, h4, _⟩ := Hu.out.1 y hy; exact t129 ih t' z B u w' hn (by have h6 := cnt_mem hy; have h7 := Hc.out; simp only [cnt, cnts] at h6; omega) h3 h4)).mono ?_; rintro e w57 ⟨rfl, z_⟩)) <;> (replace ⟨xx, ⟨c0, c1, c2, c3⟩, hd⟩ := X5 z_ xx c0 c1 c2 c3 hd; replace ⟨hk, hT⟩ := D2 z_ hk hT)))
 go_ret
 exact .mk rfl xx

end Go.Proofs.YtpmlmpibpmoclaaGreatDoor
