/-
  The program's own answer on trees: items, forms.
-/
import Derived.Test.YtpmlmpibpmoclaaGreatDoorT13
namespace Go.Proofs.YtpmlmpibpmoclaaGreatDoor
set_option linter.all false
open Go.RowKit
set_option maxRecDepth 20000
set_option maxHeartbeats 8000000

theorem tfree_all (N : Nat) : TFreeC N := by
 induction N with
 | zero => intro x hx; omega
 | succ N ih =>
  rintro ⟨k, t, n, l⟩ hx hd B v w h
  have hc : cnts l < N := by simp [cnt] at hx; omega
  unfold dollar at hd
  simp only [Bool.or_eq_false_iff] at hd
  have hl := dollars_mem hd.2
  by_cases h2 : k = 2
  ·subst h2; exact t59_2 ih t n l B v w h hc hl
  by_cases h60 : k = 60
  ·subst h60; exact t59_60 ih t n l B v w h hc hl
  by_cases h64 : k = 64
  ·subst h64; exact t59_64 ih t n l B v w h hc hl
  ·refine t59_k ih k t n l B v w h hc hl h2 h60 h64 ?_
   have := hd.1
   simp [h2, h60, h64] at this
   exact this
theorem free_t (x : Tr) (hx : dollar x = false) (B : Nat) (v : Value) (w : World) (h : NT B w v x) : Calls Tryz.prog 59 #[v] w (Ans true w) := tfree_all (cnt x + 1) x (Nat.lt_succ_self _) hx B v w h

def SM : Nat := 1099511627776
def ItemC (x : Tr) : Prop := isItem x = true → cnt x ≤ SM → ∀ B v w, NT B w v x → Calls Tryz.prog 58 #[v] w (Ans true w)
theorem cnts_len (l : List Tr) : l.length ≤ cnts l := by
 induction l with
 | nil => simp [cnts]
 | cons x r ih => have := cnt_pos x; simp only [cnts, lC]; omega
theorem cnt_len (x : Tr) : x.l.length + 1 ≤ cnt x := by rw [cnt_kid]; have := cnts_len x.l; omega

theorem t58_42 (t : Bs) (l : List Tr) (B : Nat) (v : Value) (w : World) (h : NT B w v (.mk 42 t 0 l)) (hx : isClass (.mk 42 t 0 l) = true) (hl : l.length ≤ 1099511627776) : Calls Tryz.prog 58 #[v] w (Ans true w) := by
 have hsv := sv_list
 obtain ⟨p, c, rfl, hks, hkr, hnr, htl, hcp, hkid, xw, C, hd, hk, hT⟩ := hT_ h
 have xx := xw
 obtain ⟨c0, c1, c2, c3⟩ := C.out
 have hll := hid hcp.2
 have Hx := hid hx
 have HL := hid hl
 clear hx hl
 clear h hks hkid hcp hkr hnr
 simp only [nv, Tr.k, Tr.t, Tr.n, Tr.l, lC, lN, zA, Nat.reduceAdd] at *
 go_enter Tryz.func58, Tryz.ntmps58
 go_wp2_with ((first | (go_at_call 56; refine (like_any B _ _ _ hd.out.node).mono ?_; rintro e w56 ⟨rfl, z_⟩) | (go_at_call 62; refine (class_t (.mk 42 t 0 l) Hx.out HL.out B _ _ hd.out).mono ?_; rintro e w62 ⟨rfl, z_⟩)) <;> (replace ⟨xx, ⟨c0, c1, c2, c3⟩, hd⟩ := X5 z_ xx c0 c1 c2 c3 hd; replace ⟨hk, hT⟩ := D2 z_ hk hT))
 go_ret
 exact .mk rfl xx

theorem t58_46 (t : Bs) (ya : Tr) (B : Nat) (v : Value) (w : World) (h : NT B w v (.mk 46 t 0 [ya])) (hs : isId t = true) (ha : isT ya = true) : Calls Tryz.prog 58 #[v] w (Ans true w) := by
 have hsv := sv_list
 obtain ⟨p, c, rfl, hks, hkr, hnr, htl, hcp, hkid, xw, C, hd, hk, hT⟩ := hT_ h
 have xx := xw
 obtain ⟨c0, c1, c2, c3⟩ := C.out
 have hll := hid hcp.2
 have Ha := hid ha
 have H := hid hs
 clear ha hs
 clear h hks hkid hcp hkr hnr
 simp only [nv, Tr.k, Tr.t, Tr.n, Tr.l, lC, lN, zA, Nat.reduceAdd] at *
 go_enter Tryz.func58, Tryz.ntmps58
 go_wp2_with ((first | (go_at_call 56; refine (like_any B _ _ _ hd.out.node).mono ?_; rintro e w56 ⟨rfl, z_⟩) | (go_at_call 108; refine (id_t t htl H.out B _ hT.out).mono ?_; rintro e w108 ⟨rfl, z_⟩) | (go_at_call 109; refine (row_65 _ _ _ ya B _ _ hd.out (type_t ya Ha.out B) _ _ _ rfl).mono ?_; rintro e w109 ⟨rfl, z_⟩)) <;> (replace ⟨xx, ⟨c0, c1, c2, c3⟩, hd⟩ := X5 z_ xx c0 c1 c2 c3 hd; replace ⟨hk, hT⟩ := D2 z_ hk hT))
 go_ret
 exact .mk rfl xx

theorem t58_60 (t : Bs) (n : Int) (l : List Tr) (B : Nat) (v : Value) (w : World) (h : NT B w v (.mk 60 t n l)) (hx : isImport (.mk 60 t n l) = true) : Calls Tryz.prog 58 #[v] w (Ans true w) := by
 have hsv := sv_list
 obtain ⟨p, c, rfl, hks, hkr, hnr, htl, hcp, hkid, xw, C, hd, hk, hT⟩ := hT_ h
 have xx := xw
 obtain ⟨c0, c1, c2, c3⟩ := C.out
 have hll := hid hcp.2
 have Hx := hid hx
 clear hx
 clear h hks hkid hcp hkr hnr
 simp only [nv, Tr.k, Tr.t, Tr.n, Tr.l, lC, lN, zA, Nat.reduceAdd] at *
 go_enter Tryz.func58, Tryz.ntmps58
 go_wp2_with ((first | (go_at_call 56; refine (like_any B _ _ _ hd.out.node).mono ?_; rintro e w56 ⟨rfl, z_⟩) | (go_at_call 110; refine (imports_t (.mk 60 t n l) rfl Hx.out B _ _ hd.out).mono ?_; rintro e w110 ⟨rfl, z_⟩)) <;> (replace ⟨xx, ⟨c0, c1, c2, c3⟩, hd⟩ := X5 z_ xx c0 c1 c2 c3 hd; replace ⟨hk, hT⟩ := D2 z_ hk hT))
 go_ret
 exact .mk rfl xx

theorem t58_64 (t : Bs) (n : Int) (l : List Tr) (B : Nat) (v : Value) (w : World) (h : NT B w v (.mk 64 t n l)) (hx : isFrom (.mk 64 t n l) = true) : Calls Tryz.prog 58 #[v] w (Ans true w) := by
 have hsv := sv_list
 obtain ⟨p, c, rfl, hks, hkr, hnr, htl, hcp, hkid, xw, C, hd, hk, hT⟩ := hT_ h
 have xx := xw
 obtain ⟨c0, c1, c2, c3⟩ := C.out
 have hll := hid hcp.2
 have Hx := hid hx
 clear hx
 clear h hks hkid hcp hkr hnr
 simp only [nv, Tr.k, Tr.t, Tr.n, Tr.l, lC, lN, zA, Nat.reduceAdd] at *
 go_enter Tryz.func58, Tryz.ntmps58
 go_wp2_with ((first | (go_at_call 56; refine (like_any B _ _ _ hd.out.node).mono ?_; rintro e w56 ⟨rfl, z_⟩) | (go_at_call 113; refine (from_t (.mk 64 t n l) rfl Hx.out B _ _ hd.out).mono ?_; rintro e w113 ⟨rfl, z_⟩)) <;> (replace ⟨xx, ⟨c0, c1, c2, c3⟩, hd⟩ := X5 z_ xx c0 c1 c2 c3 hd; replace ⟨hk, hT⟩ := D2 z_ hk hT))
 go_ret
 exact .mk rfl xx

theorem t58_40 (t : Bs) (n : Int) (l : List Tr) (B : Nat) (v : Value) (w : World) (h : NT B w v (.mk 40 t n l)) (hx : isS (.mk 40 t n l) = true) : Calls Tryz.prog 58 #[v] w (Ans true w) := by
 have hsv := sv_list
 obtain ⟨p, c, rfl, hks, hkr, hnr, htl, hcp, hkid, xw, C, hd, hk, hT⟩ := hT_ h
 have xx := xw
 obtain ⟨c0, c1, c2, c3⟩ := C.out
 have hll := hid hcp.2
 have Hx := hid hx
 clear hx
 clear h hks hkid hcp hkr hnr
 simp only [nv, Tr.k, Tr.t, Tr.n, Tr.l, lC, lN, zA, Nat.reduceAdd] at *
 go_enter Tryz.func58, Tryz.ntmps58
 go_wp2_with ((first | (go_at_call 56; refine (like_any B _ _ _ hd.out.node).mono ?_; rintro e w56 ⟨rfl, z_⟩) | (go_at_call 61; refine (stmt_t (.mk 40 t n l) Hx.out B _ _ hd.out).mono ?_; rintro e w61 ⟨rfl, z_⟩)) <;> (replace ⟨xx, ⟨c0, c1, c2, c3⟩, hd⟩ := X5 z_ xx c0 c1 c2 c3 hd; replace ⟨hk, hT⟩ := D2 z_ hk hT))
 go_ret
 exact .mk rfl xx

theorem t58_41 (t : Bs) (n : Int) (l : List Tr) (B : Nat) (v : Value) (w : World) (h : NT B w v (.mk 41 t n l)) (hx : isS (.mk 41 t n l) = true) : Calls Tryz.prog 58 #[v] w (Ans true w) := by
 have hsv := sv_list
 obtain ⟨p, c, rfl, hks, hkr, hnr, htl, hcp, hkid, xw, C, hd, hk, hT⟩ := hT_ h
 have xx := xw
 obtain ⟨c0, c1, c2, c3⟩ := C.out
 have hll := hid hcp.2
 have Hx := hid hx
 clear hx
 clear h hks hkid hcp hkr hnr
 simp only [nv, Tr.k, Tr.t, Tr.n, Tr.l, lC, lN, zA, Nat.reduceAdd] at *
 go_enter Tryz.func58, Tryz.ntmps58
 go_wp2_with ((first | (go_at_call 56; refine (like_any B _ _ _ hd.out.node).mono ?_; rintro e w56 ⟨rfl, z_⟩) | (go_at_call 61; refine (stmt_t (.mk 41 t n l) Hx.out B _ _ hd.out).mono ?_; rintro e w61 ⟨rfl, z_⟩)) <;> (replace ⟨xx, ⟨c0, c1, c2, c3⟩, hd⟩ := X5 z_ xx c0 c1 c2 c3 hd; replace ⟨hk, hT⟩ := D2 z_ hk hT))
 go_ret
 exact .mk rfl xx

theorem t58_47 (t : Bs) (n : Int) (l : List Tr) (B : Nat) (v : Value) (w : World) (h : NT B w v (.mk 47 t n l)) (hx : isS (.mk 47 t n l) = true) : Calls Tryz.prog 58 #[v] w (Ans true w) := by
 have hsv := sv_list
 obtain ⟨p, c, rfl, hks, hkr, hnr, htl, hcp, hkid, xw, C, hd, hk, hT⟩ := hT_ h
 have xx := xw
 obtain ⟨c0, c1, c2, c3⟩ := C.out
 have hll := hid hcp.2
 have Hx := hid hx
 clear hx
 clear h hks hkid hcp hkr hnr
 simp only [nv, Tr.k, Tr.t, Tr.n, Tr.l, lC, lN, zA, Nat.reduceAdd] at *
 go_enter Tryz.func58, Tryz.ntmps58
 go_wp2_with ((first | (go_at_call 56; refine (like_any B _ _ _ hd.out.node).mono ?_; rintro e w56 ⟨rfl, z_⟩) | (go_at_call 61; refine (stmt_t (.mk 47 t n l) Hx.out B _ _ hd.out).mono ?_; rintro e w61 ⟨rfl, z_⟩)) <;> (replace ⟨xx, ⟨c0, c1, c2, c3⟩, hd⟩ := X5 z_ xx c0 c1 c2 c3 hd; replace ⟨hk, hT⟩ := D2 z_ hk hT))
 go_ret
 exact .mk rfl xx

theorem t58_48 (t : Bs) (n : Int) (l : List Tr) (B : Nat) (v : Value) (w : World) (h : NT B w v (.mk 48 t n l)) (hx : isS (.mk 48 t n l) = true) : Calls Tryz.prog 58 #[v] w (Ans true w) := by
 have hsv := sv_list
 obtain ⟨p, c, rfl, hks, hkr, hnr, htl, hcp, hkid, xw, C, hd, hk, hT⟩ := hT_ h
 have xx := xw
 obtain ⟨c0, c1, c2, c3⟩ := C.out
 have hll := hid hcp.2
 have Hx := hid hx
 clear hx
 clear h hks hkid hcp hkr hnr
 simp only [nv, Tr.k, Tr.t, Tr.n, Tr.l, lC, lN, zA, Nat.reduceAdd] at *
 go_enter Tryz.func58, Tryz.ntmps58
 go_wp2_with ((first | (go_at_call 56; refine (like_any B _ _ _ hd.out.node).mono ?_; rintro e w56 ⟨rfl, z_⟩) | (go_at_call 61; refine (stmt_t (.mk 48 t n l) Hx.out B _ _ hd.out).mono ?_; rintro e w61 ⟨rfl, z_⟩)) <;> (replace ⟨xx, ⟨c0, c1, c2, c3⟩, hd⟩ := X5 z_ xx c0 c1 c2 c3 hd; replace ⟨hk, hT⟩ := D2 z_ hk hT))
 go_ret
 exact .mk rfl xx

theorem t58_49 (t : Bs) (n : Int) (l : List Tr) (B : Nat) (v : Value) (w : World) (h : NT B w v (.mk 49 t n l)) (hx : isS (.mk 49 t n l) = true) : Calls Tryz.prog 58 #[v] w (Ans true w) := by
 have hsv := sv_list
 obtain ⟨p, c, rfl, hks, hkr, hnr, htl, hcp, hkid, xw, C, hd, hk, hT⟩ := hT_ h
 have xx := xw
 obtain ⟨c0, c1, c2, c3⟩ := C.out
 have hll := hid hcp.2
 have Hx := hid hx
 clear hx
 clear h hks hkid hcp hkr hnr
 simp only [nv, Tr.k, Tr.t, Tr.n, Tr.l, lC, lN, zA, Nat.reduceAdd] at *
 go_enter Tryz.func58, Tryz.ntmps58
 go_wp2_with ((first | (go_at_call 56; refine (like_any B _ _ _ hd.out.node).mono ?_; rintro e w56 ⟨rfl, z_⟩) | (go_at_call 61; refine (stmt_t (.mk 49 t n l) Hx.out B _ _ hd.out).mono ?_; rintro e w61 ⟨rfl, z_⟩)) <;> (replace ⟨xx, ⟨c0, c1, c2, c3⟩, hd⟩ := X5 z_ xx c0 c1 c2 c3 hd; replace ⟨hk, hT⟩ := D2 z_ hk hT))
 go_ret
 exact .mk rfl xx

theorem t58_50 (t : Bs) (n : Int) (l : List Tr) (B : Nat) (v : Value) (w : World) (h : NT B w v (.mk 50 t n l)) (hx : isS (.mk 50 t n l) = true) : Calls Tryz.prog 58 #[v] w (Ans true w) := by
 have hsv := sv_list
 obtain ⟨p, c, rfl, hks, hkr, hnr, htl, hcp, hkid, xw, C, hd, hk, hT⟩ := hT_ h
 have xx := xw
 obtain ⟨c0, c1, c2, c3⟩ := C.out
 have hll := hid hcp.2
 have Hx := hid hx
 clear hx
 clear h hks hkid hcp hkr hnr
 simp only [nv, Tr.k, Tr.t, Tr.n, Tr.l, lC, lN, zA, Nat.reduceAdd] at *
 go_enter Tryz.func58, Tryz.ntmps58
 go_wp2_with ((first | (go_at_call 56; refine (like_any B _ _ _ hd.out.node).mono ?_; rintro e w56 ⟨rfl, z_⟩) | (go_at_call 61; refine (stmt_t (.mk 50 t n l) Hx.out B _ _ hd.out).mono ?_; rintro e w61 ⟨rfl, z_⟩)) <;> (replace ⟨xx, ⟨c0, c1, c2, c3⟩, hd⟩ := X5 z_ xx c0 c1 c2 c3 hd; replace ⟨hk, hT⟩ := D2 z_ hk hT))
 go_ret
 exact .mk rfl xx

theorem t58_51 (t : Bs) (n : Int) (l : List Tr) (B : Nat) (v : Value) (w : World) (h : NT B w v (.mk 51 t n l)) (hx : isS (.mk 51 t n l) = true) : Calls Tryz.prog 58 #[v] w (Ans true w) := by
 have hsv := sv_list
 obtain ⟨p, c, rfl, hks, hkr, hnr, htl, hcp, hkid, xw, C, hd, hk, hT⟩ := hT_ h
 have xx := xw
 obtain ⟨c0, c1, c2, c3⟩ := C.out
 have hll := hid hcp.2
 have Hx := hid hx
 clear hx
 clear h hks hkid hcp hkr hnr
 simp only [nv, Tr.k, Tr.t, Tr.n, Tr.l, lC, lN, zA, Nat.reduceAdd] at *
 go_enter Tryz.func58, Tryz.ntmps58
 go_wp2_with ((first | (go_at_call 56; refine (like_any B _ _ _ hd.out.node).mono ?_; rintro e w56 ⟨rfl, z_⟩) | (go_at_call 61; refine (stmt_t (.mk 51 t n l) Hx.out B _ _ hd.out).mono ?_; rintro e w61 ⟨rfl, z_⟩)) <;> (replace ⟨xx, ⟨c0, c1, c2, c3⟩, hd⟩ := X5 z_ xx c0 c1 c2 c3 hd; replace ⟨hk, hT⟩ := D2 z_ hk hT))
 go_ret
 exact .mk rfl xx

theorem t58_52 (t : Bs) (n : Int) (l : List Tr) (B : Nat) (v : Value) (w : World) (h : NT B w v (.mk 52 t n l)) (hx : isS (.mk 52 t n l) = true) : Calls Tryz.prog 58 #[v] w (Ans true w) := by
 have hsv := sv_list
 obtain ⟨p, c, rfl, hks, hkr, hnr, htl, hcp, hkid, xw, C, hd, hk, hT⟩ := hT_ h
 have xx := xw
 obtain ⟨c0, c1, c2, c3⟩ := C.out
 have hll := hid hcp.2
 have Hx := hid hx
 clear hx
 clear h hks hkid hcp hkr hnr
 simp only [nv, Tr.k, Tr.t, Tr.n, Tr.l, lC, lN, zA, Nat.reduceAdd] at *
 go_enter Tryz.func58, Tryz.ntmps58
 go_wp2_with ((first | (go_at_call 56; refine (like_any B _ _ _ hd.out.node).mono ?_; rintro e w56 ⟨rfl, z_⟩) | (go_at_call 61; refine (stmt_t (.mk 52 t n l) Hx.out B _ _ hd.out).mono ?_; rintro e w61 ⟨rfl, z_⟩)) <;> (replace ⟨xx, ⟨c0, c1, c2, c3⟩, hd⟩ := X5 z_ xx c0 c1 c2 c3 hd; replace ⟨hk, hT⟩ := D2 z_ hk hT))
 go_ret
 exact .mk rfl xx

theorem stmt_kindT {x : Tr} (h : isS x = true) : x.k = 40 ∨ x.k = 41 ∨ x.k = 47 ∨ x.k = 48 ∨ x.k = 49 ∨ x.k = 50 ∨ x.k = 51 ∨ x.k = 52 := by
 obtain ⟨k, t, n, l⟩ := x
 simp only [Tr.k]
 unfold isS at h
 by_cases h40 : k = 40
 ·omega
 by_cases h41 : k = 41
 ·omega
 by_cases h47 : k = 47
 ·omega
 by_cases h48 : k = 48
 ·omega
 by_cases h49 : k = 49
 ·omega
 by_cases h50 : k = 50
 ·omega
 by_cases h51 : k = 51
 ·omega
 by_cases h52 : k = 52
 ·omega
 ·simp [h40, h41, h47, h51, h48, h49, h50, h52] at h
theorem class_kind {x : Tr} (h : isClass x = true) : x.k = 42 := by
 simp [isClass] at h; exact h.1.1.1
theorem space_kind {x : Tr} (h : isSpace x = true) : x.k = 66 := by
 simp [isSpace] at h; exact h.1.1.1

/-- An item, but an Export or a Default. -/
theorem it_t (x : Tr) (hx : isIt x = true) (hc : cnt x ≤ SM) (B : Nat) (v : Value) (w : World) (h : NT B w v x) : Calls Tryz.prog 58 #[v] w (Ans true w) := by
 have hlen := cnt_len x
 obtain ⟨k, t, n, l⟩ := x
 simp only [isIt, Tr.k, Tr.t, Tr.n, Tr.l] at hx hlen
 have hl : l.length ≤ 1099511627776 := by unfold SM at hc; omega
 by_cases h42 : k = 42
 ·subst h42
  simp only [if_true] at hx
  have h0 : n = 0 := by simp [isClass, Tr.n] at hx; exact hx.1.2
  subst h0
  exact t58_42 t l B v w h hx hl
 by_cases h46 : k = 46
 ·subst h46
  rcases l with _ | ⟨y, _ | ⟨z, m⟩⟩ <;> simp at hx
  obtain ⟨⟨h1, rfl⟩, h2⟩ := hx
  exact t58_46 t y B v w h h1 h2
 by_cases h60 : k = 60
 ·subst h60; simp at hx
  exact t58_60 t n l B v w h hx
 by_cases h64 : k = 64
 ·subst h64; simp at hx
  exact t58_64 t n l B v w h hx
 ·simp only [h42, h46, h60, h64, if_false] at hx
  have hk := stmt_kindT hx
  simp only [Tr.k] at hk
  rcases hk with rfl | rfl | rfl | rfl | rfl | rfl | rfl | rfl
  ·exact t58_40 t n l B v w h hx
  ·exact t58_41 t n l B v w h hx
  ·exact t58_47 t n l B v w h hx
  ·exact t58_48 t n l B v w h hx
  ·exact t58_49 t n l B v w h hx
  ·exact t58_50 t n l B v w h hx
  ·exact t58_51 t n l B v w h hx
  ·exact t58_52 t n l B v w h hx

theorem t111_40 (t : Bs) (n : Int) (l : List Tr) (B : Nat) (v : Value) (w : World) (h : NT B w v (.mk 40 t n l)) (hx : isIt (.mk 40 t n l) = true) (hc : cnt (.mk 40 t n l) ≤ SM) : Calls Tryz.prog 111 #[v] w (Ans true w) := by
 have hsv := sv_list
 obtain ⟨p, c, rfl, hks, hkr, hnr, htl, hcp, hkid, xw, C, hd, hk, hT⟩ := hT_ h
 have xx := xw
 obtain ⟨c0, c1, c2, c3⟩ := C.out
 have hll := hid hcp.2
 have Hx := hid hx
 have Hc := hid hc
 clear hx hc
 clear h hks hkid hcp hkr hnr
 simp only [nv, Tr.k, Tr.t, Tr.n, Tr.l, lC, lN, zA, Nat.reduceAdd] at *
 go_enter Tryz.func111, Tryz.ntmps111
 go_wp2_with (go_at_call 58; refine (it_t (.mk 40 t n l) Hx.out Hc.out B _ _ hd.out).mono ?_; rintro e w58 ⟨rfl, z_⟩; replace ⟨xx, ⟨c0, c1, c2, c3⟩, hd⟩ := X5 z_ xx c0 c1 c2 c3 hd; replace ⟨hk, hT⟩ := D2 z_ hk hT)
 go_ret
 exact .mk rfl xx

theorem t111_41 (t : Bs) (n : Int) (l : List Tr) (B : Nat) (v : Value) (w : World) (h : NT B w v (.mk 41 t n l)) (hx : isIt (.mk 41 t n l) = true) (hc : cnt (.mk 41 t n l) ≤ SM) : Calls Tryz.prog 111 #[v] w (Ans true w) := by
 have hsv := sv_list
 obtain ⟨p, c, rfl, hks, hkr, hnr, htl, hcp, hkid, xw, C, hd, hk, hT⟩ := hT_ h
 have xx := xw
 obtain ⟨c0, c1, c2, c3⟩ := C.out
 have hll := hid hcp.2
 have Hx := hid hx
 have Hc := hid hc
 clear hx hc
 clear h hks hkid hcp hkr hnr
 simp only [nv, Tr.k, Tr.t, Tr.n, Tr.l, lC, lN, zA, Nat.reduceAdd] at *
 go_enter Tryz.func111, Tryz.ntmps111
 go_wp2_with (go_at_call 58; refine (it_t (.mk 41 t n l) Hx.out Hc.out B _ _ hd.out).mono ?_; rintro e w58 ⟨rfl, z_⟩; replace ⟨xx, ⟨c0, c1, c2, c3⟩, hd⟩ := X5 z_ xx c0 c1 c2 c3 hd; replace ⟨hk, hT⟩ := D2 z_ hk hT)
 go_ret
 exact .mk rfl xx

theorem t111_42 (t : Bs) (n : Int) (l : List Tr) (B : Nat) (v : Value) (w : World) (h : NT B w v (.mk 42 t n l)) (hx : isIt (.mk 42 t n l) = true) (hc : cnt (.mk 42 t n l) ≤ SM) : Calls Tryz.prog 111 #[v] w (Ans true w) := by
 have hsv := sv_list
 obtain ⟨p, c, rfl, hks, hkr, hnr, htl, hcp, hkid, xw, C, hd, hk, hT⟩ := hT_ h
 have xx := xw
 obtain ⟨c0, c1, c2, c3⟩ := C.out
 have hll := hid hcp.2
 have Hx := hid hx
 have Hc := hid hc
 clear hx hc
 clear h hks hkid hcp hkr hnr
 simp only [nv, Tr.k, Tr.t, Tr.n, Tr.l, lC, lN, zA, Nat.reduceAdd] at *
 go_enter Tryz.func111, Tryz.ntmps111
 go_wp2_with (go_at_call 58; refine (it_t (.mk 42 t n l) Hx.out Hc.out B _ _ hd.out).mono ?_; rintro e w58 ⟨rfl, z_⟩; replace ⟨xx, ⟨c0, c1, c2, c3⟩, hd⟩ := X5 z_ xx c0 c1 c2 c3 hd; replace ⟨hk, hT⟩ := D2 z_ hk hT)
 go_ret
 exact .mk rfl xx

theorem t111_46 (t : Bs) (n : Int) (l : List Tr) (B : Nat) (v : Value) (w : World) (h : NT B w v (.mk 46 t n l)) (hx : isIt (.mk 46 t n l) = true) (hc : cnt (.mk 46 t n l) ≤ SM) : Calls Tryz.prog 111 #[v] w (Ans true w) := by
 have hsv := sv_list
 obtain ⟨p, c, rfl, hks, hkr, hnr, htl, hcp, hkid, xw, C, hd, hk, hT⟩ := hT_ h
 have xx := xw
 obtain ⟨c0, c1, c2, c3⟩ := C.out
 have hll := hid hcp.2
 have Hx := hid hx
 have Hc := hid hc
 clear hx hc
 clear h hks hkid hcp hkr hnr
 simp only [nv, Tr.k, Tr.t, Tr.n, Tr.l, lC, lN, zA, Nat.reduceAdd] at *
 go_enter Tryz.func111, Tryz.ntmps111
 go_wp2_with (go_at_call 58; refine (it_t (.mk 46 t n l) Hx.out Hc.out B _ _ hd.out).mono ?_; rintro e w58 ⟨rfl, z_⟩; replace ⟨xx, ⟨c0, c1, c2, c3⟩, hd⟩ := X5 z_ xx c0 c1 c2 c3 hd; replace ⟨hk, hT⟩ := D2 z_ hk hT)
 go_ret
 exact .mk rfl xx

theorem t112_41 (t : Bs) (n : Int) (l : List Tr) (B : Nat) (v : Value) (w : World) (h : NT B w v (.mk 41 t n l)) (hx : isIt (.mk 41 t n l) = true) (hc : cnt (.mk 41 t n l) ≤ SM) : Calls Tryz.prog 112 #[v] w (Ans true w) := by
 have hsv := sv_list
 obtain ⟨p, c, rfl, hks, hkr, hnr, htl, hcp, hkid, xw, C, hd, hk, hT⟩ := hT_ h
 have xx := xw
 obtain ⟨c0, c1, c2, c3⟩ := C.out
 have hll := hid hcp.2
 have Hx := hid hx
 have Hc := hid hc
 clear hx hc
 clear h hks hkid hcp hkr hnr
 simp only [nv, Tr.k, Tr.t, Tr.n, Tr.l, lC, lN, zA, Nat.reduceAdd] at *
 go_enter Tryz.func112, Tryz.ntmps112
 go_wp2_with ((first | (go_at_call 64; refine (expr_no 41 t n l (by decide) B _ _ hd.out).mono ?_; rintro e w64 ⟨rfl, z_⟩) | (go_at_call 58; refine (it_t (.mk 41 t n l) Hx.out Hc.out B _ _ hd.out).mono ?_; rintro e w58 ⟨rfl, z_⟩)) <;> (replace ⟨xx, ⟨c0, c1, c2, c3⟩, hd⟩ := X5 z_ xx c0 c1 c2 c3 hd; replace ⟨hk, hT⟩ := D2 z_ hk hT))
 go_ret
 exact .mk rfl xx

theorem t112_42 (t : Bs) (n : Int) (l : List Tr) (B : Nat) (v : Value) (w : World) (h : NT B w v (.mk 42 t n l)) (hx : isIt (.mk 42 t n l) = true) (hc : cnt (.mk 42 t n l) ≤ SM) : Calls Tryz.prog 112 #[v] w (Ans true w) := by
 have hsv := sv_list
 obtain ⟨p, c, rfl, hks, hkr, hnr, htl, hcp, hkid, xw, C, hd, hk, hT⟩ := hT_ h
 have xx := xw
 obtain ⟨c0, c1, c2, c3⟩ := C.out
 have hll := hid hcp.2
 have Hx := hid hx
 have Hc := hid hc
 clear hx hc
 clear h hks hkid hcp hkr hnr
 simp only [nv, Tr.k, Tr.t, Tr.n, Tr.l, lC, lN, zA, Nat.reduceAdd] at *
 go_enter Tryz.func112, Tryz.ntmps112
 go_wp2_with ((first | (go_at_call 64; refine (expr_no 42 t n l (by decide) B _ _ hd.out).mono ?_; rintro e w64 ⟨rfl, z_⟩) | (go_at_call 58; refine (it_t (.mk 42 t n l) Hx.out Hc.out B _ _ hd.out).mono ?_; rintro e w58 ⟨rfl, z_⟩)) <;> (replace ⟨xx, ⟨c0, c1, c2, c3⟩, hd⟩ := X5 z_ xx c0 c1 c2 c3 hd; replace ⟨hk, hT⟩ := D2 z_ hk hT))
 go_ret
 exact .mk rfl xx

theorem t112_e (x : Tr) (hx : isE x = true) (B : Nat) (v : Value) (w : World) (h : NT B w v x) : Calls Tryz.prog 112 #[v] w (Ans true w) := by
 obtain ⟨sl, rfl, hks, _, _, htl⟩ := id h.node.open
 have xw : Fx w (w.alloc (.cells #[.int .i64 x.k, .string (sv x.t), .int .i64 x.n, sl] 24)) := Ext.alloc _ _ _
 obtain ⟨c0, c1, c2, c3⟩ := nd_cells w x.k x.n (sv x.t) sl
 have hd := hid (h.keepF xw)
 have Hx := hid hx
 clear h hks htl hx
 simp only [nv] at hd ⊢
 go_enter Tryz.func112, Tryz.ntmps112
 go_wp2_with (go_at_call 64; refine (expr_t x Hx.out B _ _ hd.out).mono ?_; rintro e w1 ⟨rfl, x1⟩)
 go_ret
 exact .mk rfl (xw.of_eq x1)
theorem t112 (y : Tr) (hy : isE y = true ∨ ((y.k = 41 ∨ y.k = 42) ∧ isIt y = true)) (hc : cnt y ≤ SM) (B : Nat) (v : Value) (w : World) (h : NT B w v y) : Calls Tryz.prog 112 #[v] w (Ans true w) := by
 rcases hy with hy | ⟨hk, hy⟩
 ·exact t112_e y hy B v w h
 ·obtain ⟨k, t, n, l⟩ := y
  simp only [Tr.k] at hk
  rcases hk with rfl | rfl
  ·exact t112_41 t n l B v w h hy hc
  ·exact t112_42 t n l B v w h hy hc
theorem t111 (y : Tr) (hk : y.k = 40 ∨ y.k = 41 ∨ y.k = 42 ∨ y.k = 46) (hy : isIt y = true) (hc : cnt y ≤ SM) (B : Nat) (v : Value) (w : World) (h : NT B w v y) : Calls Tryz.prog 111 #[v] w (Ans true w) := by
 obtain ⟨k, t, n, l⟩ := y
 simp only [Tr.k] at hk
 rcases hk with rfl | rfl | rfl | rfl
 ·exact t111_40 t n l B v w h hy hc
 ·exact t111_41 t n l B v w h hy hc
 ·exact t111_42 t n l B v w h hy hc
 ·exact t111_46 t n l B v w h hy hc

theorem t58_62 (ya : Tr) (B : Nat) (v : Value) (w : World) (h : NT B w v (.mk 62 [] 0 [ya])) (hk' : ya.k = 40 ∨ ya.k = 41 ∨ ya.k = 42 ∨ ya.k = 46) (ha : isIt ya = true) (hc : cnt ya ≤ SM) : Calls Tryz.prog 58 #[v] w (Ans true w) := by
 have hsv := sv_list
 obtain ⟨p, c, rfl, hks, hkr, hnr, htl, hcp, hkid, xw, C, hd, hk, hT⟩ := hT_ h
 have xx := xw
 obtain ⟨c0, c1, c2, c3⟩ := C.out
 have hll := hid hcp.2
 have Hk := hid hk'
 have Ha := hid ha
 have Hc := hid hc
 clear hk' ha hc
 have hp := hid (show plainT (.mk 62 [] 0 [ya]) = true from rfl)
 clear h hks hkid hcp hkr hnr
 simp only [nv, Tr.k, Tr.t, Tr.n, Tr.l, lC, lN, zA, Nat.reduceAdd] at *
 go_enter Tryz.func58, Tryz.ntmps58
 go_wp2_with (first
  | (go_at_call 56; refine (like_any B _ _ _ hd.out.node).mono ?_; rintro e w56 ⟨he56, z_⟩; rw [hp.out] at he56; subst he56; replace ⟨xx, ⟨c0, c1, c2, c3⟩, hd⟩ := X5 z_ xx c0 c1 c2 c3 hd; replace ⟨hk, hT⟩ := D2 z_ hk hT)
  | (go_at_call 109; refine (row_111 _ _ _ ya B _ _ hd.out (t111 ya Hk.out Ha.out Hc.out B) _ _ _ rfl).mono ?_; rintro e w109 ⟨rfl, z_⟩; replace ⟨xx, ⟨c0, c1, c2, c3⟩, hd⟩ := X5 z_ xx c0 c1 c2 c3 hd; replace ⟨hk, hT⟩ := D2 z_ hk hT))
 go_ret
 exact .mk rfl xx

theorem t58_63 (ya : Tr) (B : Nat) (v : Value) (w : World) (h : NT B w v (.mk 63 [] 0 [ya])) (ha : isE ya = true ∨ ((ya.k = 41 ∨ ya.k = 42) ∧ isIt ya = true)) (hc : cnt ya ≤ SM) : Calls Tryz.prog 58 #[v] w (Ans true w) := by
 have hsv := sv_list
 obtain ⟨p, c, rfl, hks, hkr, hnr, htl, hcp, hkid, xw, C, hd, hk, hT⟩ := hT_ h
 have xx := xw
 obtain ⟨c0, c1, c2, c3⟩ := C.out
 have hll := hid hcp.2
 have Ha := hid ha
 have Hc := hid hc
 clear ha hc
 have hp := hid (show plainT (.mk 63 [] 0 [ya]) = true from rfl)
 clear h hks hkid hcp hkr hnr
 simp only [nv, Tr.k, Tr.t, Tr.n, Tr.l, lC, lN, zA, Nat.reduceAdd] at *
 go_enter Tryz.func58, Tryz.ntmps58
 go_wp2_with (first
  | (go_at_call 56; refine (like_any B _ _ _ hd.out.node).mono ?_; rintro e w56 ⟨he56, z_⟩; rw [hp.out] at he56; subst he56; replace ⟨xx, ⟨c0, c1, c2, c3⟩, hd⟩ := X5 z_ xx c0 c1 c2 c3 hd; replace ⟨hk, hT⟩ := D2 z_ hk hT)
  | (go_at_call 109; refine (row_112 _ _ _ ya B _ _ hd.out (t112 ya Ha.out Hc.out B) _ _ _ rfl).mono ?_; rintro e w109 ⟨rfl, z_⟩; replace ⟨xx, ⟨c0, c1, c2, c3⟩, hd⟩ := X5 z_ xx c0 c1 c2 c3 hd; replace ⟨hk, hT⟩ := D2 z_ hk hT))
 go_ret
 exact .mk rfl xx

theorem item_t (x : Tr) (hx : isItem x = true) (hc : cnt x ≤ SM) (B : Nat) (v : Value) (w : World) (h : NT B w v x) : Calls Tryz.prog 58 #[v] w (Ans true w) := by
 obtain ⟨k, t, n, l⟩ := x
 by_cases h62 : k = 62
 ·subst h62
  rcases l with _ | ⟨y, _ | ⟨z, m⟩⟩ <;> simp [isItem, plainT, Tr.k, Tr.t, Tr.n, Tr.l] at hx
  obtain ⟨⟨rfl, rfl⟩, h1, h2⟩ := hx
  refine t58_62 y B v w h ?_ h2 (by simp [cnt, cnts] at hc; omega)
  simp only [Tr.k]
  omega
 by_cases h63 : k = 63
 ·subst h63
  rcases l with _ | ⟨y, _ | ⟨z, m⟩⟩ <;> simp [isItem, plainT, Tr.k, Tr.t, Tr.n, Tr.l] at hx
  obtain ⟨⟨rfl, rfl⟩, h1⟩ := hx
  exact t58_63 y B v w h h1 (by simp [cnt, cnts] at hc; omega)
 ·have : isIt (.mk k t n l) = true := by simpa [isItem, h62, h63, Tr.k] using hx
  exact it_t _ this hc B v w h

/-! ### Form -/

def ScriptK (y : Tr) : Prop := isS y = true ∨ isClass y = true ∨ isSpace y = true
theorem stmt_no' (x : Tr) (hk : ∀ i ∈ ([40, 41, 47, 48, 49, 50, 51, 52] : List Int), ¬ x.k = i) (B : Nat) (v : Value) (w : World) (h : NT B w v x) : Calls Tryz.prog 61 #[v] w (Ans false w) := by
 obtain ⟨k, t, n, l⟩ := x
 exact stmt_no k t n l ⟨trivial, hk⟩ B v w h
theorem expr_no' (x : Tr) (hk : ∀ i ∈ ([1, 2, 3, 4, 5, 6, 7, 8, 9, 11, 15, 16, 17, 18, 19, 20, 21, 22] : List Int), ¬ x.k = i) (B : Nat) (v : Value) (w : World) (h : NT B w v x) : Calls Tryz.prog 64 #[v] w (Ans false w) := by
 obtain ⟨k, t, n, l⟩ := x
 exact expr_no k t n l ⟨trivial, hk⟩ B v w h
theorem type_no' (x : Tr) (hk : ∀ i ∈ ([30, 31, 32, 33, 35] : List Int), ¬ x.k = i) (B : Nat) (v : Value) (w : World) (h : NT B w v x) : Calls Tryz.prog 65 #[v] w (Ans false w) := by
 obtain ⟨k, t, n, l⟩ := x
 exact type_no k t n l ⟨trivial, hk⟩ B v w h
theorem class_no' (x : Tr) (hk : ¬ x.k = 42) (B : Nat) (v : Value) (w : World) (h : NT B w v x) : Calls Tryz.prog 62 #[v] w (Ans false w) := by
 obtain ⟨k, t, n, l⟩ := x
 exact class_no k t n l hk B v w h

theorem t60_s (x : Tr) (hx : isS x = true) (hc : cnt x ≤ SM) (B : Nat) (v : Value) (w : World) (h : NT B w v x) : Calls Tryz.prog 60 #[v] w (Ans true w) := by
 obtain ⟨sl, rfl, hks, _, _, htl⟩ := id h.node.open
 have xw : Fx w (w.alloc (.cells #[.int .i64 x.k, .string (sv x.t), .int .i64 x.n, sl] 24)) := Ext.alloc _ _ _
 have xx := xw
 obtain ⟨c0, c1, c2, c3⟩ := nd_cells w x.k x.n (sv x.t) sl
 have hd := hid (h.keepF xw)
 have Hx := hid hx
 have Hl := hid (show x.l.length ≤ 1099511627776 from by have := cnt_len x; unfold SM at hc; omega)
 have hk := hid True.intro
 have hT := hid (h.tab.keepF xw)
 have hyk : ∃ k t n l, x = .mk k t n l := by obtain ⟨k, t, n, l⟩ := x; exact ⟨k, t, n, l, rfl⟩
 clear h hks htl hx hk
 simp only [nv] at hd ⊢
 go_enter Tryz.func60, Tryz.ntmps60
 go_wp2_with (go_at_call 61; refine (stmt_t x Hx.out B _ _ hd.out).mono ?_; rintro e w61 ⟨rfl, z_⟩; replace ⟨xx, ⟨c0, c1, c2, c3⟩, hd⟩ := X5 z_ xx c0 c1 c2 c3 hd; replace hT := hid (hT.out.keepF z_))
 go_ret
 exact .mk rfl xx

theorem t60_c (x : Tr) (hx : isClass x = true) (hc : cnt x ≤ SM) (B : Nat) (v : Value) (w : World) (h : NT B w v x) : Calls Tryz.prog 60 #[v] w (Ans true w) := by
 obtain ⟨sl, rfl, hks, _, _, htl⟩ := id h.node.open
 have xw : Fx w (w.alloc (.cells #[.int .i64 x.k, .string (sv x.t), .int .i64 x.n, sl] 24)) := Ext.alloc _ _ _
 have xx := xw
 obtain ⟨c0, c1, c2, c3⟩ := nd_cells w x.k x.n (sv x.t) sl
 have hd := hid (h.keepF xw)
 have Hx := hid hx
 have Hl := hid (show x.l.length ≤ 1099511627776 from by have := cnt_len x; unfold SM at hc; omega)
 have hk := hid True.intro
 have hT := hid (h.tab.keepF xw)
 have hyk : ∃ k t n l, x = .mk k t n l := by obtain ⟨k, t, n, l⟩ := x; exact ⟨k, t, n, l, rfl⟩
 clear h hks htl hx hk
 simp only [nv] at hd ⊢
 go_enter Tryz.func60, Tryz.ntmps60
 go_wp2_with ((first | (go_at_call 61; refine (stmt_no' x (by have := class_kind Hx.out; simp [this]) B _ _ hd.out).mono ?_; rintro e w61 ⟨rfl, z_⟩) | (go_at_call 62; refine (class_t x Hx.out Hl.out B _ _ hd.out).mono ?_; rintro e w62 ⟨rfl, z_⟩)) <;> (replace ⟨xx, ⟨c0, c1, c2, c3⟩, hd⟩ := X5 z_ xx c0 c1 c2 c3 hd; replace hT := hid (hT.out.keepF z_)))
 go_ret
 exact .mk rfl xx

theorem t60_n (x : Tr) (hx : isSpace x = true) (hc : cnt x ≤ SM) (B : Nat) (v : Value) (w : World) (h : NT B w v x) : Calls Tryz.prog 60 #[v] w (Ans true w) := by
 obtain ⟨sl, rfl, hks, _, _, htl⟩ := id h.node.open
 have xw : Fx w (w.alloc (.cells #[.int .i64 x.k, .string (sv x.t), .int .i64 x.n, sl] 24)) := Ext.alloc _ _ _
 have xx := xw
 obtain ⟨c0, c1, c2, c3⟩ := nd_cells w x.k x.n (sv x.t) sl
 have hd := hid (h.keepF xw)
 have Hx := hid hx
 have Hl := hid (show x.l.length ≤ 1099511627776 from by have := cnt_len x; unfold SM at hc; omega)
 have hk := hid True.intro
 have hT := hid (h.tab.keepF xw)
 have hyk : ∃ k t n l, x = .mk k t n l := by obtain ⟨k, t, n, l⟩ := x; exact ⟨k, t, n, l, rfl⟩
 clear h hks htl hx hk
 simp only [nv] at hd ⊢
 go_enter Tryz.func60, Tryz.ntmps60
 go_wp2_with ((first | (go_at_call 61; refine (stmt_no' x (by have := space_kind Hx.out; simp [this]) B _ _ hd.out).mono ?_; rintro e w61 ⟨rfl, z_⟩) | (go_at_call 62; refine (class_no' x (by have := space_kind Hx.out; simp [this]) B _ _ hd.out).mono ?_; rintro e w62 ⟨rfl, z_⟩) | (go_at_call 63; refine (space_t x Hx.out B _ _ hd.out).mono ?_; rintro e w63 ⟨rfl, z_⟩)) <;> (replace ⟨xx, ⟨c0, c1, c2, c3⟩, hd⟩ := X5 z_ xx c0 c1 c2 c3 hd; replace hT := hid (hT.out.keepF z_)))
 go_ret
 exact .mk rfl xx

theorem t60 (y : Tr) (hy : ScriptK y) (hc : cnt y ≤ SM) (B : Nat) (v : Value) (w : World) (h : NT B w v y) : Calls Tryz.prog 60 #[v] w (Ans true w) := by
 rcases hy with hy | hy | hy
 ·exact t60_s y hy hc B v w h
 ·exact t60_c y hy hc B v w h
 ·exact t60_n y hy hc B v w h

/-- The call answers that number. -/
def AnsI (n : Int) (w : World) (e : Ending) (w' : World) : Prop := e = .returned (.int .i64 n) ∧ Fx w w'

theorem t28_5 (l : List Tr) (B : Nat) (v : Value) (w : World) (h : NT B w v (.mk 68 [] 0 l)) (hi : ∀ y ∈ l, isItem y = true ∧ dollar y = false) (hc : cnts l ≤ SM) : Calls Tryz.prog 28 #[v] w (AnsI 5 w) := by
 have hsv := sv_list
 obtain ⟨p, c, rfl, hks, hkr, hnr, htl, hcp, hkid, xw, C, hd, hk, hT⟩ := hT_ h
 have xx := xw
 obtain ⟨c0, c1, c2, c3⟩ := C.out
 have hll := hid hcp.2
 have Hi := hid hi
 have Hc := hid hc
 have Hf := hid (show dollar (.mk 68 [] 0 l) = false from by
  unfold dollar
  simp
  have : ∀ l : List Tr, (∀ y ∈ l, dollar y = false) → dollars l = false := by
   intro l
   induction l with
   | nil => intro _; simp [dollars]
   | cons x r ih => intro hh; simp [dollars, hh x (by simp), ih (fun y hy => hh y (by simp [hy]))]
  exact this l fun y hy => (hi y hy).2)
 clear hi hc
 have hp := hid (show plainT (.mk 68 [] 0 l) = true from rfl)
 clear h hks hkid hcp hkr hnr
 simp only [nv, Tr.k, Tr.t, Tr.n, Tr.l, lC, lN, zA, Nat.reduceAdd] at *
 go_enter Tryz.func28, Tryz.ntmps28
 go_wp2_with (first
  | (go_at_call 56; refine (like_any B _ _ _ hd.out.node).mono ?_; rintro e w56 ⟨he56, z_⟩; rw [hp.out] at he56; subst he56; replace ⟨xx, ⟨c0, c1, c2, c3⟩, hd⟩ := X5 z_ xx c0 c1 c2 c3 hd; replace ⟨hk, hT⟩ := D2 z_ hk hT)
  | ((first | (go_at_call 57; refine (all_58 l B _ _ hk.out hT.out (fun y hy u w' hn => item_t y (Hi.out y hy).1 (Nat.le_trans (cnt_mem hy) Hc.out) B u w' hn)).mono ?_; rintro e w57 ⟨rfl, z_⟩) | (go_at_call 59; refine (free_t (.mk 68 [] 0 l) Hf.out B _ _ hd.out).mono ?_; rintro e w59 ⟨rfl, z_⟩)) <;> (replace ⟨xx, ⟨c0, c1, c2, c3⟩, hd⟩ := X5 z_ xx c0 c1 c2 c3 hd; replace ⟨hk, hT⟩ := D2 z_ hk hT)))
 go_ret
 exact ⟨rfl, xx⟩

theorem t28_6 (l : List Tr) (B : Nat) (v : Value) (w : World) (h : NT B w v (.mk 69 [] 0 l)) (hi : ∀ y ∈ l, ScriptK y) (hc : cnts l ≤ SM) : Calls Tryz.prog 28 #[v] w (AnsI 6 w) := by
 have hsv := sv_list
 obtain ⟨p, c, rfl, hks, hkr, hnr, htl, hcp, hkid, xw, C, hd, hk, hT⟩ := hT_ h
 have xx := xw
 obtain ⟨c0, c1, c2, c3⟩ := C.out
 have hll := hid hcp.2
 have Hi := hid hi
 have Hc := hid hc
 clear hi hc
 have hp := hid (show plainT (.mk 69 [] 0 l) = true from rfl)
 clear h hks hkid hcp hkr hnr
 simp only [nv, Tr.k, Tr.t, Tr.n, Tr.l, lC, lN, zA, Nat.reduceAdd] at *
 go_enter Tryz.func28, Tryz.ntmps28
 go_wp2_with (first
  | (go_at_call 56; refine (like_any B _ _ _ hd.out.node).mono ?_; rintro e w56 ⟨he56, z_⟩; rw [hp.out] at he56; subst he56; replace ⟨xx, ⟨c0, c1, c2, c3⟩, hd⟩ := X5 z_ xx c0 c1 c2 c3 hd; replace ⟨hk, hT⟩ := D2 z_ hk hT)
  | (go_at_call 57; refine (all_60 l B _ _ hk.out hT.out (fun y hy u w' hn => t60 y (Hi.out y hy) (Nat.le_trans (cnt_mem hy) Hc.out) B u w' hn)).mono ?_; rintro e w57 ⟨rfl, z_⟩; replace ⟨xx, ⟨c0, c1, c2, c3⟩, hd⟩ := X5 z_ xx c0 c1 c2 c3 hd; replace ⟨hk, hT⟩ := D2 z_ hk hT))
 go_ret
 exact ⟨rfl, xx⟩

theorem t28_1 (x : Tr) (hx : isE x = true) (hk : ¬ x.k = 68 ∧ ¬ x.k = 69) (B : Nat) (v : Value) (w : World) (h : NT B w v x) : Calls Tryz.prog 28 #[v] w (AnsI 1 w) := by
 obtain ⟨sl, rfl, hks, _, _, htl⟩ := id h.node.open
 have xw : Fx w (w.alloc (.cells #[.int .i64 x.k, .string (sv x.t), .int .i64 x.n, sl] 24)) := Ext.alloc _ _ _
 have xx := xw
 obtain ⟨c0, c1, c2, c3⟩ := nd_cells w x.k x.n (sv x.t) sl
 have hd := hid (h.keepF xw)
 have Hx := hid hx
 have Hk := hid hk
 clear hx hk
 have k68 : (x.k == 68) = false := by simpa using Hk.out.1
 have k69 : (x.k == 69) = false := by simpa using Hk.out.2
 have k68' := Hk.out.1
 have k69' := Hk.out.2
 clear h hks htl
 simp only [nv] at hd ⊢
 go_enter Tryz.func28, Tryz.ntmps28
 go_wp2_with (go_at_call 64; refine (expr_t x Hx.out B _ _ hd.out).mono ?_; rintro e w64 ⟨rfl, z_⟩; replace ⟨xx, ⟨c0, c1, c2, c3⟩, hd⟩ := X5 z_ xx c0 c1 c2 c3 hd)
 go_ret
 exact ⟨rfl, xx⟩

theorem t28_2 (x : Tr) (hx : isT x = true) (hk : ¬ x.k = 68 ∧ ¬ x.k = 69) (he : ∀ i ∈ ([1, 2, 3, 4, 5, 6, 7, 8, 9, 11, 15, 16, 17, 18, 19, 20, 21, 22] : List Int), ¬ x.k = i) (B : Nat) (v : Value) (w : World) (h : NT B w v x) : Calls Tryz.prog 28 #[v] w (AnsI 2 w) := by
 obtain ⟨sl, rfl, hks, _, _, htl⟩ := id h.node.open
 have xw : Fx w (w.alloc (.cells #[.int .i64 x.k, .string (sv x.t), .int .i64 x.n, sl] 24)) := Ext.alloc _ _ _
 have xx := xw
 obtain ⟨c0, c1, c2, c3⟩ := nd_cells w x.k x.n (sv x.t) sl
 have hd := hid (h.keepF xw)
 have Hx := hid hx
 have Hk := hid hk
 have He := hid he
 clear hx hk he
 have k68 : (x.k == 68) = false := by simpa using Hk.out.1
 have k69 : (x.k == 69) = false := by simpa using Hk.out.2
 have k68' := Hk.out.1
 have k69' := Hk.out.2
 clear h hks htl
 simp only [nv] at hd ⊢
 go_enter Tryz.func28, Tryz.ntmps28
 go_wp2_with ((first | (go_at_call 64; refine (expr_no' x He.out B _ _ hd.out).mono ?_; rintro e w64 ⟨rfl, z_⟩) | (go_at_call 65; refine (type_t x Hx.out B _ _ hd.out).mono ?_; rintro e w65 ⟨rfl, z_⟩)) <;> (replace ⟨xx, ⟨c0, c1, c2, c3⟩, hd⟩ := X5 z_ xx c0 c1 c2 c3 hd))
 go_ret
 exact ⟨rfl, xx⟩

theorem t28_3 (x : Tr) (hx : isS x = true) (hk : ¬ x.k = 68 ∧ ¬ x.k = 69) (he : ∀ i ∈ ([1, 2, 3, 4, 5, 6, 7, 8, 9, 11, 15, 16, 17, 18, 19, 20, 21, 22] : List Int), ¬ x.k = i) (ht : ∀ i ∈ ([30, 31, 32, 33, 35] : List Int), ¬ x.k = i) (B : Nat) (v : Value) (w : World) (h : NT B w v x) : Calls Tryz.prog 28 #[v] w (AnsI 3 w) := by
 obtain ⟨sl, rfl, hks, _, _, htl⟩ := id h.node.open
 have xw : Fx w (w.alloc (.cells #[.int .i64 x.k, .string (sv x.t), .int .i64 x.n, sl] 24)) := Ext.alloc _ _ _
 have xx := xw
 obtain ⟨c0, c1, c2, c3⟩ := nd_cells w x.k x.n (sv x.t) sl
 have hd := hid (h.keepF xw)
 have Hx := hid hx
 have Hk := hid hk
 have He := hid he
 have Ht := hid ht
 clear hx hk he ht
 have k68 : (x.k == 68) = false := by simpa using Hk.out.1
 have k69 : (x.k == 69) = false := by simpa using Hk.out.2
 have k68' := Hk.out.1
 have k69' := Hk.out.2
 clear h hks htl
 simp only [nv] at hd ⊢
 go_enter Tryz.func28, Tryz.ntmps28
 go_wp2_with ((first | (go_at_call 64; refine (expr_no' x He.out B _ _ hd.out).mono ?_; rintro e w64 ⟨rfl, z_⟩) | (go_at_call 65; refine (type_no' x Ht.out B _ _ hd.out).mono ?_; rintro e w65 ⟨rfl, z_⟩) | (go_at_call 61; refine (stmt_t x Hx.out B _ _ hd.out).mono ?_; rintro e w61 ⟨rfl, z_⟩)) <;> (replace ⟨xx, ⟨c0, c1, c2, c3⟩, hd⟩ := X5 z_ xx c0 c1 c2 c3 hd))
 go_ret
 exact ⟨rfl, xx⟩

theorem t28_4 (x : Tr) (hx : isItem x = true) (hk : ¬ x.k = 68 ∧ ¬ x.k = 69) (he : ∀ i ∈ ([1, 2, 3, 4, 5, 6, 7, 8, 9, 11, 15, 16, 17, 18, 19, 20, 21, 22] : List Int), ¬ x.k = i) (ht : ∀ i ∈ ([30, 31, 32, 33, 35] : List Int), ¬ x.k = i) (hs : ∀ i ∈ ([40, 41, 47, 48, 49, 50, 51, 52] : List Int), ¬ x.k = i) (hc : cnt x ≤ SM) (B : Nat) (v : Value) (w : World) (h : NT B w v x) : Calls Tryz.prog 28 #[v] w (AnsI 4 w) := by
 obtain ⟨sl, rfl, hks, _, _, htl⟩ := id h.node.open
 have xw : Fx w (w.alloc (.cells #[.int .i64 x.k, .string (sv x.t), .int .i64 x.n, sl] 24)) := Ext.alloc _ _ _
 have xx := xw
 obtain ⟨c0, c1, c2, c3⟩ := nd_cells w x.k x.n (sv x.t) sl
 have hd := hid (h.keepF xw)
 have Hx := hid hx
 have Hk := hid hk
 have He := hid he
 have Ht := hid ht
 clear hx hk he ht
 have Hs := hid hs
 have Hc := hid hc
 clear hs hc
 have k68 : (x.k == 68) = false := by simpa using Hk.out.1
 have k69 : (x.k == 69) = false := by simpa using Hk.out.2
 have k68' := Hk.out.1
 have k69' := Hk.out.2
 clear h hks htl
 simp only [nv] at hd ⊢
 go_enter Tryz.func28, Tryz.ntmps28
 go_wp2_with ((first | (go_at_call 64; refine (expr_no' x He.out B _ _ hd.out).mono ?_; rintro e w64 ⟨rfl, z_⟩) | (go_at_call 65; refine (type_no' x Ht.out B _ _ hd.out).mono ?_; rintro e w65 ⟨rfl, z_⟩) | (go_at_call 61; refine (stmt_no' x Hs.out B _ _ hd.out).mono ?_; rintro e w61 ⟨rfl, z_⟩) | (go_at_call 58; refine (item_t x Hx.out Hc.out B _ _ hd.out).mono ?_; rintro e w58 ⟨rfl, z_⟩)) <;> (replace ⟨xx, ⟨c0, c1, c2, c3⟩, hd⟩ := X5 z_ xx c0 c1 c2 c3 hd))
 go_ret
 exact ⟨rfl, xx⟩

end Go.Proofs.YtpmlmpibpmoclaaGreatDoor
