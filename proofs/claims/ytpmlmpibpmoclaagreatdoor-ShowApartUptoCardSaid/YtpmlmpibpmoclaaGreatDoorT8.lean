/-
  The program's own tests on trees: expressions and statements, a kind at a time.
-/
import Derived.Test.YtpmlmpibpmoclaaGreatDoorT9
namespace Go.Proofs.YtpmlmpibpmoclaaGreatDoor
set_option linter.all false
set_option maxRecDepth 20000
set_option maxHeartbeats 4000000
open Go.RowKit

def TExprC (N : Nat) : Prop := ∀ x : Tr, cnt x < N → isE x = true → ∀ B v w, NT B w v x → Calls Tryz.prog 64 #[v] w (Ans true w)
def TStmtC (N : Nat) : Prop := ∀ x : Tr, cnt x < N → isS x = true → ∀ B v w, NT B w v x → Calls Tryz.prog 61 #[v] w (Ans true w)

theorem valid_t' (s : Bs) (hl : s.length ≤ 4398046511104) (h : valid s = true) (B : Nat) (w : World) (hT : Tabs B w) : Calls Tryz.prog 171 #[.string (sv s)] w (Ans true w) :=
 (valid_t s hl B w hT).mono fun _ _ k => by rw [h] at k; exact k


theorem t127_1 (n : Int) (B : Nat) (v : Value) (w : World) (h : NT B w v (.mk 1 [] n [])) (h0 : 0 ≤ n) (h1 : n ≤ 9007199254740991) : Calls Tryz.prog 127 #[v] w (Ans true w) := by
 have hsv := sv_list
 obtain ⟨p, c, rfl, hks, hkr, hnr, htl, hcp, hkid, xw, C, hd, hk, hT⟩ := hT_ h
 have xx := xw
 obtain ⟨c0, c1, c2, c3⟩ := C.out
 have hll := hid hcp.2
 clear h hks hkid hcp hkr hnr
 simp only [nv, Tr.k, Tr.t, Tr.n, Tr.l, lC, lN, zA, Nat.reduceAdd] at *
 go_enter Tryz.func127, Tryz.ntmps127
 go_wp2_with (fail)
 go_ret
 exact .mk rfl xx

theorem t127_2 (t : Bs) (B : Nat) (v : Value) (w : World) (h : NT B w v (.mk 2 t 0 [])) (hv : valid t = true) : Calls Tryz.prog 127 #[v] w (Ans true w) := by
 have hsv := sv_list
 obtain ⟨p, c, rfl, hks, hkr, hnr, htl, hcp, hkid, xw, C, hd, hk, hT⟩ := hT_ h
 have xx := xw
 obtain ⟨c0, c1, c2, c3⟩ := C.out
 have hll := hid hcp.2
 have H := hid hv
 clear hv
 clear h hks hkid hcp hkr hnr
 simp only [nv, Tr.k, Tr.t, Tr.n, Tr.l, lC, lN, zA, Nat.reduceAdd] at *
 go_enter Tryz.func127, Tryz.ntmps127
 go_wp2_with (go_at_call 171; refine (valid_t' t htl H.out B _ hT.out).mono ?_; rintro e w171 ⟨rfl, z_⟩; replace ⟨xx, ⟨c0, c1, c2, c3⟩, hd⟩ := X5 z_ xx c0 c1 c2 c3 hd; replace ⟨hk, hT⟩ := D2 z_ hk hT)
 go_ret
 exact .mk rfl xx

theorem t127_3_0  (B : Nat) (v : Value) (w : World) (h : NT B w v (.mk 3 [] 0 []))  : Calls Tryz.prog 127 #[v] w (Ans true w) := by
 have hsv := sv_list
 obtain ⟨p, c, rfl, hks, hkr, hnr, htl, hcp, hkid, xw, C, hd, hk, hT⟩ := hT_ h
 have xx := xw
 obtain ⟨c0, c1, c2, c3⟩ := C.out
 have hll := hid hcp.2
 clear h hks hkid hcp hkr hnr
 simp only [nv, Tr.k, Tr.t, Tr.n, Tr.l, lC, lN, zA, Nat.reduceAdd] at *
 go_enter Tryz.func127, Tryz.ntmps127
 go_wp2_with (fail)
 go_ret
 exact .mk rfl xx

theorem t127_3_1  (B : Nat) (v : Value) (w : World) (h : NT B w v (.mk 3 [] 1 []))  : Calls Tryz.prog 127 #[v] w (Ans true w) := by
 have hsv := sv_list
 obtain ⟨p, c, rfl, hks, hkr, hnr, htl, hcp, hkid, xw, C, hd, hk, hT⟩ := hT_ h
 have xx := xw
 obtain ⟨c0, c1, c2, c3⟩ := C.out
 have hll := hid hcp.2
 clear h hks hkid hcp hkr hnr
 simp only [nv, Tr.k, Tr.t, Tr.n, Tr.l, lC, lN, zA, Nat.reduceAdd] at *
 go_enter Tryz.func127, Tryz.ntmps127
 go_wp2_with (fail)
 go_ret
 exact .mk rfl xx

theorem t127_4  (B : Nat) (v : Value) (w : World) (h : NT B w v (.mk 4 [] 0 []))  : Calls Tryz.prog 127 #[v] w (Ans true w) := by
 have hsv := sv_list
 obtain ⟨p, c, rfl, hks, hkr, hnr, htl, hcp, hkid, xw, C, hd, hk, hT⟩ := hT_ h
 have xx := xw
 obtain ⟨c0, c1, c2, c3⟩ := C.out
 have hll := hid hcp.2
 have hp := hid (show plainT (.mk 4 [] 0 []) = true from rfl)
 clear h hks hkid hcp hkr hnr
 simp only [nv, Tr.k, Tr.t, Tr.n, Tr.l, lC, lN, zA, Nat.reduceAdd] at *
 go_enter Tryz.func127, Tryz.ntmps127
 go_wp2_with (go_at_call 56; refine (like_any B _ _ _ hd.out.node).mono ?_; rintro e w56 ⟨he56, z_⟩; rw [hp.out] at he56; subst he56; replace ⟨xx, ⟨c0, c1, c2, c3⟩, hd⟩ := X5 z_ xx c0 c1 c2 c3 hd; replace ⟨hk, hT⟩ := D2 z_ hk hT)
 go_ret
 exact .mk rfl xx

theorem t127_5  (B : Nat) (v : Value) (w : World) (h : NT B w v (.mk 5 [] 0 []))  : Calls Tryz.prog 127 #[v] w (Ans true w) := by
 have hsv := sv_list
 obtain ⟨p, c, rfl, hks, hkr, hnr, htl, hcp, hkid, xw, C, hd, hk, hT⟩ := hT_ h
 have xx := xw
 obtain ⟨c0, c1, c2, c3⟩ := C.out
 have hll := hid hcp.2
 have hp := hid (show plainT (.mk 5 [] 0 []) = true from rfl)
 clear h hks hkid hcp hkr hnr
 simp only [nv, Tr.k, Tr.t, Tr.n, Tr.l, lC, lN, zA, Nat.reduceAdd] at *
 go_enter Tryz.func127, Tryz.ntmps127
 go_wp2_with (go_at_call 56; refine (like_any B _ _ _ hd.out.node).mono ?_; rintro e w56 ⟨he56, z_⟩; rw [hp.out] at he56; subst he56; replace ⟨xx, ⟨c0, c1, c2, c3⟩, hd⟩ := X5 z_ xx c0 c1 c2 c3 hd; replace ⟨hk, hT⟩ := D2 z_ hk hT)
 go_ret
 exact .mk rfl xx

theorem t127_7  (B : Nat) (v : Value) (w : World) (h : NT B w v (.mk 7 [] 0 []))  : Calls Tryz.prog 127 #[v] w (Ans true w) := by
 have hsv := sv_list
 obtain ⟨p, c, rfl, hks, hkr, hnr, htl, hcp, hkid, xw, C, hd, hk, hT⟩ := hT_ h
 have xx := xw
 obtain ⟨c0, c1, c2, c3⟩ := C.out
 have hll := hid hcp.2
 have hp := hid (show plainT (.mk 7 [] 0 []) = true from rfl)
 clear h hks hkid hcp hkr hnr
 simp only [nv, Tr.k, Tr.t, Tr.n, Tr.l, lC, lN, zA, Nat.reduceAdd] at *
 go_enter Tryz.func127, Tryz.ntmps127
 go_wp2_with (go_at_call 56; refine (like_any B _ _ _ hd.out.node).mono ?_; rintro e w56 ⟨he56, z_⟩; rw [hp.out] at he56; subst he56; replace ⟨xx, ⟨c0, c1, c2, c3⟩, hd⟩ := X5 z_ xx c0 c1 c2 c3 hd; replace ⟨hk, hT⟩ := D2 z_ hk hT)
 go_ret
 exact .mk rfl xx

theorem t127_6 (t : Bs) (B : Nat) (v : Value) (w : World) (h : NT B w v (.mk 6 t 0 [])) (hv : isId t = true) : Calls Tryz.prog 127 #[v] w (Ans true w) := by
 have hsv := sv_list
 obtain ⟨p, c, rfl, hks, hkr, hnr, htl, hcp, hkid, xw, C, hd, hk, hT⟩ := hT_ h
 have xx := xw
 obtain ⟨c0, c1, c2, c3⟩ := C.out
 have hll := hid hcp.2
 have H := hid hv
 clear hv
 clear h hks hkid hcp hkr hnr
 simp only [nv, Tr.k, Tr.t, Tr.n, Tr.l, lC, lN, zA, Nat.reduceAdd] at *
 go_enter Tryz.func127, Tryz.ntmps127
 go_wp2_with (go_at_call 108; refine (id_t t htl H.out B _ hT.out).mono ?_; rintro e w108 ⟨rfl, z_⟩; replace ⟨xx, ⟨c0, c1, c2, c3⟩, hd⟩ := X5 z_ xx c0 c1 c2 c3 hd; replace ⟨hk, hT⟩ := D2 z_ hk hT)
 go_ret
 exact .mk rfl xx

theorem t64_1 (n : Int) (B : Nat) (v : Value) (w : World) (h : NT B w v (.mk 1 [] n [])) (h0 : 0 ≤ n) (h1 : n ≤ 9007199254740991) : Calls Tryz.prog 64 #[v] w (Ans true w) := by
 have hsv := sv_list
 obtain ⟨p, c, rfl, hks, hkr, hnr, htl, hcp, hkid, xw, C, hd, hk, hT⟩ := hT_ h
 have xx := xw
 obtain ⟨c0, c1, c2, c3⟩ := C.out
 have hll := hid hcp.2
 have G0 := hid h0
 have G1 := hid h1
 clear h0 h1
 clear h hks hkid hcp hkr hnr
 simp only [nv, Tr.k, Tr.t, Tr.n, Tr.l, lC, lN, zA, Nat.reduceAdd] at *
 go_enter Tryz.func64, Tryz.ntmps64
 go_wp2_with ((first | (go_at_call 56; refine (like_any B _ _ _ hd.out.node).mono ?_; rintro e w56 ⟨rfl, z_⟩) | (go_at_call 127; refine (t127_1 n B _ _ hd.out G0.out G1.out).mono ?_; rintro e w127 ⟨rfl, z_⟩)) <;> (replace ⟨xx, ⟨c0, c1, c2, c3⟩, hd⟩ := X5 z_ xx c0 c1 c2 c3 hd; replace ⟨hk, hT⟩ := D2 z_ hk hT))
 go_ret
 exact .mk rfl xx

theorem t64_2 (t : Bs) (B : Nat) (v : Value) (w : World) (h : NT B w v (.mk 2 t 0 [])) (hv : valid t = true) : Calls Tryz.prog 64 #[v] w (Ans true w) := by
 have hsv := sv_list
 obtain ⟨p, c, rfl, hks, hkr, hnr, htl, hcp, hkid, xw, C, hd, hk, hT⟩ := hT_ h
 have xx := xw
 obtain ⟨c0, c1, c2, c3⟩ := C.out
 have hll := hid hcp.2
 have G0 := hid hv
 clear hv
 clear h hks hkid hcp hkr hnr
 simp only [nv, Tr.k, Tr.t, Tr.n, Tr.l, lC, lN, zA, Nat.reduceAdd] at *
 go_enter Tryz.func64, Tryz.ntmps64
 go_wp2_with ((first | (go_at_call 56; refine (like_any B _ _ _ hd.out.node).mono ?_; rintro e w56 ⟨rfl, z_⟩) | (go_at_call 127; refine (t127_2 t B _ _ hd.out G0.out).mono ?_; rintro e w127 ⟨rfl, z_⟩)) <;> (replace ⟨xx, ⟨c0, c1, c2, c3⟩, hd⟩ := X5 z_ xx c0 c1 c2 c3 hd; replace ⟨hk, hT⟩ := D2 z_ hk hT))
 go_ret
 exact .mk rfl xx

theorem t64_3_0  (B : Nat) (v : Value) (w : World) (h : NT B w v (.mk 3 [] 0 []))  : Calls Tryz.prog 64 #[v] w (Ans true w) := by
 have hsv := sv_list
 obtain ⟨p, c, rfl, hks, hkr, hnr, htl, hcp, hkid, xw, C, hd, hk, hT⟩ := hT_ h
 have xx := xw
 obtain ⟨c0, c1, c2, c3⟩ := C.out
 have hll := hid hcp.2
 clear h hks hkid hcp hkr hnr
 simp only [nv, Tr.k, Tr.t, Tr.n, Tr.l, lC, lN, zA, Nat.reduceAdd] at *
 go_enter Tryz.func64, Tryz.ntmps64
 go_wp2_with ((first | (go_at_call 56; refine (like_any B _ _ _ hd.out.node).mono ?_; rintro e w56 ⟨rfl, z_⟩) | (go_at_call 127; refine (t127_3_0  B _ _ hd.out ).mono ?_; rintro e w127 ⟨rfl, z_⟩)) <;> (replace ⟨xx, ⟨c0, c1, c2, c3⟩, hd⟩ := X5 z_ xx c0 c1 c2 c3 hd; replace ⟨hk, hT⟩ := D2 z_ hk hT))
 go_ret
 exact .mk rfl xx

theorem t64_3_1  (B : Nat) (v : Value) (w : World) (h : NT B w v (.mk 3 [] 1 []))  : Calls Tryz.prog 64 #[v] w (Ans true w) := by
 have hsv := sv_list
 obtain ⟨p, c, rfl, hks, hkr, hnr, htl, hcp, hkid, xw, C, hd, hk, hT⟩ := hT_ h
 have xx := xw
 obtain ⟨c0, c1, c2, c3⟩ := C.out
 have hll := hid hcp.2
 clear h hks hkid hcp hkr hnr
 simp only [nv, Tr.k, Tr.t, Tr.n, Tr.l, lC, lN, zA, Nat.reduceAdd] at *
 go_enter Tryz.func64, Tryz.ntmps64
 go_wp2_with ((first | (go_at_call 56; refine (like_any B _ _ _ hd.out.node).mono ?_; rintro e w56 ⟨rfl, z_⟩) | (go_at_call 127; refine (t127_3_1  B _ _ hd.out ).mono ?_; rintro e w127 ⟨rfl, z_⟩)) <;> (replace ⟨xx, ⟨c0, c1, c2, c3⟩, hd⟩ := X5 z_ xx c0 c1 c2 c3 hd; replace ⟨hk, hT⟩ := D2 z_ hk hT))
 go_ret
 exact .mk rfl xx

theorem t64_4  (B : Nat) (v : Value) (w : World) (h : NT B w v (.mk 4 [] 0 []))  : Calls Tryz.prog 64 #[v] w (Ans true w) := by
 have hsv := sv_list
 obtain ⟨p, c, rfl, hks, hkr, hnr, htl, hcp, hkid, xw, C, hd, hk, hT⟩ := hT_ h
 have xx := xw
 obtain ⟨c0, c1, c2, c3⟩ := C.out
 have hll := hid hcp.2
 clear h hks hkid hcp hkr hnr
 simp only [nv, Tr.k, Tr.t, Tr.n, Tr.l, lC, lN, zA, Nat.reduceAdd] at *
 go_enter Tryz.func64, Tryz.ntmps64
 go_wp2_with ((first | (go_at_call 56; refine (like_any B _ _ _ hd.out.node).mono ?_; rintro e w56 ⟨rfl, z_⟩) | (go_at_call 127; refine (t127_4  B _ _ hd.out ).mono ?_; rintro e w127 ⟨rfl, z_⟩)) <;> (replace ⟨xx, ⟨c0, c1, c2, c3⟩, hd⟩ := X5 z_ xx c0 c1 c2 c3 hd; replace ⟨hk, hT⟩ := D2 z_ hk hT))
 go_ret
 exact .mk rfl xx

theorem t64_5  (B : Nat) (v : Value) (w : World) (h : NT B w v (.mk 5 [] 0 []))  : Calls Tryz.prog 64 #[v] w (Ans true w) := by
 have hsv := sv_list
 obtain ⟨p, c, rfl, hks, hkr, hnr, htl, hcp, hkid, xw, C, hd, hk, hT⟩ := hT_ h
 have xx := xw
 obtain ⟨c0, c1, c2, c3⟩ := C.out
 have hll := hid hcp.2
 clear h hks hkid hcp hkr hnr
 simp only [nv, Tr.k, Tr.t, Tr.n, Tr.l, lC, lN, zA, Nat.reduceAdd] at *
 go_enter Tryz.func64, Tryz.ntmps64
 go_wp2_with ((first | (go_at_call 56; refine (like_any B _ _ _ hd.out.node).mono ?_; rintro e w56 ⟨rfl, z_⟩) | (go_at_call 127; refine (t127_5  B _ _ hd.out ).mono ?_; rintro e w127 ⟨rfl, z_⟩)) <;> (replace ⟨xx, ⟨c0, c1, c2, c3⟩, hd⟩ := X5 z_ xx c0 c1 c2 c3 hd; replace ⟨hk, hT⟩ := D2 z_ hk hT))
 go_ret
 exact .mk rfl xx

theorem t64_7  (B : Nat) (v : Value) (w : World) (h : NT B w v (.mk 7 [] 0 []))  : Calls Tryz.prog 64 #[v] w (Ans true w) := by
 have hsv := sv_list
 obtain ⟨p, c, rfl, hks, hkr, hnr, htl, hcp, hkid, xw, C, hd, hk, hT⟩ := hT_ h
 have xx := xw
 obtain ⟨c0, c1, c2, c3⟩ := C.out
 have hll := hid hcp.2
 clear h hks hkid hcp hkr hnr
 simp only [nv, Tr.k, Tr.t, Tr.n, Tr.l, lC, lN, zA, Nat.reduceAdd] at *
 go_enter Tryz.func64, Tryz.ntmps64
 go_wp2_with ((first | (go_at_call 56; refine (like_any B _ _ _ hd.out.node).mono ?_; rintro e w56 ⟨rfl, z_⟩) | (go_at_call 127; refine (t127_7  B _ _ hd.out ).mono ?_; rintro e w127 ⟨rfl, z_⟩)) <;> (replace ⟨xx, ⟨c0, c1, c2, c3⟩, hd⟩ := X5 z_ xx c0 c1 c2 c3 hd; replace ⟨hk, hT⟩ := D2 z_ hk hT))
 go_ret
 exact .mk rfl xx

theorem t64_6 (t : Bs) (B : Nat) (v : Value) (w : World) (h : NT B w v (.mk 6 t 0 [])) (hv : isId t = true) : Calls Tryz.prog 64 #[v] w (Ans true w) := by
 have hsv := sv_list
 obtain ⟨p, c, rfl, hks, hkr, hnr, htl, hcp, hkid, xw, C, hd, hk, hT⟩ := hT_ h
 have xx := xw
 obtain ⟨c0, c1, c2, c3⟩ := C.out
 have hll := hid hcp.2
 have G0 := hid hv
 clear hv
 clear h hks hkid hcp hkr hnr
 simp only [nv, Tr.k, Tr.t, Tr.n, Tr.l, lC, lN, zA, Nat.reduceAdd] at *
 go_enter Tryz.func64, Tryz.ntmps64
 go_wp2_with ((first | (go_at_call 56; refine (like_any B _ _ _ hd.out.node).mono ?_; rintro e w56 ⟨rfl, z_⟩) | (go_at_call 127; refine (t127_6 t B _ _ hd.out G0.out).mono ?_; rintro e w127 ⟨rfl, z_⟩)) <;> (replace ⟨xx, ⟨c0, c1, c2, c3⟩, hd⟩ := X5 z_ xx c0 c1 c2 c3 hd; replace ⟨hk, hT⟩ := D2 z_ hk hT))
 go_ret
 exact .mk rfl xx

theorem t124 {N : Nat} (ih : TExprC N) (t : Bs) (ya : Tr) (B : Nat) (v : Value) (w : World) (h : NT B w v (.mk 10 t 0 [ya])) (hc : cnt ya < N) (hs : signs t = true) (ha : isE ya = true) : Calls Tryz.prog 124 #[v] w (Ans true w) := by
 have hsv := sv_list
 obtain ⟨p, c, rfl, hks, hkr, hnr, htl, hcp, hkid, xw, C, hd, hk, hT⟩ := hT_ h
 have xx := xw
 obtain ⟨c0, c1, c2, c3⟩ := C.out
 have hll := hid hcp.2
 have Hc := hid hc
 have Ha := hid ha
 have H := hid hs
 clear hc ha hs
 clear h hks hkid hcp hkr hnr
 simp only [nv, Tr.k, Tr.t, Tr.n, Tr.l, lC, lN, zA, Nat.reduceAdd] at *
 go_enter Tryz.func124, Tryz.ntmps124
 go_wp2_with ((first | (go_at_call 120; refine (prop_t t htl H.out B _ hT.out).mono ?_; rintro e w120 ⟨rfl, z_⟩) | (go_at_call 109; refine (row_64 _ _ _ ya B _ _ hd.out (ih ya Hc.out Ha.out B) _ _ _ rfl).mono ?_; rintro e w109 ⟨rfl, z_⟩)) <;> (replace ⟨xx, ⟨c0, c1, c2, c3⟩, hd⟩ := X5 z_ xx c0 c1 c2 c3 hd; replace ⟨hk, hT⟩ := D2 z_ hk hT))
 go_ret
 exact .mk rfl xx

theorem bin_t (t : Bs) (h : binOps.contains t = true) (w : World) : Calls Tryz.prog 125 #[.string (sv t)] w (Tells true w) := by
 have hsv := sv_list
 have hm : t ∈ binOps := by simpa using h
 clear h
 simp only [binOps, List.mem_cons, List.not_mem_nil, or_false] at hm
 rcases hm with rfl | rfl | rfl | rfl | rfl | rfl | rfl | rfl | rfl | rfl | rfl | rfl | rfl
 all_goals
  go_enter Tryz.func125, Tryz.ntmps125
  go_wp2
  go_ret
  exact .mk rfl

theorem t126_6 {N : Nat} (ih : TExprC N) (t : Bs) (n : Int) (l : List Tr) (B : Nat) (v : Value) (w : World) (h : NT B w v (.mk 6 t n l)) (hc : cnt (.mk 6 t n l) < N) (ha : isE (.mk 6 t n l) = true) : Calls Tryz.prog 126 #[v] w (Ans true w) := by
 have hsv := sv_list
 obtain ⟨p, c, rfl, hks, hkr, hnr, htl, hcp, hkid, xw, C, hd, hk, hT⟩ := hT_ h
 have xx := xw
 obtain ⟨c0, c1, c2, c3⟩ := C.out
 have hll := hid hcp.2
 have Hc := hid hc
 have Ha := hid ha
 clear hc ha
 clear h hks hkid hcp hkr hnr
 simp only [nv, Tr.k, Tr.t, Tr.n, Tr.l, lC, lN, zA, Nat.reduceAdd] at *
 go_enter Tryz.func126, Tryz.ntmps126
 go_wp2_with (go_at_call 64; refine (ih _ Hc.out Ha.out B _ _ hd.out).mono ?_; rintro e w64 ⟨rfl, z_⟩; replace ⟨xx, ⟨c0, c1, c2, c3⟩, hd⟩ := X5 z_ xx c0 c1 c2 c3 hd; replace ⟨hk, hT⟩ := D2 z_ hk hT)
 go_ret
 exact .mk rfl xx

theorem t126_21 {N : Nat} (ih : TExprC N) (t : Bs) (n : Int) (l : List Tr) (B : Nat) (v : Value) (w : World) (h : NT B w v (.mk 21 t n l)) (hc : cnt (.mk 21 t n l) < N) (ha : isE (.mk 21 t n l) = true) : Calls Tryz.prog 126 #[v] w (Ans true w) := by
 have hsv := sv_list
 obtain ⟨p, c, rfl, hks, hkr, hnr, htl, hcp, hkid, xw, C, hd, hk, hT⟩ := hT_ h
 have xx := xw
 obtain ⟨c0, c1, c2, c3⟩ := C.out
 have hll := hid hcp.2
 have Hc := hid hc
 have Ha := hid ha
 clear hc ha
 clear h hks hkid hcp hkr hnr
 simp only [nv, Tr.k, Tr.t, Tr.n, Tr.l, lC, lN, zA, Nat.reduceAdd] at *
 go_enter Tryz.func126, Tryz.ntmps126
 go_wp2_with (go_at_call 64; refine (ih _ Hc.out Ha.out B _ _ hd.out).mono ?_; rintro e w64 ⟨rfl, z_⟩; replace ⟨xx, ⟨c0, c1, c2, c3⟩, hd⟩ := X5 z_ xx c0 c1 c2 c3 hd; replace ⟨hk, hT⟩ := D2 z_ hk hT)
 go_ret
 exact .mk rfl xx

theorem t126_22 {N : Nat} (ih : TExprC N) (t : Bs) (n : Int) (l : List Tr) (B : Nat) (v : Value) (w : World) (h : NT B w v (.mk 22 t n l)) (hc : cnt (.mk 22 t n l) < N) (ha : isE (.mk 22 t n l) = true) : Calls Tryz.prog 126 #[v] w (Ans true w) := by
 have hsv := sv_list
 obtain ⟨p, c, rfl, hks, hkr, hnr, htl, hcp, hkid, xw, C, hd, hk, hT⟩ := hT_ h
 have xx := xw
 obtain ⟨c0, c1, c2, c3⟩ := C.out
 have hll := hid hcp.2
 have Hc := hid hc
 have Ha := hid ha
 clear hc ha
 clear h hks hkid hcp hkr hnr
 simp only [nv, Tr.k, Tr.t, Tr.n, Tr.l, lC, lN, zA, Nat.reduceAdd] at *
 go_enter Tryz.func126, Tryz.ntmps126
 go_wp2_with (go_at_call 64; refine (ih _ Hc.out Ha.out B _ _ hd.out).mono ?_; rintro e w64 ⟨rfl, z_⟩; replace ⟨xx, ⟨c0, c1, c2, c3⟩, hd⟩ := X5 z_ xx c0 c1 c2 c3 hd; replace ⟨hk, hT⟩ := D2 z_ hk hT)
 go_ret
 exact .mk rfl xx

theorem target_t {N : Nat} (ih : TExprC N) (x : Tr) (hc : cnt x < N) (ha : isE x = true) (hk : target x = true) (B : Nat) (v : Value) (w : World) (h : NT B w v x) : Calls Tryz.prog 126 #[v] w (Ans true w) := by
 obtain ⟨k, t, n, l⟩ := x
 simp [target, Tr.k] at hk
 rcases hk with (rfl | rfl) | rfl
 ·exact t126_6 ih t n l B v w h hc ha
 ·exact t126_21 ih t n l B v w h hc ha
 ·exact t126_22 ih t n l B v w h hc ha

def isEOr (x : Tr) : Bool := isNone x || isE x
theorem exprOr_t {N : Nat} (ih : TExprC N) (x : Tr) (hc : cnt x < N) (ht : isEOr x = true) (B : Nat) (v : Value) (w : World) (h : NT B w v x) : Calls Tryz.prog 119 #[v] w (Ans true w) := by
 obtain ⟨sl, rfl, hks, _, _, htl⟩ := id h.node.open
 have xw : Fx w (w.alloc (.cells #[.int .i64 x.k, .string (sv x.t), .int .i64 x.n, sl] 24)) := Ext.alloc _ _ _
 obtain ⟨c0, c1, c2, c3⟩ := nd_cells w x.k x.n (sv x.t) sl
 have hd := hid (h.keepF xw)
 have Hc := hid hc
 have ht' := hid ht
 clear hc ht
 clear h hks htl
 simp only [nv] at hd ⊢
 cases hn : isNone x
 ·have hE := hid (show isE x = true by have := ht'.out; unfold isEOr at this; rw [hn] at this; simpa using this)
  go_enter Tryz.func119, Tryz.ntmps119
  go_wp2_with (first
   | (go_at_call 172; refine (tnone_any B x _ _ hd.out.node).mono ?_; rintro e w1 ⟨he, x1⟩; rw [hn] at he; subst he; replace ⟨c0, c1, c2, c3⟩ := F4 x1 c0 c1 c2 c3; have hd1 := hid (hd.out.keepF x1))
   | (go_at_call 64; refine (ih x Hc.out hE.out B _ _ hd1.out).mono ?_; rintro e w2 ⟨rfl, x2⟩))
  go_ret
  exact .mk rfl ((xw.of_eq x1).of_eq x2)
 ·go_enter Tryz.func119, Tryz.ntmps119
  go_wp2_with (go_at_call 172; refine (tnone_any B x _ _ hd.out.node).mono ?_; rintro e w1 ⟨he, x1⟩; rw [hn] at he; subst he; replace ⟨c0, c1, c2, c3⟩ := F4 x1 c0 c1 c2 c3; have hd1 := hid (hd.out.keepF x1))
  go_ret
  exact .mk rfl (xw.of_eq x1)

theorem t117 {N : Nat} (ih : TStmtC N) (t : Bs) (n : Int) (l : List Tr) (B : Nat) (v : Value) (w : World) (h : NT B w v (.mk 52 t n l)) (hc : cnt (.mk 52 t n l) < N) (ha : isS (.mk 52 t n l) = true) : Calls Tryz.prog 117 #[v] w (Ans true w) := by
 have hsv := sv_list
 obtain ⟨p, c, rfl, hks, hkr, hnr, htl, hcp, hkid, xw, C, hd, hk, hT⟩ := hT_ h
 have xx := xw
 obtain ⟨c0, c1, c2, c3⟩ := C.out
 have hll := hid hcp.2
 have Hc := hid hc
 have Ha := hid ha
 clear hc ha
 clear h hks hkid hcp hkr hnr
 simp only [nv, Tr.k, Tr.t, Tr.n, Tr.l, lC, lN, zA, Nat.reduceAdd] at *
 go_enter Tryz.func117, Tryz.ntmps117
 go_wp2_with (go_at_call 61; refine (ih _ Hc.out Ha.out B _ _ hd.out).mono ?_; rintro e w61 ⟨rfl, z_⟩; replace ⟨xx, ⟨c0, c1, c2, c3⟩, hd⟩ := X5 z_ xx c0 c1 c2 c3 hd; replace ⟨hk, hT⟩ := D2 z_ hk hT)
 go_ret
 exact .mk rfl xx

theorem block_t {N : Nat} (ih : TStmtC N) (x : Tr) (hc : cnt x < N) (ha : isBlk x = true) (B : Nat) (v : Value) (w : World) (h : NT B w v x) : Calls Tryz.prog 117 #[v] w (Ans true w) := by
 obtain ⟨k, t, n, l⟩ := x
 simp [isBlk, Tr.k] at ha
 obtain ⟨rfl, ha⟩ := ha
 exact t117 ih t n l B v w h hc ha

def isBlkOr (x : Tr) : Bool := isNone x || isBlk x
theorem blockOr_t {N : Nat} (ih : TStmtC N) (x : Tr) (hc : cnt x < N) (ht : isBlkOr x = true) (B : Nat) (v : Value) (w : World) (h : NT B w v x) : Calls Tryz.prog 118 #[v] w (Ans true w) := by
 obtain ⟨sl, rfl, hks, _, _, htl⟩ := id h.node.open
 have xw : Fx w (w.alloc (.cells #[.int .i64 x.k, .string (sv x.t), .int .i64 x.n, sl] 24)) := Ext.alloc _ _ _
 obtain ⟨c0, c1, c2, c3⟩ := nd_cells w x.k x.n (sv x.t) sl
 have hd := hid (h.keepF xw)
 have Hc := hid hc
 have ht' := hid ht
 clear hc ht
 clear h hks htl
 simp only [nv] at hd ⊢
 cases hn : isNone x
 ·have hE := hid (show isBlk x = true by have := ht'.out; unfold isBlkOr at this; rw [hn] at this; simpa using this)
  go_enter Tryz.func118, Tryz.ntmps118
  go_wp2_with (first
   | (go_at_call 172; refine (tnone_any B x _ _ hd.out.node).mono ?_; rintro e w1 ⟨he, x1⟩; rw [hn] at he; subst he; replace ⟨c0, c1, c2, c3⟩ := F4 x1 c0 c1 c2 c3; have hd1 := hid (hd.out.keepF x1))
   | (go_at_call 117; refine (block_t ih x Hc.out hE.out B _ _ hd1.out).mono ?_; rintro e w2 ⟨rfl, x2⟩))
  go_ret
  exact .mk rfl ((xw.of_eq x1).of_eq x2)
 ·go_enter Tryz.func118, Tryz.ntmps118
  go_wp2_with (go_at_call 172; refine (tnone_any B x _ _ hd.out.node).mono ?_; rintro e w1 ⟨he, x1⟩; rw [hn] at he; subst he; replace ⟨c0, c1, c2, c3⟩ := F4 x1 c0 c1 c2 c3; have hd1 := hid (hd.out.keepF x1))
  go_ret
  exact .mk rfl (xw.of_eq x1)

theorem t64_8 {N : Nat} (ih : TExprC N) (l : List Tr) (B : Nat) (v : Value) (w : World) (h : NT B w v (.mk 8 [] 0 l)) (hc : cnts l < N) (ha : ∀ y ∈ l, isE y = true) : Calls Tryz.prog 64 #[v] w (Ans true w) := by
 have hsv := sv_list
 obtain ⟨p, c, rfl, hks, hkr, hnr, htl, hcp, hkid, xw, C, hd, hk, hT⟩ := hT_ h
 have xx := xw
 obtain ⟨c0, c1, c2, c3⟩ := C.out
 have hll := hid hcp.2
 have Hc := hid hc
 have Ha := hid ha
 clear hc ha
 have hp := hid (show plainT (.mk 8 [] 0 l) = true from rfl)
 clear h hks hkid hcp hkr hnr
 simp only [nv, Tr.k, Tr.t, Tr.n, Tr.l, lC, lN, zA, Nat.reduceAdd] at *
 go_enter Tryz.func64, Tryz.ntmps64
 go_wp2_with (first
  | (go_at_call 56; refine (like_any B _ _ _ hd.out.node).mono ?_; rintro e w56 ⟨he56, z_⟩; rw [hp.out] at he56; subst he56; replace ⟨xx, ⟨c0, c1, c2, c3⟩, hd⟩ := X5 z_ xx c0 c1 c2 c3 hd; replace ⟨hk, hT⟩ := D2 z_ hk hT)
  | (go_at_call 57; refine (all_64 l B _ _ hk.out hT.out (fun y hy u w' hn => ih y (Nat.lt_of_le_of_lt (cnt_mem hy) Hc.out) (Ha.out y hy) B u w' hn)).mono ?_; rintro e w57 ⟨rfl, z_⟩; replace ⟨xx, ⟨c0, c1, c2, c3⟩, hd⟩ := X5 z_ xx c0 c1 c2 c3 hd; replace ⟨hk, hT⟩ := D2 z_ hk hT))
 go_ret
 exact .mk rfl xx

theorem t64_9 {N : Nat} (ih : TExprC N) (l : List Tr) (B : Nat) (v : Value) (w : World) (h : NT B w v (.mk 9 [] 0 l)) (hc : cnts l < N) (ha : ∀ y ∈ l, ∃ t z, y = .mk 10 t 0 [z] ∧ signs t = true ∧ isE z = true) : Calls Tryz.prog 64 #[v] w (Ans true w) := by
 have hsv := sv_list
 obtain ⟨p, c, rfl, hks, hkr, hnr, htl, hcp, hkid, xw, C, hd, hk, hT⟩ := hT_ h
 have xx := xw
 obtain ⟨c0, c1, c2, c3⟩ := C.out
 have hll := hid hcp.2
 have Hc := hid hc
 have Ha := hid ha
 clear hc ha
 have hp := hid (show plainT (.mk 9 [] 0 l) = true from rfl)
 clear h hks hkid hcp hkr hnr
 simp only [nv, Tr.k, Tr.t, Tr.n, Tr.l, lC, lN, zA, Nat.reduceAdd] at *
 go_enter Tryz.func64, Tryz.ntmps64
 go_wp2_with (first
  | (go_at_call 56; refine (like_any B _ _ _ hd.out.node).mono ?_; rintro e w56 ⟨he56, z_⟩; rw [hp.out] at he56; subst he56; replace ⟨xx, ⟨c0, c1, c2, c3⟩, hd⟩ := X5 z_ xx c0 c1 c2 c3 hd; replace ⟨hk, hT⟩ := D2 z_ hk hT)
  | (go_at_call 57; refine (all_124 l B _ _ hk.out hT.out (fun y hy u w' hn => by obtain ⟨t', z, rfl, h3, h4⟩ := Ha.out y hy; exact t124 ih t' z B u w' hn (by have h5 := cnt_mem hy; have h6 := Hc.out; simp only [cnt, cnts] at h5; omega) h3 h4)).mono ?_; rintro e w57 ⟨rfl, z_⟩; replace ⟨xx, ⟨c0, c1, c2, c3⟩, hd⟩ := X5 z_ xx c0 c1 c2 c3 hd; replace ⟨hk, hT⟩ := D2 z_ hk hT))
 go_ret
 exact .mk rfl xx

theorem t64_11 {N : Nat} (ih : TStmtC N) (ya yb yd : Tr) (B : Nat) (v : Value) (w : World) (h : NT B w v (.mk 11 [] 0 [ya, yb, yd])) (hc : cnt yd < N) (ha : isPms false ya = true) (hb : isTyOr yb = true) (hd' : isBlk yd = true) : Calls Tryz.prog 64 #[v] w (Ans true w) := by
 have hsv := sv_list
 obtain ⟨p, c, rfl, hks, hkr, hnr, htl, hcp, hkid, xw, C, hd, hk, hT⟩ := hT_ h
 have xx := xw
 obtain ⟨c0, c1, c2, c3⟩ := C.out
 have hll := hid hcp.2
 have Hc := hid hc
 have Ha := hid ha
 have Hb := hid hb
 have Hd := hid hd'
 clear hc ha hb hd'
 have hp := hid (show plainT (.mk 11 [] 0 [ya, yb, yd]) = true from rfl)
 clear h hks hkid hcp hkr hnr
 simp only [nv, Tr.k, Tr.t, Tr.n, Tr.l, lC, lN, zA, Nat.reduceAdd] at *
 go_enter Tryz.func64, Tryz.ntmps64
 go_wp2_with (first
  | (go_at_call 56; refine (like_any B _ _ _ hd.out.node).mono ?_; rintro e w56 ⟨he56, z_⟩; rw [hp.out] at he56; subst he56; replace ⟨xx, ⟨c0, c1, c2, c3⟩, hd⟩ := X5 z_ xx c0 c1 c2 c3 hd; replace ⟨hk, hT⟩ := D2 z_ hk hT)
  | (go_at_call 109; refine (row_116_115_117 _ _ _ ya yb yd B _ _ hd.out (params_t ya Ha.out B) (typeOr_t yb Hb.out B) (block_t ih yd Hc.out Hd.out B) _ _ _ rfl).mono ?_; rintro e w109 ⟨rfl, z_⟩; replace ⟨xx, ⟨c0, c1, c2, c3⟩, hd⟩ := X5 z_ xx c0 c1 c2 c3 hd; replace ⟨hk, hT⟩ := D2 z_ hk hT))
 go_ret
 exact .mk rfl xx

theorem t64_15_0 {N : Nat} (ih : TExprC N) (ya : Tr) (B : Nat) (v : Value) (w : World) (h : NT B w v (.mk 15 [45] 0 [ya])) (hc : cnt ya < N) (ha : isE ya = true) : Calls Tryz.prog 64 #[v] w (Ans true w) := by
 have hsv := sv_list
 obtain ⟨p, c, rfl, hks, hkr, hnr, htl, hcp, hkid, xw, C, hd, hk, hT⟩ := hT_ h
 have xx := xw
 obtain ⟨c0, c1, c2, c3⟩ := C.out
 have hll := hid hcp.2
 have Hc := hid hc
 have Ha := hid ha
 clear hc ha
 clear h hks hkid hcp hkr hnr
 simp only [nv, Tr.k, Tr.t, Tr.n, Tr.l, lC, lN, zA, Nat.reduceAdd] at *
 go_enter Tryz.func64, Tryz.ntmps64
 go_wp2_with ((first | (go_at_call 56; refine (like_any B _ _ _ hd.out.node).mono ?_; rintro e w56 ⟨rfl, z_⟩) | (go_at_call 109; refine (row_64 _ _ _ ya B _ _ hd.out (ih ya Hc.out Ha.out B) _ _ _ rfl).mono ?_; rintro e w109 ⟨rfl, z_⟩)) <;> (replace ⟨xx, ⟨c0, c1, c2, c3⟩, hd⟩ := X5 z_ xx c0 c1 c2 c3 hd; replace ⟨hk, hT⟩ := D2 z_ hk hT))
 go_ret
 exact .mk rfl xx

theorem t64_15_1 {N : Nat} (ih : TExprC N) (ya : Tr) (B : Nat) (v : Value) (w : World) (h : NT B w v (.mk 15 [33] 0 [ya])) (hc : cnt ya < N) (ha : isE ya = true) : Calls Tryz.prog 64 #[v] w (Ans true w) := by
 have hsv := sv_list
 obtain ⟨p, c, rfl, hks, hkr, hnr, htl, hcp, hkid, xw, C, hd, hk, hT⟩ := hT_ h
 have xx := xw
 obtain ⟨c0, c1, c2, c3⟩ := C.out
 have hll := hid hcp.2
 have Hc := hid hc
 have Ha := hid ha
 clear hc ha
 clear h hks hkid hcp hkr hnr
 simp only [nv, Tr.k, Tr.t, Tr.n, Tr.l, lC, lN, zA, Nat.reduceAdd] at *
 go_enter Tryz.func64, Tryz.ntmps64
 go_wp2_with ((first | (go_at_call 56; refine (like_any B _ _ _ hd.out.node).mono ?_; rintro e w56 ⟨rfl, z_⟩) | (go_at_call 109; refine (row_64 _ _ _ ya B _ _ hd.out (ih ya Hc.out Ha.out B) _ _ _ rfl).mono ?_; rintro e w109 ⟨rfl, z_⟩)) <;> (replace ⟨xx, ⟨c0, c1, c2, c3⟩, hd⟩ := X5 z_ xx c0 c1 c2 c3 hd; replace ⟨hk, hT⟩ := D2 z_ hk hT))
 go_ret
 exact .mk rfl xx

theorem t64_15_2 {N : Nat} (ih : TExprC N) (ya : Tr) (B : Nat) (v : Value) (w : World) (h : NT B w v (.mk 15 [116, 121, 112, 101, 111, 102] 0 [ya])) (hc : cnt ya < N) (ha : isE ya = true) : Calls Tryz.prog 64 #[v] w (Ans true w) := by
 have hsv := sv_list
 obtain ⟨p, c, rfl, hks, hkr, hnr, htl, hcp, hkid, xw, C, hd, hk, hT⟩ := hT_ h
 have xx := xw
 obtain ⟨c0, c1, c2, c3⟩ := C.out
 have hll := hid hcp.2
 have Hc := hid hc
 have Ha := hid ha
 clear hc ha
 clear h hks hkid hcp hkr hnr
 simp only [nv, Tr.k, Tr.t, Tr.n, Tr.l, lC, lN, zA, Nat.reduceAdd] at *
 go_enter Tryz.func64, Tryz.ntmps64
 go_wp2_with ((first | (go_at_call 56; refine (like_any B _ _ _ hd.out.node).mono ?_; rintro e w56 ⟨rfl, z_⟩) | (go_at_call 109; refine (row_64 _ _ _ ya B _ _ hd.out (ih ya Hc.out Ha.out B) _ _ _ rfl).mono ?_; rintro e w109 ⟨rfl, z_⟩)) <;> (replace ⟨xx, ⟨c0, c1, c2, c3⟩, hd⟩ := X5 z_ xx c0 c1 c2 c3 hd; replace ⟨hk, hT⟩ := D2 z_ hk hT))
 go_ret
 exact .mk rfl xx

theorem t64_16 {N : Nat} (ih : TExprC N) (t : Bs) (ya yb : Tr) (B : Nat) (v : Value) (w : World) (h : NT B w v (.mk 16 t 0 [ya, yb])) (hc : cnt ya < N) (hc2 : cnt yb < N) (ha : isE ya = true) (hb : isE yb = true) (hs : binOps.contains t = true) : Calls Tryz.prog 64 #[v] w (Ans true w) := by
 have hsv := sv_list
 obtain ⟨p, c, rfl, hks, hkr, hnr, htl, hcp, hkid, xw, C, hd, hk, hT⟩ := hT_ h
 have xx := xw
 obtain ⟨c0, c1, c2, c3⟩ := C.out
 have hll := hid hcp.2
 have Hc := hid hc
 have Hc2 := hid hc2
 have Ha := hid ha
 have Hb := hid hb
 clear hc ha hc2 hb
 have H := hid hs
 clear hs
 clear h hks hkid hcp hkr hnr
 simp only [nv, Tr.k, Tr.t, Tr.n, Tr.l, lC, lN, zA, Nat.reduceAdd] at *
 go_enter Tryz.func64, Tryz.ntmps64
 go_wp2_with (first
  | ((first | (go_at_call 56; refine (like_any B _ _ _ hd.out.node).mono ?_; rintro e w56 ⟨rfl, z_⟩) | (go_at_call 109; refine (row_64_64 _ _ _ ya yb B _ _ hd.out (ih ya Hc.out Ha.out B) (ih yb Hc2.out Hb.out B) _ _ _ rfl).mono ?_; rintro e w109 ⟨rfl, z_⟩)) <;> (replace ⟨xx, ⟨c0, c1, c2, c3⟩, hd⟩ := X5 z_ xx c0 c1 c2 c3 hd; replace ⟨hk, hT⟩ := D2 z_ hk hT))
  | (go_at_call 125; refine (bin_t t H.out _).mono ?_; rintro e w125 ⟨rfl, rfl⟩))
 go_ret
 exact .mk rfl xx

theorem t64_17 {N : Nat} (ih : TExprC N) (ya yb yd : Tr) (B : Nat) (v : Value) (w : World) (h : NT B w v (.mk 17 [] 0 [ya, yb, yd])) (hc : cnt ya < N) (hc2 : cnt yb < N) (ha : isE ya = true) (hb : isE yb = true) (hc3 : cnt yd < N) (hd' : isE yd = true) : Calls Tryz.prog 64 #[v] w (Ans true w) := by
 have hsv := sv_list
 obtain ⟨p, c, rfl, hks, hkr, hnr, htl, hcp, hkid, xw, C, hd, hk, hT⟩ := hT_ h
 have xx := xw
 obtain ⟨c0, c1, c2, c3⟩ := C.out
 have hll := hid hcp.2
 have Hc := hid hc
 have Hc2 := hid hc2
 have Ha := hid ha
 have Hb := hid hb
 clear hc ha hc2 hb
 have Hc3 := hid hc3
 have Hd := hid hd'
 clear hc3 hd'
 have hp := hid (show plainT (.mk 17 [] 0 [ya, yb, yd]) = true from rfl)
 clear h hks hkid hcp hkr hnr
 simp only [nv, Tr.k, Tr.t, Tr.n, Tr.l, lC, lN, zA, Nat.reduceAdd] at *
 go_enter Tryz.func64, Tryz.ntmps64
 go_wp2_with (first
  | (go_at_call 56; refine (like_any B _ _ _ hd.out.node).mono ?_; rintro e w56 ⟨he56, z_⟩; rw [hp.out] at he56; subst he56; replace ⟨xx, ⟨c0, c1, c2, c3⟩, hd⟩ := X5 z_ xx c0 c1 c2 c3 hd; replace ⟨hk, hT⟩ := D2 z_ hk hT)
  | (go_at_call 109; refine (row_64_64_64 _ _ _ ya yb yd B _ _ hd.out (ih ya Hc.out Ha.out B) (ih yb Hc2.out Hb.out B) (ih yd Hc3.out Hd.out B) _ _ _ rfl).mono ?_; rintro e w109 ⟨rfl, z_⟩; replace ⟨xx, ⟨c0, c1, c2, c3⟩, hd⟩ := X5 z_ xx c0 c1 c2 c3 hd; replace ⟨hk, hT⟩ := D2 z_ hk hT))
 go_ret
 exact .mk rfl xx

theorem t64_18 {N : Nat} (ih : TExprC N) (ya yb : Tr) (B : Nat) (v : Value) (w : World) (h : NT B w v (.mk 18 [] 0 [ya, yb])) (hc : cnt ya < N) (hc2 : cnt yb < N) (ha : isE ya = true) (hb : isE yb = true) (ht : target ya = true) : Calls Tryz.prog 64 #[v] w (Ans true w) := by
 have hsv := sv_list
 obtain ⟨p, c, rfl, hks, hkr, hnr, htl, hcp, hkid, xw, C, hd, hk, hT⟩ := hT_ h
 have xx := xw
 obtain ⟨c0, c1, c2, c3⟩ := C.out
 have hll := hid hcp.2
 have Hc := hid hc
 have Hc2 := hid hc2
 have Ha := hid ha
 have Hb := hid hb
 clear hc ha hc2 hb
 have Ht := hid ht
 clear ht
 have hp := hid (show plainT (.mk 18 [] 0 [ya, yb]) = true from rfl)
 clear h hks hkid hcp hkr hnr
 simp only [nv, Tr.k, Tr.t, Tr.n, Tr.l, lC, lN, zA, Nat.reduceAdd] at *
 go_enter Tryz.func64, Tryz.ntmps64
 go_wp2_with (first
  | (go_at_call 56; refine (like_any B _ _ _ hd.out.node).mono ?_; rintro e w56 ⟨he56, z_⟩; rw [hp.out] at he56; subst he56; replace ⟨xx, ⟨c0, c1, c2, c3⟩, hd⟩ := X5 z_ xx c0 c1 c2 c3 hd; replace ⟨hk, hT⟩ := D2 z_ hk hT)
  | (go_at_call 109; refine (row_126_64 _ _ _ ya yb B _ _ hd.out (target_t ih ya Hc.out Ha.out Ht.out B) (ih yb Hc2.out Hb.out B) _ _ _ rfl).mono ?_; rintro e w109 ⟨rfl, z_⟩; replace ⟨xx, ⟨c0, c1, c2, c3⟩, hd⟩ := X5 z_ xx c0 c1 c2 c3 hd; replace ⟨hk, hT⟩ := D2 z_ hk hT))
 go_ret
 exact .mk rfl xx

theorem t64_19 {N : Nat} (ih : TExprC N) (l : List Tr) (B : Nat) (v : Value) (w : World) (h : NT B w v (.mk 19 [] 0 l)) (hc : cnts l < N) (ha : ∀ y ∈ l, isE y = true) (hne : 0 < l.length) : Calls Tryz.prog 64 #[v] w (Ans true w) := by
 have hsv := sv_list
 obtain ⟨p, c, rfl, hks, hkr, hnr, htl, hcp, hkid, xw, C, hd, hk, hT⟩ := hT_ h
 have xx := xw
 obtain ⟨c0, c1, c2, c3⟩ := C.out
 have hll := hid hcp.2
 have Hc := hid hc
 have Ha := hid ha
 clear hc ha
 have hne2 : (0 : Int) < (l.length : Int) := by omega
 clear hne
 have hp := hid (show plainT (.mk 19 [] 0 l) = true from rfl)
 clear h hks hkid hcp hkr hnr
 simp only [nv, Tr.k, Tr.t, Tr.n, Tr.l, lC, lN, zA, Nat.reduceAdd] at *
 go_enter Tryz.func64, Tryz.ntmps64
 go_wp2_with (first
  | (go_at_call 56; refine (like_any B _ _ _ hd.out.node).mono ?_; rintro e w56 ⟨he56, z_⟩; rw [hp.out] at he56; subst he56; replace ⟨xx, ⟨c0, c1, c2, c3⟩, hd⟩ := X5 z_ xx c0 c1 c2 c3 hd; replace ⟨hk, hT⟩ := D2 z_ hk hT)
  | (go_at_call 57; refine (all_64 l B _ _ hk.out hT.out (fun y hy u w' hn => ih y (Nat.lt_of_le_of_lt (cnt_mem hy) Hc.out) (Ha.out y hy) B u w' hn)).mono ?_; rintro e w57 ⟨rfl, z_⟩; replace ⟨xx, ⟨c0, c1, c2, c3⟩, hd⟩ := X5 z_ xx c0 c1 c2 c3 hd; replace ⟨hk, hT⟩ := D2 z_ hk hT))
 go_ret
 exact .mk rfl xx

theorem t64_20 {N : Nat} (ih : TExprC N) (t : Bs) (l : List Tr) (B : Nat) (v : Value) (w : World) (h : NT B w v (.mk 20 t 0 l)) (hc : cnts l < N) (ha : ∀ y ∈ l, isE y = true) (hs : isId t = true) : Calls Tryz.prog 64 #[v] w (Ans true w) := by
 have hsv := sv_list
 obtain ⟨p, c, rfl, hks, hkr, hnr, htl, hcp, hkid, xw, C, hd, hk, hT⟩ := hT_ h
 have xx := xw
 obtain ⟨c0, c1, c2, c3⟩ := C.out
 have hll := hid hcp.2
 have Hc := hid hc
 have Ha := hid ha
 clear hc ha
 have H := hid hs
 clear hs
 clear h hks hkid hcp hkr hnr
 simp only [nv, Tr.k, Tr.t, Tr.n, Tr.l, lC, lN, zA, Nat.reduceAdd] at *
 go_enter Tryz.func64, Tryz.ntmps64
 go_wp2_with ((first | (go_at_call 56; refine (like_any B _ _ _ hd.out.node).mono ?_; rintro e w56 ⟨rfl, z_⟩) | (go_at_call 108; refine (id_t t htl H.out B _ hT.out).mono ?_; rintro e w108 ⟨rfl, z_⟩) | (go_at_call 57; refine (all_64 l B _ _ hk.out hT.out (fun y hy u w' hn => ih y (Nat.lt_of_le_of_lt (cnt_mem hy) Hc.out) (Ha.out y hy) B u w' hn)).mono ?_; rintro e w57 ⟨rfl, z_⟩)) <;> (replace ⟨xx, ⟨c0, c1, c2, c3⟩, hd⟩ := X5 z_ xx c0 c1 c2 c3 hd; replace ⟨hk, hT⟩ := D2 z_ hk hT))
 go_ret
 exact .mk rfl xx

theorem t64_21 {N : Nat} (ih : TExprC N) (t : Bs) (ya : Tr) (B : Nat) (v : Value) (w : World) (h : NT B w v (.mk 21 t 0 [ya])) (hc : cnt ya < N) (ha : isE ya = true) (hs : signs t = true) : Calls Tryz.prog 64 #[v] w (Ans true w) := by
 have hsv := sv_list
 obtain ⟨p, c, rfl, hks, hkr, hnr, htl, hcp, hkid, xw, C, hd, hk, hT⟩ := hT_ h
 have xx := xw
 obtain ⟨c0, c1, c2, c3⟩ := C.out
 have hll := hid hcp.2
 have Hc := hid hc
 have Ha := hid ha
 clear hc ha
 have H := hid hs
 clear hs
 clear h hks hkid hcp hkr hnr
 simp only [nv, Tr.k, Tr.t, Tr.n, Tr.l, lC, lN, zA, Nat.reduceAdd] at *
 go_enter Tryz.func64, Tryz.ntmps64
 go_wp2_with ((first | (go_at_call 56; refine (like_any B _ _ _ hd.out.node).mono ?_; rintro e w56 ⟨rfl, z_⟩) | (go_at_call 120; refine (prop_t t htl H.out B _ hT.out).mono ?_; rintro e w120 ⟨rfl, z_⟩) | (go_at_call 109; refine (row_64 _ _ _ ya B _ _ hd.out (ih ya Hc.out Ha.out B) _ _ _ rfl).mono ?_; rintro e w109 ⟨rfl, z_⟩)) <;> (replace ⟨xx, ⟨c0, c1, c2, c3⟩, hd⟩ := X5 z_ xx c0 c1 c2 c3 hd; replace ⟨hk, hT⟩ := D2 z_ hk hT))
 go_ret
 exact .mk rfl xx

theorem t64_22 {N : Nat} (ih : TExprC N) (ya yb : Tr) (B : Nat) (v : Value) (w : World) (h : NT B w v (.mk 22 [] 0 [ya, yb])) (hc : cnt ya < N) (hc2 : cnt yb < N) (ha : isE ya = true) (hb : isE yb = true) : Calls Tryz.prog 64 #[v] w (Ans true w) := by
 have hsv := sv_list
 obtain ⟨p, c, rfl, hks, hkr, hnr, htl, hcp, hkid, xw, C, hd, hk, hT⟩ := hT_ h
 have xx := xw
 obtain ⟨c0, c1, c2, c3⟩ := C.out
 have hll := hid hcp.2
 have Hc := hid hc
 have Hc2 := hid hc2
 have Ha := hid ha
 have Hb := hid hb
 clear hc ha hc2 hb
 have hp := hid (show plainT (.mk 22 [] 0 [ya, yb]) = true from rfl)
 clear h hks hkid hcp hkr hnr
 simp only [nv, Tr.k, Tr.t, Tr.n, Tr.l, lC, lN, zA, Nat.reduceAdd] at *
 go_enter Tryz.func64, Tryz.ntmps64
 go_wp2_with (first
  | (go_at_call 56; refine (like_any B _ _ _ hd.out.node).mono ?_; rintro e w56 ⟨he56, z_⟩; rw [hp.out] at he56; subst he56; replace ⟨xx, ⟨c0, c1, c2, c3⟩, hd⟩ := X5 z_ xx c0 c1 c2 c3 hd; replace ⟨hk, hT⟩ := D2 z_ hk hT)
  | (go_at_call 109; refine (row_64_64 _ _ _ ya yb B _ _ hd.out (ih ya Hc.out Ha.out B) (ih yb Hc2.out Hb.out B) _ _ _ rfl).mono ?_; rintro e w109 ⟨rfl, z_⟩; replace ⟨xx, ⟨c0, c1, c2, c3⟩, hd⟩ := X5 z_ xx c0 c1 c2 c3 hd; replace ⟨hk, hT⟩ := D2 z_ hk hT))
 go_ret
 exact .mk rfl xx

theorem t61_40_0 {N : Nat} (ih : TExprC N) (t : Bs) (ya yb : Tr) (B : Nat) (v : Value) (w : World) (h : NT B w v (.mk 40 t 0 [ya, yb])) (hc2 : cnt yb < N) (ha : isTyOr ya = true) (hb : isE yb = true) (hs : isId t = true) : Calls Tryz.prog 61 #[v] w (Ans true w) := by
 have hsv := sv_list
 obtain ⟨p, c, rfl, hks, hkr, hnr, htl, hcp, hkid, xw, C, hd, hk, hT⟩ := hT_ h
 have xx := xw
 obtain ⟨c0, c1, c2, c3⟩ := C.out
 have hll := hid hcp.2
 have Hc2 := hid hc2
 have Ha := hid ha
 have Hb := hid hb
 have H := hid hs
 clear hc2 ha hb hs
 clear h hks hkid hcp hkr hnr
 simp only [nv, Tr.k, Tr.t, Tr.n, Tr.l, lC, lN, zA, Nat.reduceAdd] at *
 go_enter Tryz.func61, Tryz.ntmps61
 go_wp2_with ((first | (go_at_call 56; refine (like_any B _ _ _ hd.out.node).mono ?_; rintro e w56 ⟨rfl, z_⟩) | (go_at_call 108; refine (id_t t htl H.out B _ hT.out).mono ?_; rintro e w108 ⟨rfl, z_⟩) | (go_at_call 109; refine (row_115_64 _ _ _ ya yb B _ _ hd.out (typeOr_t ya Ha.out B) (ih yb Hc2.out Hb.out B) _ _ _ rfl).mono ?_; rintro e w109 ⟨rfl, z_⟩)) <;> (replace ⟨xx, ⟨c0, c1, c2, c3⟩, hd⟩ := X5 z_ xx c0 c1 c2 c3 hd; replace ⟨hk, hT⟩ := D2 z_ hk hT))
 go_ret
 exact .mk rfl xx

theorem t61_40_1 {N : Nat} (ih : TExprC N) (t : Bs) (ya yb : Tr) (B : Nat) (v : Value) (w : World) (h : NT B w v (.mk 40 t 1 [ya, yb])) (hc2 : cnt yb < N) (ha : isTyOr ya = true) (hb : isE yb = true) (hs : isId t = true) : Calls Tryz.prog 61 #[v] w (Ans true w) := by
 have hsv := sv_list
 obtain ⟨p, c, rfl, hks, hkr, hnr, htl, hcp, hkid, xw, C, hd, hk, hT⟩ := hT_ h
 have xx := xw
 obtain ⟨c0, c1, c2, c3⟩ := C.out
 have hll := hid hcp.2
 have Hc2 := hid hc2
 have Ha := hid ha
 have Hb := hid hb
 have H := hid hs
 clear hc2 ha hb hs
 clear h hks hkid hcp hkr hnr
 simp only [nv, Tr.k, Tr.t, Tr.n, Tr.l, lC, lN, zA, Nat.reduceAdd] at *
 go_enter Tryz.func61, Tryz.ntmps61
 go_wp2_with ((first | (go_at_call 56; refine (like_any B _ _ _ hd.out.node).mono ?_; rintro e w56 ⟨rfl, z_⟩) | (go_at_call 108; refine (id_t t htl H.out B _ hT.out).mono ?_; rintro e w108 ⟨rfl, z_⟩) | (go_at_call 109; refine (row_115_64 _ _ _ ya yb B _ _ hd.out (typeOr_t ya Ha.out B) (ih yb Hc2.out Hb.out B) _ _ _ rfl).mono ?_; rintro e w109 ⟨rfl, z_⟩)) <;> (replace ⟨xx, ⟨c0, c1, c2, c3⟩, hd⟩ := X5 z_ xx c0 c1 c2 c3 hd; replace ⟨hk, hT⟩ := D2 z_ hk hT))
 go_ret
 exact .mk rfl xx

theorem t61_41 {N : Nat} (ih : TStmtC N) (t : Bs) (ya yb yd : Tr) (B : Nat) (v : Value) (w : World) (h : NT B w v (.mk 41 t 0 [ya, yb, yd])) (hc : cnt yd < N) (ha : isPms false ya = true) (hb : isTyOr yb = true) (hd' : isBlk yd = true) (hs : isId t = true) : Calls Tryz.prog 61 #[v] w (Ans true w) := by
 have hsv := sv_list
 obtain ⟨p, c, rfl, hks, hkr, hnr, htl, hcp, hkid, xw, C, hd, hk, hT⟩ := hT_ h
 have xx := xw
 obtain ⟨c0, c1, c2, c3⟩ := C.out
 have hll := hid hcp.2
 have Hc := hid hc
 have Ha := hid ha
 have Hb := hid hb
 have Hd := hid hd'
 have H := hid hs
 clear hc ha hb hd' hs
 clear h hks hkid hcp hkr hnr
 simp only [nv, Tr.k, Tr.t, Tr.n, Tr.l, lC, lN, zA, Nat.reduceAdd] at *
 go_enter Tryz.func61, Tryz.ntmps61
 go_wp2_with ((first | (go_at_call 56; refine (like_any B _ _ _ hd.out.node).mono ?_; rintro e w56 ⟨rfl, z_⟩) | (go_at_call 108; refine (id_t t htl H.out B _ hT.out).mono ?_; rintro e w108 ⟨rfl, z_⟩) | (go_at_call 109; refine (row_116_115_117 _ _ _ ya yb yd B _ _ hd.out (params_t ya Ha.out B) (typeOr_t yb Hb.out B) (block_t ih yd Hc.out Hd.out B) _ _ _ rfl).mono ?_; rintro e w109 ⟨rfl, z_⟩)) <;> (replace ⟨xx, ⟨c0, c1, c2, c3⟩, hd⟩ := X5 z_ xx c0 c1 c2 c3 hd; replace ⟨hk, hT⟩ := D2 z_ hk hT))
 go_ret
 exact .mk rfl xx

theorem t61_47 {N : Nat} (ih : TExprC N) (ya : Tr) (B : Nat) (v : Value) (w : World) (h : NT B w v (.mk 47 [] 0 [ya])) (hc : cnt ya < N) (ha : isE ya = true) : Calls Tryz.prog 61 #[v] w (Ans true w) := by
 have hsv := sv_list
 obtain ⟨p, c, rfl, hks, hkr, hnr, htl, hcp, hkid, xw, C, hd, hk, hT⟩ := hT_ h
 have xx := xw
 obtain ⟨c0, c1, c2, c3⟩ := C.out
 have hll := hid hcp.2
 have Hc := hid hc
 have Ha := hid ha
 clear hc ha
 have hp := hid (show plainT (.mk 47 [] 0 [ya]) = true from rfl)
 clear h hks hkid hcp hkr hnr
 simp only [nv, Tr.k, Tr.t, Tr.n, Tr.l, lC, lN, zA, Nat.reduceAdd] at *
 go_enter Tryz.func61, Tryz.ntmps61
 go_wp2_with (first
  | (go_at_call 56; refine (like_any B _ _ _ hd.out.node).mono ?_; rintro e w56 ⟨he56, z_⟩; rw [hp.out] at he56; subst he56; replace ⟨xx, ⟨c0, c1, c2, c3⟩, hd⟩ := X5 z_ xx c0 c1 c2 c3 hd; replace ⟨hk, hT⟩ := D2 z_ hk hT)
  | (go_at_call 109; refine (row_64 _ _ _ ya B _ _ hd.out (ih ya Hc.out Ha.out B) _ _ _ rfl).mono ?_; rintro e w109 ⟨rfl, z_⟩; replace ⟨xx, ⟨c0, c1, c2, c3⟩, hd⟩ := X5 z_ xx c0 c1 c2 c3 hd; replace ⟨hk, hT⟩ := D2 z_ hk hT))
 go_ret
 exact .mk rfl xx

theorem t61_51 {N : Nat} (ih : TExprC N) (ya : Tr) (B : Nat) (v : Value) (w : World) (h : NT B w v (.mk 51 [] 0 [ya])) (hc : cnt ya < N) (ha : isE ya = true) : Calls Tryz.prog 61 #[v] w (Ans true w) := by
 have hsv := sv_list
 obtain ⟨p, c, rfl, hks, hkr, hnr, htl, hcp, hkid, xw, C, hd, hk, hT⟩ := hT_ h
 have xx := xw
 obtain ⟨c0, c1, c2, c3⟩ := C.out
 have hll := hid hcp.2
 have Hc := hid hc
 have Ha := hid ha
 clear hc ha
 have hp := hid (show plainT (.mk 51 [] 0 [ya]) = true from rfl)
 clear h hks hkid hcp hkr hnr
 simp only [nv, Tr.k, Tr.t, Tr.n, Tr.l, lC, lN, zA, Nat.reduceAdd] at *
 go_enter Tryz.func61, Tryz.ntmps61
 go_wp2_with (first
  | (go_at_call 56; refine (like_any B _ _ _ hd.out.node).mono ?_; rintro e w56 ⟨he56, z_⟩; rw [hp.out] at he56; subst he56; replace ⟨xx, ⟨c0, c1, c2, c3⟩, hd⟩ := X5 z_ xx c0 c1 c2 c3 hd; replace ⟨hk, hT⟩ := D2 z_ hk hT)
  | (go_at_call 109; refine (row_64 _ _ _ ya B _ _ hd.out (ih ya Hc.out Ha.out B) _ _ _ rfl).mono ?_; rintro e w109 ⟨rfl, z_⟩; replace ⟨xx, ⟨c0, c1, c2, c3⟩, hd⟩ := X5 z_ xx c0 c1 c2 c3 hd; replace ⟨hk, hT⟩ := D2 z_ hk hT))
 go_ret
 exact .mk rfl xx

theorem t61_48 {N : Nat} (ih : TExprC N) (ihS : TStmtC N) (ya yb yd : Tr) (B : Nat) (v : Value) (w : World) (h : NT B w v (.mk 48 [] 0 [ya, yb, yd])) (hc : cnt ya < N) (hc2 : cnt yb < N) (hc3 : cnt yd < N) (ha : isE ya = true) (hb : isBlk yb = true) (hd' : isBlkOr yd = true) : Calls Tryz.prog 61 #[v] w (Ans true w) := by
 have hsv := sv_list
 obtain ⟨p, c, rfl, hks, hkr, hnr, htl, hcp, hkid, xw, C, hd, hk, hT⟩ := hT_ h
 have xx := xw
 obtain ⟨c0, c1, c2, c3⟩ := C.out
 have hll := hid hcp.2
 have Hc := hid hc
 have Hc2 := hid hc2
 have Hc3 := hid hc3
 have Ha := hid ha
 have Hb := hid hb
 have Hd := hid hd'
 clear hc hc2 hc3 ha hb hd'
 have hp := hid (show plainT (.mk 48 [] 0 [ya, yb, yd]) = true from rfl)
 clear h hks hkid hcp hkr hnr
 simp only [nv, Tr.k, Tr.t, Tr.n, Tr.l, lC, lN, zA, Nat.reduceAdd] at *
 go_enter Tryz.func61, Tryz.ntmps61
 go_wp2_with (first
  | (go_at_call 56; refine (like_any B _ _ _ hd.out.node).mono ?_; rintro e w56 ⟨he56, z_⟩; rw [hp.out] at he56; subst he56; replace ⟨xx, ⟨c0, c1, c2, c3⟩, hd⟩ := X5 z_ xx c0 c1 c2 c3 hd; replace ⟨hk, hT⟩ := D2 z_ hk hT)
  | (go_at_call 109; refine (row_64_117_118 _ _ _ ya yb yd B _ _ hd.out (ih ya Hc.out Ha.out B) (block_t ihS yb Hc2.out Hb.out B) (blockOr_t ihS yd Hc3.out Hd.out B) _ _ _ rfl).mono ?_; rintro e w109 ⟨rfl, z_⟩; replace ⟨xx, ⟨c0, c1, c2, c3⟩, hd⟩ := X5 z_ xx c0 c1 c2 c3 hd; replace ⟨hk, hT⟩ := D2 z_ hk hT))
 go_ret
 exact .mk rfl xx

theorem t61_49 {N : Nat} (ih : TExprC N) (ihS : TStmtC N) (ya yb : Tr) (B : Nat) (v : Value) (w : World) (h : NT B w v (.mk 49 [] 0 [ya, yb])) (hc : cnt ya < N) (hc2 : cnt yb < N) (ha : isE ya = true) (hb : isBlk yb = true) : Calls Tryz.prog 61 #[v] w (Ans true w) := by
 have hsv := sv_list
 obtain ⟨p, c, rfl, hks, hkr, hnr, htl, hcp, hkid, xw, C, hd, hk, hT⟩ := hT_ h
 have xx := xw
 obtain ⟨c0, c1, c2, c3⟩ := C.out
 have hll := hid hcp.2
 have Hc := hid hc
 have Hc2 := hid hc2
 have Ha := hid ha
 have Hb := hid hb
 clear hc hc2 ha hb
 have hp := hid (show plainT (.mk 49 [] 0 [ya, yb]) = true from rfl)
 clear h hks hkid hcp hkr hnr
 simp only [nv, Tr.k, Tr.t, Tr.n, Tr.l, lC, lN, zA, Nat.reduceAdd] at *
 go_enter Tryz.func61, Tryz.ntmps61
 go_wp2_with (first
  | (go_at_call 56; refine (like_any B _ _ _ hd.out.node).mono ?_; rintro e w56 ⟨he56, z_⟩; rw [hp.out] at he56; subst he56; replace ⟨xx, ⟨c0, c1, c2, c3⟩, hd⟩ := X5 z_ xx c0 c1 c2 c3 hd; replace ⟨hk, hT⟩ := D2 z_ hk hT)
  | (go_at_call 109; refine (row_64_117 _ _ _ ya yb B _ _ hd.out (ih ya Hc.out Ha.out B) (block_t ihS yb Hc2.out Hb.out B) _ _ _ rfl).mono ?_; rintro e w109 ⟨rfl, z_⟩; replace ⟨xx, ⟨c0, c1, c2, c3⟩, hd⟩ := X5 z_ xx c0 c1 c2 c3 hd; replace ⟨hk, hT⟩ := D2 z_ hk hT))
 go_ret
 exact .mk rfl xx

theorem t61_50 {N : Nat} (ih : TExprC N) (ya : Tr) (B : Nat) (v : Value) (w : World) (h : NT B w v (.mk 50 [] 0 [ya])) (hc : cnt ya < N) (ha : isEOr ya = true) : Calls Tryz.prog 61 #[v] w (Ans true w) := by
 have hsv := sv_list
 obtain ⟨p, c, rfl, hks, hkr, hnr, htl, hcp, hkid, xw, C, hd, hk, hT⟩ := hT_ h
 have xx := xw
 obtain ⟨c0, c1, c2, c3⟩ := C.out
 have hll := hid hcp.2
 have Hc := hid hc
 have Ha := hid ha
 clear hc ha
 have hp := hid (show plainT (.mk 50 [] 0 [ya]) = true from rfl)
 clear h hks hkid hcp hkr hnr
 simp only [nv, Tr.k, Tr.t, Tr.n, Tr.l, lC, lN, zA, Nat.reduceAdd] at *
 go_enter Tryz.func61, Tryz.ntmps61
 go_wp2_with (first
  | (go_at_call 56; refine (like_any B _ _ _ hd.out.node).mono ?_; rintro e w56 ⟨he56, z_⟩; rw [hp.out] at he56; subst he56; replace ⟨xx, ⟨c0, c1, c2, c3⟩, hd⟩ := X5 z_ xx c0 c1 c2 c3 hd; replace ⟨hk, hT⟩ := D2 z_ hk hT)
  | (go_at_call 109; refine (row_119 _ _ _ ya B _ _ hd.out (exprOr_t ih ya Hc.out Ha.out B) _ _ _ rfl).mono ?_; rintro e w109 ⟨rfl, z_⟩; replace ⟨xx, ⟨c0, c1, c2, c3⟩, hd⟩ := X5 z_ xx c0 c1 c2 c3 hd; replace ⟨hk, hT⟩ := D2 z_ hk hT))
 go_ret
 exact .mk rfl xx

theorem t61_52 {N : Nat} (ihS : TStmtC N) (l : List Tr) (B : Nat) (v : Value) (w : World) (h : NT B w v (.mk 52 [] 0 l)) (hc : cnts l < N) (ha : ∀ y ∈ l, isS y = true) : Calls Tryz.prog 61 #[v] w (Ans true w) := by
 have hsv := sv_list
 obtain ⟨p, c, rfl, hks, hkr, hnr, htl, hcp, hkid, xw, C, hd, hk, hT⟩ := hT_ h
 have xx := xw
 obtain ⟨c0, c1, c2, c3⟩ := C.out
 have hll := hid hcp.2
 have Hc := hid hc
 have Ha := hid ha
 clear hc ha
 have hp := hid (show plainT (.mk 52 [] 0 l) = true from rfl)
 clear h hks hkid hcp hkr hnr
 simp only [nv, Tr.k, Tr.t, Tr.n, Tr.l, lC, lN, zA, Nat.reduceAdd] at *
 go_enter Tryz.func61, Tryz.ntmps61
 go_wp2_with (first
  | (go_at_call 56; refine (like_any B _ _ _ hd.out.node).mono ?_; rintro e w56 ⟨he56, z_⟩; rw [hp.out] at he56; subst he56; replace ⟨xx, ⟨c0, c1, c2, c3⟩, hd⟩ := X5 z_ xx c0 c1 c2 c3 hd; replace ⟨hk, hT⟩ := D2 z_ hk hT)
  | (go_at_call 57; refine (all_61 l B _ _ hk.out hT.out (fun y hy u w' hn => ihS y (Nat.lt_of_le_of_lt (cnt_mem hy) Hc.out) (Ha.out y hy) B u w' hn)).mono ?_; rintro e w57 ⟨rfl, z_⟩; replace ⟨xx, ⟨c0, c1, c2, c3⟩, hd⟩ := X5 z_ xx c0 c1 c2 c3 hd; replace ⟨hk, hT⟩ := D2 z_ hk hT))
 go_ret
 exact .mk rfl xx

end Go.Proofs.YtpmlmpibpmoclaaGreatDoor
