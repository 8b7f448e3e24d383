/-
  ShowApart, walked: it answers true for all trees of a weight of at most 1048576.
-/
import Derived.Test.YtpmlmpibpmoclaaGreatDoorSh
import Derived.Test.YtpmlmpibpmoclaaGreatDoorR12
import Derived.Test.YtpmlmpibpmoclaaGreatDoorSu
import Derived.Test.YtpmlmpibpmoclaaGreatDoorR14
namespace Go.Proofs.YtpmlmpibpmoclaaGreatDoor
set_option linter.all false
open Go.RowKit

def txt (f : Int) (x : Tr) : Bs := if f = 1 then outE 0 1 x else if f = 2 then outT x else if f = 5 ∨ f = 6 then x.l.flatMap fun y => outI 0 y ++ [10] else outI 0 x

theorem mod_inv {x : Tr} (h1 : x.k = 68) (h2 : plainT x = true) (h3 : x.l.all (fun y => isItem y && !dollar y) = true) : x = .mk 68 [] 0 x.l ∧ ∀ y ∈ x.l, isItem y = true ∧ dollar y = false := by
 refine ⟨plain_eq h1 h2, fun y hy => ?_⟩
 have := (List.all_eq_true.1 h3) y hy
 simpa using this
theorem scr_inv {x : Tr} (h1 : x.k = 69) (h2 : plainT x = true) (h3 : x.l.all (fun y => isS y || isClass y || isSpace y) = true) : x = .mk 69 [] 0 x.l ∧ ∀ y ∈ x.l, ScriptK y := by
 refine ⟨plain_eq h1 h2, fun y hy => ?_⟩
 have := (List.all_eq_true.1 h3) y hy
 rw [Bool.or_eq_true, Bool.or_eq_true] at this
 rcases this with (h | h) | h
 ·exact .inl h
 ·exact .inr (.inl h)
 ·exact .inr (.inr h)
theorem script_item {y : Tr} (h : ScriptK y) : isItem y = true ∨ isSpace y = true := by
 rcases h with h | h | h
 ·exact .inl (isS_item h)
 ·exact .inl (isClass_item h)
 ·exact .inr h

theorem txt_inj {f : Int} {a b : Tr} (ha : FormOk f a) (hb : FormOk f b) (h : txt f a = txt f b) : a = b := by
 have tstop : TStop [] := ⟨rfl, rfl, rfl⟩
 have all : ∀ {l m : List Tr}, (∀ y ∈ l, isItem y = true ∨ isSpace y = true) → (∀ y ∈ m, isItem y = true ∨ isSpace y = true) → (l.flatMap fun y => outI 0 y ++ [10]) = (m.flatMap fun y => outI 0 y ++ [10]) → l = m := fun {l m} hl hm e => by
  have := pAll_read l hl
  rw [e] at this
  exact ev_inj this (pAll_read m hm)
 rcases ha with ⟨rfl, a1⟩ | ⟨rfl, a1⟩ | ⟨rfl, a1⟩ | ⟨rfl, a1⟩ | ⟨rfl, a1, a2, a3⟩ | ⟨rfl, a1, a2, a3⟩ <;> rcases hb with ⟨hf, b1⟩ | ⟨hf, b1⟩ | ⟨hf, b1⟩ | ⟨hf, b1⟩ | ⟨hf, b1, b2, b3⟩ | ⟨hf, b1, b2, b3⟩ <;> first | (exfalso; omega) | skip
 ·exact pair_inj (p := fun f s => pE f 0 1 s) ((expr_read a1).stop (r := 1) (by decide) (by decide) rfl rfl) ((expr_read b1).stop (r := 1) (by decide) (by decide) rfl rfl) h
 ·exact pair_inj (p := fun f s => pT f s) (type_read a1 tstop) (type_read b1 tstop) h
 ·exact pair_inj (p := fun f s => pI f 0 s) (pI_read (.inl (isS_item a1)) rfl) (pI_read (.inl (isS_item b1)) rfl) h
 ·exact pair_inj (p := fun f s => pI f 0 s) (pI_read (.inl a1) rfl) (pI_read (.inl b1) rfl) h
 ·obtain ⟨ea, la⟩ := mod_inv a1 a2 a3
  obtain ⟨eb, lb⟩ := mod_inv b1 b2 b3
  rw [ea, eb, all (fun y hy => .inl (la y hy).1) (fun y hy => .inl (lb y hy).1) h]
 ·obtain ⟨ea, la⟩ := scr_inv a1 a2 a3
  obtain ⟨eb, lb⟩ := scr_inv b1 b2 b3
  rw [ea, eb, all (fun y hy => script_item (la y hy)) (fun y hy => script_item (lb y hy)) h]

/-! ### kinds -/
theorem e_kind {x : Tr} (h : isE x = true) : x.k = 1 ∨ x.k = 2 ∨ x.k = 3 ∨ x.k = 4 ∨ x.k = 5 ∨ x.k = 6 ∨ x.k = 7 ∨ x.k = 8 ∨ x.k = 9 ∨ x.k = 11 ∨ x.k = 15 ∨ x.k = 16 ∨ x.k = 17 ∨ x.k = 18 ∨ x.k = 19 ∨ x.k = 20 ∨ x.k = 21 ∨ x.k = 22 := by
 cases isE_inv h <;> simp [Tr.k] <;> omega
theorem t_kind {x : Tr} (h : isT x = true) : x.k = 30 ∨ x.k = 31 ∨ x.k = 32 ∨ x.k = 33 ∨ x.k = 35 := by
 rcases isT_inv h with ⟨_, rfl, _⟩ | ⟨_, rfl, _⟩ | ⟨_, rfl, _⟩ | ⟨_, rfl, _⟩ | ⟨_, _, rfl, _⟩ <;> simp [Tr.k]
theorem ne_e {k : Int} (h : k < 1 ∨ 22 < k) : ∀ i ∈ ([1, 2, 3, 4, 5, 6, 7, 8, 9, 11, 15, 16, 17, 18, 19, 20, 21, 22] : List Int), ¬ k = i := by
 intro i hi
 simp only [List.mem_cons, List.not_mem_nil, or_false] at hi
 omega
theorem ne_t {k : Int} (h : k < 30 ∨ 35 < k) : ∀ i ∈ ([30, 31, 32, 33, 35] : List Int), ¬ k = i := by
 intro i hi
 simp only [List.mem_cons, List.not_mem_nil, or_false] at hi
 omega
theorem item_kind {x : Tr} (h : isItem x = true) (hs : ¬ isS x = true) : x.k = 42 ∨ x.k = 46 ∨ x.k = 60 ∨ x.k = 62 ∨ x.k = 63 ∨ x.k = 64 := by
 by_cases h1 : x.k = 42
 ·exact .inl h1
 by_cases h2 : x.k = 46
 ·exact .inr (.inl h2)
 by_cases h3 : x.k = 60
 ·exact .inr (.inr (.inl h3))
 by_cases h4 : x.k = 62
 ·exact .inr (.inr (.inr (.inl h4)))
 by_cases h5 : x.k = 63
 ·exact .inr (.inr (.inr (.inr (.inl h5))))
 by_cases h6 : x.k = 64
 ·exact .inr (.inr (.inr (.inr (.inr h6))))
 exfalso
 unfold isItem isIt at h
 rw [if_neg h4, if_neg h5, if_neg h1, if_neg h2, if_neg h3, if_neg h6] at h
 exact hs h

theorem lays_eq {P : List Pc} {f : Nat → Bs} (h : Lays P f) : lay 0 false P = f 0 := by
 have := h.lay 0 []
 simpa [lay] using this
theorem rowT_eq (y : Tr) : rowT y = outI 0 y ++ [10] := by unfold rowT; rw [lays_eq (lays_I y)]
theorem strP_of {s u : Bs} (e : s = u) {w : World} {v : Ending} {w' : World} (h : StrP s w v w') : StrP u w v w' := e ▸ h
theorem cnt_le_wt (x : Tr) : cnt x ≤ wt x := cnt_wt _ x (Nat.lt_succ_self _)

/-- SHOW, ON A TREE OF A FORM. -/
theorem show_ok {f : Int} {x : Tr} (hx : FormOk f x) (hw : wt x ≤ BW) (B : Nat) (w : World) (v : Value) (h : NT B w v x) (hpw : Pow B w) : Calls Tryz.prog 9 #[v] w (StrP (txt f x) w) := by
 have stmt : ∀ {x : Tr}, isS x = true → wt x ≤ BW → NT B w v x → Calls Tryz.prog 9 #[v] w (StrP (outI 0 x) w) := fun {x} h1 hw h => by
  have k := stmt_kind h1
  exact (show_3 x h1 (by omega) (ne_e (by omega)) (ne_t (by omega)) hw B w v h hpw).mono fun _ _ => strP_of (lays_eq (lays_I x))
 have hsm : BW ≤ SM := by unfold BW SM; omega
 have hc := cnt_le_wt x
 rcases hx with ⟨rfl, h1⟩ | ⟨rfl, h1⟩ | ⟨rfl, h1⟩ | ⟨rfl, h1⟩ | ⟨rfl, h1, h2, h3⟩ | ⟨rfl, h1, h2, h3⟩
 ·have k := e_kind h1
  exact (show_1 x h1 (by omega) hw B w v h hpw).mono fun _ _ => strP_of (by rw [lays_eq (lays_E 1 x)]; rfl)
 ·have k := t_kind h1
  exact (show_2 x h1 (by omega) (ne_e (by omega)) hw B w v h hpw).mono fun _ _ => strP_of (by rw [lays_eq (lays_T x)]; rfl)
 ·exact (stmt h1 hw h).mono fun _ _ => strP_of rfl
 ·by_cases hs : isS x = true
  ·exact (stmt hs hw h).mono fun _ _ => strP_of rfl
  ·have k := item_kind h1 hs
   exact (show_4 x h1 (by omega) (ne_e (by omega)) (ne_t (by omega)) (fun i hi => by simp only [List.mem_cons, List.not_mem_nil, or_false] at hi; omega) hw B w v h hpw).mono fun _ _ => strP_of (lays_eq (lays_I x))
 ·obtain ⟨e, hl⟩ := mod_inv h1 h2 h3
  have hcs : cnts x.l ≤ SM := by rw [cnt_kid] at hc; omega
  have hws : wts x.l ≤ BW := by rw [e] at hw; rw [wt_mk] at hw; omega
  generalize x.l = l at *
  subst e
  exact (show_5 68 5 (.inl rfl) l (fun y hy => .inl (hl y hy).1) (fun B v w h => t28_5 l B v w h hl hcs) hws B w v h hpw).mono fun _ _ => strP_of (by
   have : rowT = fun y => outI 0 y ++ [10] := funext rowT_eq
   rw [this]; rfl)
 ·obtain ⟨e, hl⟩ := scr_inv h1 h2 h3
  have hcs : cnts x.l ≤ SM := by rw [cnt_kid] at hc; omega
  have hws : wts x.l ≤ BW := by rw [e] at hw; rw [wt_mk] at hw; omega
  generalize x.l = l at *
  subst e
  have hit : ∀ y ∈ l, isItem y = true ∨ ItW y := fun y hy => by
   rcases hl y hy with h | h | h
   ·exact .inr (.inl h)
   ·exact .inr (.inr (.inl h))
   ·exact .inr (.inr (.inr (.inr (.inr (.inr h)))))
  exact (show_5 69 6 (.inr rfl) l hit (fun B v w h => t28_6 l B v w h hl hcs) hws B w v h hpw).mono fun _ _ => strP_of (by
   have : rowT = fun y => outI 0 y ++ [10] := funext rowT_eq
   rw [this]; rfl)

set_option maxRecDepth 20000
set_option maxHeartbeats 4000000

theorem same_txt {f : Int} {a b : Tr} (ha : FormOk f a) (hb : FormOk f b) {r : Bool} (h : r = true ↔ a = b) : r = (txt f a == txt f b) := by
 cases r with
 | true =>
  have := h.1 rfl
  rw [this]; simp
 | false =>
  have hne : ¬ a = b := fun e => by simpa using h.2 e
  have : ¬ txt f a = txt f b := fun e => hne (txt_inj ha hb e)
  simpa using this

theorem law_p (w : World) (va vb : Value) (a b : Tr) (B : Nat) (ha : NodeAt B w va a) (hb : NodeAt B w vb b) (hT : Tabs B w) (hP : Pow B w) (hwa : wt a ≤ BW) (hwb : wt b ≤ BW) : Calls Tryz.prog 3 #[va, vb] w fun e w' => e = .returned (.bool true) ∧ Fx w w' := by
 have hsv := sv_list
 obtain ⟨sa, rfl, hka, _, _, _⟩ := id ha.open
 obtain ⟨sb, rfl, hkb, _, _, _⟩ := id hb.open
 have x1 : Fx w (w.alloc (.cells #[.int .i64 a.k, .string (sv a.t), .int .i64 a.n, sa] 24)) := Ext.alloc _ _ _
 have x2 : Fx (w.alloc (.cells #[.int .i64 a.k, .string (sv a.t), .int .i64 a.n, sa] 24)) ((w.alloc (.cells #[.int .i64 a.k, .string (sv a.t), .int .i64 a.n, sa] 24)).alloc (.cells #[.int .i64 b.k, .string (sv b.t), .int .i64 b.n, sb] 24)) := Ext.alloc _ _ _
 obtain ⟨c0, c1, c2, c3⟩ := nd_cells w a.k a.n (sv a.t) sa
 obtain ⟨d0, d1, d2, d3⟩ := nd_cells (w.alloc (.cells #[.int .i64 a.k, .string (sv a.t), .int .i64 a.n, sa] 24)) b.k b.n (sv b.t) sb
 rw [alloc_size] at d0 d1 d2 d3
 replace ⟨c0, c1, c2, c3⟩ := F4 x2 c0 c1 c2 c3
 have xx := hid (x1.of_eq x2)
 have HA := hid (ha.keepF xx.out)
 have HB := hid (hb.keepF xx.out)
 have HT := hid (hT.keepF xx.out)
 have HP := hid (hP.keepF xx.out)
 have WA := hid hwa
 have WB := hid hwb
 clear ha hb hka hkb hT hP hwa hwb x1 x2
 simp only [nv] at HA HB ⊢
 go_enter Tryz.func3, Tryz.ntmps3
 go_wp2_with (first
  | ((first | (go_at_call_of 7 (sv (Tr.t a)); refine (form_any a B _ _ HA.out).mono ?_; rintro e w7 ⟨f, rfl, hf, z_⟩) | (go_at_call 8; refine (sure_p _ B HT.out HP.out).mono ?_; rintro e w8 ⟨rfl, z_⟩)) <;> (replace hf := hid hf; replace ⟨c0, c1, c2, c3⟩ := F4 z_ c0 c1 c2 c3; replace ⟨d0, d1, d2, d3⟩ := F4 z_ d0 d1 d2 d3; replace HA := hid (HA.out.keepF z_); replace HB := hid (HB.out.keepF z_); replace HT := hid (HT.out.keepF z_); replace HP := hid (HP.out.keepF z_); replace xx := hid (xx.out.of_eq z_)))
  | (go_at_call_of 7 (sv (Tr.t b)); refine (form_any b B _ _ HB.out).mono ?_; rintro e w7 ⟨g, rfl, hg, z_⟩; replace hg := hid hg; replace ⟨c0, c1, c2, c3⟩ := F4 z_ c0 c1 c2 c3; replace ⟨d0, d1, d2, d3⟩ := F4 z_ d0 d1 d2 d3; replace HA := hid (HA.out.keepF z_); replace HB := hid (HB.out.keepF z_); replace HT := hid (HT.out.keepF z_); replace HP := hid (HP.out.keepF z_); replace xx := hid (xx.out.of_eq z_)))
 all_goals first
  | (go_ret; exact ⟨rfl, xx.out⟩)
  | skip
 rename_i hf0 hfg K1 ha1
 have e : f = g := by simpa using hfg.2
 subst e
 have FA := hid (hf.out hf0)
 have FB := hid (hg.out hf0)
 clear hf hg hf0 hfg
 have xd := Ext.drew (fun _ => False) w7
 replace ⟨c0, c1, c2, c3⟩ := F4 xd c0 c1 c2 c3; replace ⟨d0, d1, d2, d3⟩ := F4 xd d0 d1 d2 d3; replace HA := hid (HA.out.keepF xd); replace HB := hid (HB.out.keepF xd); replace HT := hid (HT.out.keepF xd); replace HP := hid (HP.out.keepF xd); replace xx := hid (xx.out.of_eq xd)
 clear xd
 go_region_held3 (fun w' => w'.cell? ⟨w.heap.size, 0, none⟩ = some (.int .i64 a.k) ∧ w'.cell? ⟨w.heap.size, 1, none⟩ = some (.string (sv a.t)) ∧ w'.cell? ⟨w.heap.size, 2, none⟩ = some (.int .i64 a.n) ∧ w'.cell? ⟨w.heap.size, 3, none⟩ = some sa ∧ w'.cell? ⟨w.heap.size + 1, 0, none⟩ = some (.int .i64 b.k) ∧ w'.cell? ⟨w.heap.size + 1, 1, none⟩ = some (.string (sv b.t)) ∧ w'.cell? ⟨w.heap.size + 1, 2, none⟩ = some (.int .i64 b.n) ∧ w'.cell? ⟨w.heap.size + 1, 3, none⟩ = some sb) (first | exact ⟨c0, c1, c2, c3, d0, d1, d2, d3⟩) (first
  | (go_at_call_of 9 (sv (Tr.t a)); refine (show_ok FA.out WA.out B _ _ ⟨HA.out, HT.out⟩ HP.out).mono ?_; rintro e w9 ⟨rfl, x9⟩; replace ⟨c0, c1, c2, c3⟩ := F4 x9 c0 c1 c2 c3; replace ⟨d0, d1, d2, d3⟩ := F4 x9 d0 d1 d2 d3; replace HA := hid (HA.out.keepF x9); replace HB := hid (HB.out.keepF x9); replace HT := hid (HT.out.keepF x9); replace HP := hid (HP.out.keepF x9); replace xx := hid (xx.out.of_eq x9))
  | (go_at_call_of 9 (sv (Tr.t b)); refine (show_ok FB.out WB.out B _ _ ⟨HB.out, HT.out⟩ HP.out).mono ?_; rintro e w9b ⟨rfl, x9⟩; replace ⟨c0, c1, c2, c3⟩ := F4 x9 c0 c1 c2 c3; replace ⟨d0, d1, d2, d3⟩ := F4 x9 d0 d1 d2 d3; replace HA := hid (HA.out.keepF x9); replace HB := hid (HB.out.keepF x9); replace HT := hid (HT.out.keepF x9); replace HP := hid (HP.out.keepF x9); replace xx := hid (xx.out.of_eq x9))
  | (go_at_call 10; refine (same_any a b B _ _ _ HA.out HB.out).mono ?_; rintro e w10 ⟨r, rfl, hr, x9⟩; obtain rfl := same_txt FA.out FB.out hr; clear hr; replace ⟨c0, c1, c2, c3⟩ := F4 x9 c0 c1 c2 c3; replace ⟨d0, d1, d2, d3⟩ := F4 x9 d0 d1 d2 d3; replace HA := hid (HA.out.keepF x9); replace HB := hid (HB.out.keepF x9); replace HT := hid (HT.out.keepF x9); replace HP := hid (HP.out.keepF x9); replace xx := hid (xx.out.of_eq x9))
  | (go_at_call 8; refine (sure_p _ B HT.out HP.out).mono ?_; rintro e w8 ⟨rfl, x9⟩; replace ⟨c0, c1, c2, c3⟩ := F4 x9 c0 c1 c2 c3; replace ⟨d0, d1, d2, d3⟩ := F4 x9 d0 d1 d2 d3; replace HA := hid (HA.out.keepF x9); replace HB := hid (HB.out.keepF x9); replace HT := hid (HT.out.keepF x9); replace HP := hid (HP.out.keepF x9); replace xx := hid (xx.out.of_eq x9)))
 go_wp2
 go_ret
 exact ⟨rfl, xx.out⟩

end Go.Proofs.YtpmlmpibpmoclaaGreatDoor
