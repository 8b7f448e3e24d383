/-
  The walk of the law VfsOrder.
-/
import Derived.Test.YtpmlmpibpmoclaaOrderPlain
namespace Go.Proofs.Ytpmlmpibpmoclaa
open Go.RowKit

theorem Ext.mb {w a b : World} {X : Nat → Prop} (h : Ext X a b) (hX : ∀ i, X i → w.heap.size ≤ i) (h0 : Ext (fun _ => False) w a) : Ext (fun _ => False) w b := h0.step h hX

/-- The three tables of the law, their blocks apart. -/
structure Three (w wr : World) (tb mb ub nb vb ob : Nat) (T U : List Fl) : Prop where
  t : VT wr tb mb T
  u : VT wr ub nb U
  v : VT wr vb ob []
  x : Ext (fun _ => False) w wr

structure Apart (w : World) (tb mb ub nb vb ob : Nat) : Prop where
  t : w.heap.size ≤ tb
  m : w.heap.size ≤ mb
  u : w.heap.size ≤ ub
  n : w.heap.size ≤ nb
  v : w.heap.size ≤ vb
  o : w.heap.size ≤ ob
  mu : mb < ub
  mn : mb < nb
  mv : mb < vb
  mo : mb < ob
  tn : tb < nb
  nv : nb < vb
  no : nb < ob
  tv : tb < vb
  uv : ub < vb

theorem Three.same {w wr w' : World} {tb mb ub nb vb ob : Nat} {T U : List Fl} (h : Three w wr tb mb ub nb vb ob T U) (hx : Ext (fun _ => False) wr w') : Three w w' tb mb ub nb vb ob T U :=
  ⟨h.t.keep hx id id, h.u.keep hx id id, h.v.keep hx id id, h.x.of_eq hx⟩

/-- The first table was written. -/
theorem Three.wt {w wr w' : World} {tb mb ub nb vb ob : Nat} {T U : List Fl} (h : Three w wr tb mb ub nb vb ob T U) (a : Apart w tb mb ub nb vb ob) {T' : List Fl} (ht : VT w' tb mb T') (hx : Ext (fun i => i = mb) wr w') : Three w w' tb mb ub nb vb ob T' U :=
  have hu := a.mu; have hn := a.mn; have hv := a.mv; have ho := a.mo
  ⟨ht, h.u.keep hx (by omega) (by omega), h.v.keep hx (by omega) (by omega), h.x.step hx fun i e => e ▸ a.m⟩

/-- The second table was written. -/
theorem Three.wu {w wr w' : World} {tb mb ub nb vb ob : Nat} {T U : List Fl} (h : Three w wr tb mb ub nb vb ob T U) (a : Apart w tb mb ub nb vb ob) {U' : List Fl} (hu : VT w' ub nb U') (hx : Ext (fun i => i = nb) wr w') : Three w w' tb mb ub nb vb ob T U' :=
  have h1 := a.mn; have h2 := a.tn; have h3 := a.nv; have h4 := a.no
  ⟨h.t.keep hx (by omega) (by omega), hu, h.v.keep hx (by omega) (by omega), h.x.step hx fun i e => e ▸ a.n⟩

def wideTo (F : List Fl) (n : Nat) : Bool := (F.take n).any fun p => decide (65536 < p.2.size)

theorem wideTo_succ {F : List Fl} {n : Nat} (h : n < F.length) : wideTo F (n + 1) = (wideTo F n || decide (65536 < F[n].2.size)) := by
  unfold wideTo; rw [List.take_succ_eq_append_getElem h, List.any_append]; simp

theorem narrow {F : List Fl} (h : wideTo F F.length = false) : ∀ p ∈ F, p.2.size ≤ 65536 := fun p hp => by
  unfold wideTo at h
  rw [List.take_length, List.any_eq_false] at h
  have := h p hp
  simpa using this

theorem wide_of {F : List Fl} {n : Nat} (h : n < F.length) (hb : 65536 < F[n].2.size) : wideTo F F.length = true := by
  unfold wideTo
  rw [List.take_length, List.any_eq_true]
  exact ⟨_, List.getElem_mem h, by simpa using hb⟩

def wrF (S : List Fl) (k v : ByteArray) : List Fl := wr S k v

set_option maxRecDepth 20000 in
set_option maxHeartbeats 16000000 in
theorem vfsOrder_walk (w : World) (x : Value) (F : List Fl) (hf : Sl (fun g => g < w.heap.size) w x F) (hF : F.length ≤ 1048576) (hw : ∀ p ∈ F, p.2.size ≤ 9223372036854775807) :
    Calls Try.prog 6 #[x] w fun e w' => e = .returned (.bool true) ∧ Ext (fun _ => False) w w' := by
  obtain ⟨px, cx, rfl, hc⟩ := hf.open
  go_enter Try.func6, Try.ntmps6
  go_wp2_with fail
  refine (new_ex _).mono ?_
  rintro e w1 ⟨tb, mb, rfl, t1, ht, hm, x1⟩
  go_wp2_with fail
  refine (new_ex _).mono ?_
  rintro e w2 ⟨ub, nb, rfl, u2, hu, hn, x2⟩
  go_wp2_with fail
  refine (new_ex _).mono ?_
  rintro e w3 ⟨vb, ob, rfl, v3, hv, ho, x3⟩
  have h3 : Three w w3 tb mb ub nb vb ob [] [] := ⟨(t1.keep x2 id id).keep x3 id id, u2.keep x3 id id, v3, (x1.of_eq x2).of_eq x3⟩
  have ha : Apart w tb mb ub nb vb ob := by
    have := t1.lt; have := t1.mlt; have := u2.lt; have := u2.mlt; have := x1.size; have := x2.size
    constructor <;> omega
  clear t1 u2 v3 x1 x2 x3 ht hm hu hn hv ho
  go_wp2
  go_loopw [6] (fun i wr => ∃ n : Nat, n ≤ F.length ∧ i = .int .i64 n ∧ Three w wr tb mb ub nb vb ob ((F.take n).foldl twice []) [] ∧ ((F.take n).foldl twice []).length ≤ n) (fun i _ => F.length - (intOf i).toNat)
  case atStart => exact ⟨0, Nat.zero_le _, rfl, h3, by simp⟩
  case round =>
    obtain ⟨n, hn, rfl, hb, hl⟩ := hrel
    clear h3
    by_cases hlt : n < F.length
    · have hrs : Rising ((F.take n).foldl twice []) := hb.t.rising
      have hft := hid (foldl_take hlt)
      generalize (F.take n).foldl twice [] = T at *
      obtain ⟨g, o, rfl, _, hg, a0, a1⟩ := hc n hlt
      have c0 := hb.x.cellF a0
      have hsz := hw _ (List.getElem_mem hlt)
      have hlt' : (n : Int) < (F.length : Int) := by omega
      have hm := ha.m
      have hgm : ¬ g = mb := by omega
      have hwx := write_any tb mb T F[n].1 txtOld wr hb.t (by decide)
      have hwN : wrN txtOld = 0 := rfl
      rw [hwN] at hwx
      have hT1 : Hid (twice T F[n] = wrF (wrF T F[n].1 txtOld) F[n].1 F[n].2) := rfl
      change Calls _ _ _ _ fun e w' => e = _ ∧ VT w' tb mb (wrF T F[n].1 txtOld) ∧ _ at hwx
      generalize wrF T F[n].1 txtOld = T1 at *
      unfold txtOld at hwx
      clear hwN
      go_wp2_with fail
      refine hwx.mono ?_
      rintro e w4 ⟨rfl, t4, x4⟩
      have h4 := (hb.wt ha t4 x4).same (Ext.drew _ w4)
      clear c0
      have c0 := h4.x.cellF a0
      have c1 := h4.x.cellF a1
      clear hb t4 x4 hwx
      go_wp2
      go_region_with (first
        | (go_at_call 14; refine (write_any tb mb _ _ _ _ h4.t hsz).mono ?_; rintro e w5 ⟨rfl, t5, x5⟩))
      all_goals
        go_wp2
        go_roundw
        case rel =>
          refine ⟨n + 1, by omega, by go_num, ?_, ?_⟩
          · rw [hft.out, hT1.out]; exact h4.wt ha t5 x5
          · rw [hft.out]; exact Nat.le_trans (twice_length hrs _) (by omega)
        case measure => simp [intOf]; omega
    · obtain rfl : n = F.length := by omega
      rw [List.take_length] at hb hl
      have hfit : fits (F.foldl twice []) := foldl_fits ⟨List.Pairwise.nil, by simp⟩
      have hT0 : ∃ T, Hid (T = F.foldl twice []) := ⟨_, rfl⟩
      obtain ⟨T, hT0⟩ := hT0
      rw [← hT0.out] at hb hl hfit
      have hdr : (F.drop F.length).foldr stepU [] = [] := by rw [List.drop_length]; rfl
      have hdr := hid hdr
      go_wp2
      go_loopw [7] (fun i wr => ∃ n : Nat, n ≤ F.length ∧ i = .int .i64 ((n : Int) - 1) ∧ ∃ U, Three w wr tb mb ub nb vb ob T U ∧ U.length ≤ 2 * (F.length - n) ∧ (wideTo F F.length = false → U = (F.drop n).foldr stepU [])) (fun i _ => (intOf i + 1).toNat)
      case atStart => exact ⟨F.length, Nat.le_refl _, rfl, [], hb, by simp, fun _ => hdr.out.symm⟩
      case round =>
        obtain ⟨n, hn, hi, U, hb', hUl, hU⟩ := hrel
        clear hb hdr
        cases n with
        | succ m =>
          have e : ((m + 1 : Nat) : Int) - 1 = (m : Int) := by omega
          rw [e] at hi
          subst hi
          clear e
          have hlt : m < F.length := hn
          have hUr : Rising U := hb'.u.rising
          obtain ⟨g, o, rfl, _, hg, a0, a1⟩ := hc m hlt
          have c0 := hb'.x.cellF a0
          have hsz := hw _ (List.getElem_mem hlt)
          have hlt' : (m : Int) < (F.length : Int) := by omega
          have hge' : (0 : Int) ≤ (m : Int) := by omega
          have hN := ha.n
          have hgm : ¬ g = nb := by omega
          have hU' : Hid (wideTo F F.length = false → stepU F[m] U = (F.drop m).foldr stepU []) := fun h => by rw [foldr_drop hlt, ← hU h]
          clear hU
          have hh := has_any ub nb U F[m].1 wr hb'.u
          cases hhit : hit U F[m].1
          · rw [hhit] at hh
            go_wp2_with fail
            refine hh.mono ?_
            rintro e w' ⟨rfl, rfl⟩
            clear hh
            have hsu : Hid (stepU F[m] U = wrF (wrF U F[m].1 txtOld) F[m].1 F[m].2) := by
              show stepU F[m] U = _
              unfold stepU; rw [if_neg (by rw [hhit]; simp)]; rfl
            have hln : Hid ((wrF (wrF U F[m].1 txtOld) F[m].1 F[m].2).length ≤ U.length + 1) := twice_length hUr F[m]
            have hwx := write_any ub nb U F[m].1 txtOld wr hb'.u (by decide)
            have hwN : wrN txtOld = 0 := rfl
            rw [hwN] at hwx
            change Calls _ _ _ _ fun e w' => e = _ ∧ VT w' ub nb (wrF U F[m].1 txtOld) ∧ _ at hwx
            generalize wrF U F[m].1 txtOld = U1 at *
            unfold txtOld at hwx
            clear hwN
            go_wp2_with fail
            refine hwx.mono ?_
            rintro e w4 ⟨rfl, u4, x4⟩
            have h4 := (hb'.wu ha u4 x4).same (Ext.drew _ w4)
            clear c0
            have c0 := h4.x.cellF a0
            have c1 := h4.x.cellF a1
            clear hb' u4 x4 hwx
            by_cases hbig : F[m].2.size ≤ 65536
            · have hw5 := write_any ub nb U1 F[m].1 F[m].2 _ h4.u hsz
              have hwN : wrN F[m].2 = 0 := if_pos hbig
              rw [hwN] at hw5
              change Calls _ _ _ _ fun e w' => e = _ ∧ VT w' ub nb (wrF U1 F[m].1 F[m].2) ∧ _ at hw5
              generalize wrF U1 F[m].1 F[m].2 = U2 at *
              clear hwN
              go_wp2
              go_region_with (first
                | (go_at_call 14; refine hw5.mono ?_; rintro e w5 ⟨rfl, u5, x5⟩))
              all_goals
                go_wp2
                go_roundw
                case rel => exact ⟨m, by omega, rfl, U2, h4.wu ha u5 x5, by have := hln.out; omega, fun h => by rw [← hsu.out]; exact hU'.out h⟩
                case measure => simp [intOf]
            · have hw5 := write_any ub nb U1 F[m].1 F[m].2 _ h4.u hsz
              have hwN : wrN F[m].2 = 20 := if_neg hbig
              rw [hwN] at hw5
              change Calls _ _ _ _ fun e w' => e = _ ∧ VT w' ub nb (wrF U1 F[m].1 F[m].2) ∧ _ at hw5
              have hwide : Hid (wideTo F F.length = true) := wide_of hlt (by omega)
              generalize wrF U1 F[m].1 F[m].2 = U2 at *
              clear hwN hsu hU'
              go_wp2
              go_region_with (first
                | (go_at_call 14; refine hw5.mono ?_; rintro e w5 ⟨rfl, u5, x5⟩))
              all_goals
                have h5 := h4.wu ha u5 x5
                clear h4 u5 x5 c0 c1
                go_wp2
                go_loopw [8] (fun i w6 => ∃ j : Nat, j ≤ m ∧ i = .int .i64 ((j : Int) - 1) ∧ Three w w6 tb mb ub nb vb ob T U2) (fun i _ => (intOf i + 1).toNat)
                case atStart => exact ⟨m, Nat.le_refl _, rfl, h5⟩
                case round =>
                  obtain ⟨j, hj, hi, h6⟩ := hrel
                  clear h5
                  cases j with
                  | succ q =>
                    have e : ((q + 1 : Nat) : Int) - 1 = (q : Int) := by omega
                    rw [e] at hi
                    subst hi
                    clear e
                    have hq : q < F.length := by omega
                    obtain ⟨g', o', eg, _, _, b0, b1⟩ := hc q hq
                    obtain ⟨rfl, rfl⟩ : g = g' ∧ o = o' := by simpa using eg
                    clear eg
                    have hqz := hw _ (List.getElem_mem hq)
                    have d0 := h6.x.cellF b0
                    have d1 := h6.x.cellF b1
                    have c0 := h6.x.cellF a0
                    have hqi : (q : Int) < (F.length : Int) := by omega
                    have hq0 : (0 : Int) ≤ (q : Int) := by omega
                    by_cases hk : F[q].1 = F[m].1
                    · have hkl : (F[q].1.toList == F[m].1.toList) = true := by rw [hk]; simp
                      by_cases hqs : F[q].2.size ≤ 65536
                      · have hqs' : (F[q].2.size : Int) ≤ 65536 := by omega
                        clear hk hqs
                        go_wp2
                        go_quiet (fail)
                        have h7 := (h6.same (Ext.drewN _ _ nq)).same (Ext.drew _ _)
                        have d0 := h7.x.cellF b0
                        have d1 := h7.x.cellF b1
                        go_wp2
                        go_region_with (first
                          | (go_at_call 14; refine (write_any ub nb U2 _ _ _ h7.u hqz).mono ?_; rintro e w8 ⟨rfl, u8, x8⟩))
                        all_goals
                          go_wp2
                          go_roundw
                          case rel => exact ⟨m, by omega, rfl, _, h7.wu ha u8 x8, Nat.le_trans (wr_length h6.u.rising _ _) (by have := hln.out; omega), fun h => by rw [hwide.out] at h; cases h⟩
                          case measure => simp [intOf]
                      · have hqs' : ¬ (F[q].2.size : Int) ≤ 65536 := by omega
                        clear hk hqs
                        go_wp2
                        go_quiet (fail)
                        go_wp2
                        go_roundw
                        case rel => exact ⟨q, by omega, rfl, h6.same (Ext.drewN _ _ nq)⟩
                        case measure => simp [intOf]
                    · have hkl : (F[q].1.toList == F[m].1.toList) = false := by rw [beq_eq_false_iff_ne]; exact fun e => hk (toList_inj e)
                      go_wp2
                      go_quiet (fail)
                      go_wp2
                      go_roundw
                      case rel => exact ⟨q, by omega, rfl, h6.same (Ext.drewN _ _ nq)⟩
                      case measure => simp [intOf]
                  | zero =>
                    have hi' : Value.int .i64 (-1) = .int .i64 (((0 : Nat) : Int) - 1) := rfl
                    rw [← hi'] at hi
                    subst hi
                    clear hi'
                    go_wp2
                    go_roundw
                    case rel => exact ⟨m, by omega, rfl, _, h6, by have := hln.out; omega, fun h => by rw [hwide.out] at h; cases h⟩
                    case measure => simp [intOf]
          · rw [hhit] at hh
            go_wp2_with fail
            refine hh.mono ?_
            rintro e w' ⟨rfl, rfl⟩
            have hsu : stepU F[m] U = U := by unfold stepU; rw [if_pos hhit]
            have hsu := hid hsu
            clear hh
            go_wp2
            go_roundw
            case rel => exact ⟨m, by omega, rfl, U, hb', by omega, fun h => by rw [← hsu.out]; exact hU'.out h⟩
            case measure => simp [intOf]
        | zero =>
          have hi' : Value.int .i64 (-1) = .int .i64 (((0 : Nat) : Int) - 1) := rfl
          rw [← hi'] at hi
          subst hi
          clear hi'
          have hU : Hid (wideTo F F.length = false → U = F.foldr stepU []) := by have := hU; simp only [List.drop_zero] at this; exact this
          have hUl : U.length ≤ 2097152 := by omega
          have hTl : T.length ≤ 2097152 := by omega
          have hx := hb'.x
          go_wp2
          go_loop [9, 10] (fun a b => ∃ n : Nat, n ≤ F.length ∧ b = .int .i64 n ∧ a = .bool (wideTo F n)) (fun _ b => F.length - (intOf b).toNat)
          case atStart => exact ⟨0, Nat.zero_le _, rfl, rfl⟩
          case round =>
            obtain ⟨n, hn, rfl, rfl⟩ := hrel
            by_cases hlt : n < F.length
            · obtain ⟨g, o, rfl, _, hg, a0, a1⟩ := hc n hlt
              have c1 := hx.cellF a1
              have hws := hid (wideTo_succ hlt)
              have hlt' : (n : Int) < (F.length : Int) := by omega
              clear a0 a1
              cases hwn : wideTo F n
              · by_cases hbig : 65536 < F[n].2.size
                · have hb' : (65536 : Int) < (F[n].2.size : Int) := by omega
                  have hwt : Hid (Value.bool true = .bool (wideTo F (n + 1))) := by
                    show _ = _
                    rw [hws.out, decide_eq_true hbig]; simp
                  clear hwn hbig
                  go_wp2
                  go_round
                  case rel => exact ⟨n + 1, by omega, by go_num, hwt.out⟩
                  case measure => simp [intOf]; omega
                · have hb' : ¬ (65536 : Int) < (F[n].2.size : Int) := by omega
                  have hwt : Hid (Value.bool false = .bool (wideTo F (n + 1))) := by
                    show _ = _
                    rw [hws.out, decide_eq_false hbig, hwn]; simp
                  clear hwn hbig
                  go_wp2
                  go_round
                  case rel => exact ⟨n + 1, by omega, by go_num, hwt.out⟩
                  case measure => simp [intOf]; omega
              · have hwt : Hid (Value.bool true = .bool (wideTo F (n + 1))) := by
                  show _ = _
                  rw [hws.out, hwn]; simp
                clear hwn
                go_wp2
                go_round
                case rel => exact ⟨n + 1, by omega, by go_num, hwt.out⟩
                case measure => simp [intOf]; omega
            · obtain rfl : n = F.length := by omega
              have hok : Hid (okF T = true) := fits_okF hfit
              have hTw : ∀ p ∈ T, p.2.size ≤ 9223372036854775807 := fun p hp => Nat.le_trans (hfit.2 p hp) (by decide)
              have hld : Hid (ld [] T = T) := if_pos hok.out
              have hfN : Hid (fitN T = 0) := (fitN_yes hok.out).symm
              have hsame : sameF T T = true := decide_eq_true rfl
              have hge : ¬ (F.length : Int) < (F.length : Int) := by omega
              clear hc hw hlt hn hx
              cases hwd : wideTo F F.length
              · have hUT : U = T := by rw [hU.out hwd, hT0.out, order_plain (narrow hwd)]
                subst hUT
                clear hU hT0 hUl
                go_wp2_with fail
                refine (files_any tb mb U wr hb'.t (by omega)).mono ?_
                rintro e w1 ⟨v1, rfl, s1, x1⟩
                have h1 := hb'.same x1
                have hvl : vb < wr.heap.size := hb'.v.lt
                clear hb'
                go_wp2_with fail
                refine (files_any ub nb U w1 h1.u (by omega)).mono ?_
                rintro e w2 ⟨v2, rfl, s2, x2⟩
                have h2 := h1.same x2
                have s1 := s1.keep x2 (fun _ _ _ h => h)
                have h8 := same_any _ _ _ _ _ _ _ s1 s2 (by omega) (by omega)
                rw [hsame] at h8
                clear h1 x1 x2
                go_wp2_with fail
                refine h8.mono ?_
                rintro e w3 ⟨rfl, x3⟩
                have h3 := h2.same x3
                have s1 := s1.keep x3 (fun _ _ _ h => h)
                have h9 := load_both vb ob [] _ U _ w3 h3.v s1 (by omega) hTw
                rw [hfN.out, hld.out] at h9
                clear h2 h8 s2 x3
                go_wp2_with fail
                refine h9.mono ?_
                rintro e w4 ⟨rfl, ob', v4, _, x4⟩
                have s1 := s1.keep x4 (fun g h1 _ h2 => by omega)
                have e4 := h3.x.step x4 (fun i h => h ▸ ha.v)
                clear h3 h9 x4
                go_wp2_with fail
                refine (files_any vb ob' U w4 v4 (by omega)).mono ?_
                rintro e w5 ⟨v5, rfl, s5, x5⟩
                have s1 := s1.keep x5 (fun _ _ _ h => h)
                have h8 := same_any _ _ _ _ _ _ _ s5 s1 (by omega) (by omega)
                rw [hsame] at h8
                have e5 := e4.of_eq x5
                clear e4 x5
                go_wp2_with fail
                refine h8.mono ?_
                rintro e w6 ⟨rfl, x6⟩
                go_wp2_with fail
                refine (sure_any w6).mono ?_
                rintro e w7 ⟨rfl, x7⟩
                go_wp2
                go_ret
                exact ⟨rfl, (e5.of_eq x6).of_eq x7⟩
              · clear hU hT0 hUl
                go_wp2_with fail
                refine (files_any tb mb T wr hb'.t (by omega)).mono ?_
                rintro e w1 ⟨v1, rfl, s1, x1⟩
                have h3 := hb'.same x1
                have hvl : vb < wr.heap.size := hb'.v.lt
                clear hb' x1
                have h9 := load_both vb ob [] _ T _ w1 h3.v s1 (by omega) hTw
                rw [hfN.out, hld.out] at h9
                go_wp2_with fail
                refine h9.mono ?_
                rintro e w4 ⟨rfl, ob', v4, _, x4⟩
                have s1 := s1.keep x4 (fun g h1 _ h2 => by omega)
                have e4 := h3.x.step x4 (fun i h => h ▸ ha.v)
                clear h3 h9 x4
                go_wp2_with fail
                refine (files_any vb ob' T w4 v4 (by omega)).mono ?_
                rintro e w5 ⟨v5, rfl, s5, x5⟩
                have s1 := s1.keep x5 (fun _ _ _ h => h)
                have h8 := same_any _ _ _ _ _ _ _ s5 s1 (by omega) (by omega)
                rw [hsame] at h8
                have e5 := e4.of_eq x5
                clear e4 x5
                go_wp2_with fail
                refine h8.mono ?_
                rintro e w6 ⟨rfl, x6⟩
                go_wp2_with fail
                refine (sure_any w6).mono ?_
                rintro e w7 ⟨rfl, x7⟩
                go_wp2
                go_ret
                exact ⟨rfl, (e5.of_eq x6).of_eq x7⟩

end Go.Proofs.Ytpmlmpibpmoclaa
