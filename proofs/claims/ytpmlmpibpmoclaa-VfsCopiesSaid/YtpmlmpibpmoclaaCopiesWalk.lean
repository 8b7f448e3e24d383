/-
  The walk of the law VfsCopies.
-/
import Derived.Test.YtpmlmpibpmoclaaSure
namespace Go.Proofs.Ytpmlmpibpmoclaa
open Go.RowKit

def txtMore : ByteArray := { data := #[109, 111, 114, 101] }

theorem kA_list : kA.toList = [47, 97] := by rw [Lib.toList_data]; rfl

theorem look_kept {S : List Fl} (hS : Rising S) {k o v : ByteArray} (h : k ≠ o) : hit (del (ins S k v) o) k = true := by
  apply hit_some (v := v); rw [look_del (ins_rising hS k v), if_neg h, look_ins hS, if_pos rfl]

theorem Shape.set {w : World} {base : Nat} {p : Option Addr} {n : Nat} (h : Shape w base p n) (g o : Nat) (u : Value) : Shape (w.setCell ⟨g, o, none⟩ u) base p n := fun h0 => by
  obtain ⟨b, cur, hp, hb, hc, hs⟩ := h h0
  by_cases e : g = b
  · subst e
    refine ⟨g, cur.setIfInBounds o u, hp, hb, ?_, by simpa using hs⟩
    simp only [World.setCell, Array.getElem?_modify, if_pos, hc]
    simp
  · exact ⟨b, cur, hp, hb, (Below.heap_setCell _ _ _ _ (fun h => e h.symm)).trans hc, hs⟩

set_option maxHeartbeats 16000000 in
theorem vfsCopies_walk (w : World) (x : Value) (F : List Fl) (k : ByteArray) (hf : Sl (fun g => g < w.heap.size) w x F) (hF : F.length ≤ 4398046511000) (hw : ∀ p ∈ F, p.2.size ≤ 9223372036854775807) :
    Calls Try.prog 7 #[x, .string k] w fun e w' => e = .returned (.bool true) ∧ Ext (fun _ => False) w w' := by
  obtain ⟨px, cx, rfl, hc⟩ := hf.open
  go_enter Try.func7, Try.ntmps7
  go_wp2_with fail
  refine (new_ex _).mono ?_
  rintro e w1 ⟨tb, mb, rfl, t1, ht, hm, x1⟩
  go_wp2
  go_loopw [6] (fun i wr => ∃ n : Nat, n ≤ F.length ∧ i = .int .i64 n ∧ ∃ S, VT wr tb mb S ∧ S.length ≤ n ∧ Ext (fun _ => False) w wr) (fun i _ => F.length - (intOf i).toNat)
  case atStart => exact ⟨0, Nat.zero_le _, rfl, [], t1, Nat.zero_le _, x1⟩
  case round =>
    obtain ⟨n, hn, rfl, S, hb, hSn, hx⟩ := hrel
    clear t1 x1
    by_cases hlt : n < F.length
    · obtain ⟨g, o, rfl, _, _, a0, a1⟩ := hc n hlt
      have hxd := hx.of_eq (Ext.drew _ wr)
      have c0 := hxd.cellF a0
      have c1 := hxd.cellF a1
      have bd := hb.keep (Ext.drew (fun _ => False) wr) id id
      have hsz := hw _ (List.getElem_mem hlt)
      have hlt' : (n : Int) < (F.length : Int) := by omega
      clear a0 a1
      go_wp2
      go_region_with (first
        | (go_at_call 14; refine (write_any tb mb S _ _ _ bd hsz).mono ?_; rintro e w4 ⟨rfl, t4, x4⟩))
      all_goals
        go_wp2
        go_roundw
        case rel => exact ⟨n + 1, by omega, by go_num, _, t4, Nat.le_trans (wr_length hb.rising _ _) (by omega), hxd.step x4 (fun i h => h ▸ hm)⟩
        case measure => simp [intOf]; omega
    · have hge : ¬ (n : Int) < (F.length : Int) := by omega
      have hSl : S.length ≤ 4398046511000 := by omega
      have hS := hb.rising
      clear hc hSn
      go_wp2_with fail
      refine (files_any tb mb S wr hb (by omega)).mono ?_
      rintro e w2 ⟨v2, rfl, s2, x2⟩
      have b2 := hb.keep x2 id id
      have e2 := hx.of_eq x2
      go_wp2_with fail
      refine (files_own tb mb S w2 b2 (by omega)).mono ?_
      rintro e w3 ⟨p3, c3, rfl, _, sh3, x3⟩
      have s3 : Sl (fun g => g < w2.heap.size) w3 v2 S := by
        have := s2.mono (Z := fun g => g < w2.heap.size) fun g h _ => h
        exact this.keep x3 (fun _ _ _ h => h)
      have b3 := b2.keep x3 id id
      have e3 := e2.of_eq x3
      have hmB := b2.mlt
      have htB := b2.lt
      have hwB : w.heap.size ≤ w2.heap.size := e2.size
      have hB3 : w2.heap.size ≤ w3.heap.size := x3.size
      clear s2 x2 b2 e2 hb hx x3
      generalize w2.heap.size = B at *
      go_wp2
      go_loopw [9] (fun i wr => ∃ j : Nat, j ≤ S.length ∧ i = .int .i64 j ∧ Shape wr B p3 S.length ∧ Ext (fun g => B ≤ g) w3 wr) (fun i _ => S.length - (intOf i).toNat)
      case atStart => exact ⟨0, Nat.zero_le _, rfl, sh3, Ext.refl _ _⟩
      case round =>
        obtain ⟨j, hj, rfl, sh, hx⟩ := hrel
        clear sh3
        by_cases hlt : j < S.length
        · obtain ⟨g, cur, rfl, hg, hb, hs⟩ := sh (by omega)
          have hlt' : (j : Int) < (S.length : Int) := by omega
          obtain ⟨u0, a0⟩ : ∃ u, wr.cell? ⟨g, j * 2, none⟩ = some u := by
            simp only [World.cell?, hb]
            exact ⟨cur[j * 2], by simp⟩
          obtain ⟨u1, a1⟩ : ∃ u, wr.cell? ⟨g, j * 2 + 1, none⟩ = some u := by
            simp only [World.cell?, hb]
            exact ⟨cur[j * 2 + 1], by simp⟩
          have f0 : wr.frozen? ⟨g, j * 2, none⟩ = false := by simp [World.frozen?, hb]
          have f1 : wr.frozen? ⟨g, j * 2 + 1, none⟩ = false := by simp [World.frozen?, hb]
          clear sh
          go_wp2
          go_roundw
          case rel =>
            refine ⟨j + 1, by omega, by go_num, (Shape.set (fun _ => ⟨g, cur, rfl, hg, hb, hs⟩) _ _ _).set _ _ _, ?_⟩
            exact (hx.trans (Ext.setCell wr ⟨g, j * 2, none⟩ _ (fun _ => .inl hg))).trans (Ext.setCell _ ⟨g, j * 2 + 1, none⟩ _ (fun _ => .inl hg))
          case measure => simp [intOf]; omega
        · have hge : ¬ (j : Int) < (S.length : Int) := by omega
          have s5 := s3.keep hx (fun g h1 _ h2 => by omega)
          have t5 := b3.keep hx (by omega) (by omega)
          have e5 : Ext (fun _ => False) w wr := e3.trans (hx.mono fun i _ h => .inr (by omega))
          have hBr : B ≤ wr.heap.size := Nat.le_trans hB3 hx.size
          clear s3 b3 e3 hx sh
          go_wp2_with fail
          refine (copy_any tb mb S wr t5).mono ?_
          rintro e w6 ⟨cb, cmb, rfl, ct6, hcb, hcm, x6⟩
          have s6 := s5.keep x6 (fun _ _ _ h => h)
          have t6 := t5.keep x6 id id
          have e6 := e5.of_eq x6
          have hcm' : w.heap.size ≤ cmb := Nat.le_trans e5.size hcm
          have hmc : mb < cmb := Nat.lt_of_lt_of_le t5.mlt hcm
          have htc : tb < cmb := Nat.lt_of_lt_of_le t5.lt hcm
          have hcbt : tb < cb := Nat.lt_of_lt_of_le t5.lt hcb
          have hcbm : mb < cb := Nat.lt_of_lt_of_le t5.mlt hcb
          have hvcm : B ≤ cmb := by omega
          clear s5 t5 e5 x6 hcb hcm
          go_wp2_with fail
          refine (files_any cb cmb S w6 ct6 (by omega)).mono ?_
          rintro e w7 ⟨v7, rfl, s7, x7⟩
          have s7' := s6.keep x7 (fun _ _ _ h => h)
          have hsame : sameF S S = true := decide_eq_true rfl
          have h8 := same_any _ _ _ _ _ _ _ s7 s7' (by omega) (by omega)
          rw [hsame] at h8
          go_wp2_with fail
          refine h8.mono ?_
          rintro e w8 ⟨rfl, x8⟩
          have x68 := x7.of_eq x8
          have s8 := s6.keep x68 (fun _ _ _ h => h)
          have t8 := t6.keep x68 id id
          have ct8 := ct6.keep x68 id id
          have e8 := e6.of_eq x68
          clear s6 t6 ct6 e6 x7 x8 x68 s7 s7' h8
          have hwm := write_short cb cmb S k txtMore w8 ct8 (by decide)
          unfold txtMore at hwm
          go_wp2_with fail
          refine hwm.mono ?_
          rintro e w9 ⟨rfl, ct9, x9⟩
          have s9 := s8.keep x9 (fun g h1 _ h2 => by omega)
          have t9 := t8.keep x9 (by omega) (by omega)
          have e9 := e8.step x9 (fun i h => h ▸ hcm')
          clear s8 t8 ct8 e8 x9 hwm
          go_wp2_with fail
          refine (remove_any cb cmb _ kA w9 ct9).mono ?_
          rintro e w10 ⟨rfl, ct10, x10⟩
          have s10 := s9.keep x10 (fun g h1 _ h2 => by omega)
          have t10 := t9.keep x10 (by omega) (by omega)
          have e10 := e9.step x10 (fun i h => h ▸ hcm')
          clear s9 t9 ct9 e9 x10
          go_wp2_with fail
          refine (files_any tb mb S w10 t10 (by omega)).mono ?_
          rintro e w11 ⟨v11, rfl, s11, x11⟩
          have s11' := s10.keep x11 (fun _ _ _ h => h)
          have h12 := same_any _ _ _ _ _ _ _ s11 s11' (by omega) (by omega)
          rw [hsame] at h12
          go_wp2_with fail
          refine h12.mono ?_
          rintro e w12 ⟨rfl, x12⟩
          have x02 := x11.of_eq x12
          have t12 := t10.keep x02 id id
          have ct12 := ct10.keep x02 id id
          have e12 := e10.of_eq x02
          clear s10 t10 ct10 e10 x11 x12 x02 s11 s11' h12
          go_wp2_with fail
          refine (write_short tb mb S k _ w12 t12 (by decide)).mono ?_
          rintro e w13 ⟨rfl, t13, x13⟩
          have ct13 := ct12.keep x13 (by omega) (by omega)
          have e13 := e12.step x13 (fun i h => h ▸ hm)
          clear t12 ct12 e12 x13
          by_cases hk : k = kA
          · have hk' : k.toList = [47, 97] := by rw [hk]; exact kA_list
            clear hk
            go_wp2_with fail
            refine (sure_any w13).mono ?_
            rintro e w14 ⟨rfl, x14⟩
            go_wp2
            go_ret
            exact ⟨rfl, e13.of_eq x14⟩
          · have hk' : ¬ k.toList = [47, 97] := fun e => hk (toList_inj (e.trans kA_list.symm))
            have hh := has_any cb cmb _ k w13 ct13
            rw [show hit _ k = true from look_kept hS hk] at hh
            go_wp2_with fail
            refine hh.mono ?_
            rintro e w' ⟨rfl, rfl⟩
            go_wp2_with fail
            refine (sure_any w13).mono ?_
            rintro e w14 ⟨rfl, x14⟩
            go_wp2
            go_ret
            exact ⟨rfl, e13.of_eq x14⟩

end Go.Proofs.Ytpmlmpibpmoclaa
