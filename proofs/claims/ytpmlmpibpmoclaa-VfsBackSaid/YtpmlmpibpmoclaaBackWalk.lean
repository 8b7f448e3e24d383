/-
  The walk of the law VfsBack.
-/
import Derived.Test.YtpmlmpibpmoclaaSure
namespace Go.Proofs.Ytpmlmpibpmoclaa
open Go.RowKit

/-- The value x is the list of strings L. -/
def Strs (w : World) (x : Value) (L : List ByteArray) : Prop :=
  ∃ p0 c, x = .slice p0 L.length c ∧ ∀ i (h : i < L.length), ∃ g o, p0 = some ⟨g, o, none⟩ ∧ w.cell? ⟨g, o + i, none⟩ = some (.string L[i])

def txtX : ByteArray := { data := #[120] }

/-- What is written and removed under another path leaves what is read under k. -/
theorem look_other {S : List Fl} (hS : Rising S) {k o v : ByteArray} (h : o ≠ k) : look (del (ins S o v) o) k = look S k := by
  rw [look_del (ins_rising hS o v), look_ins hS, if_neg (fun e => h e.symm), if_neg (fun e => h e.symm)]

theorem hit_gone {S : List Fl} (hS : Rising S) (o : ByteArray) : hit (del S o) o = false := by
  apply hit_none; rw [look_del hS, if_pos rfl]

set_option maxHeartbeats 16000000 in
theorem vfsBack_walk (w : World) (x y : Value) (F : List Fl) (L : List ByteArray) (k v : ByteArray) (hf : Sl (fun g => g < w.heap.size) w x F) (hF : F.length ≤ 4398046511104) (hw : ∀ p ∈ F, p.2.size ≤ 9223372036854775807)
    (hv : v.size ≤ 9223372036854775807) (hy : Strs w y L) (hL : L.length ≤ 4611686018427387904) :
    Calls Try.prog 5 #[x, .agg #[.string k, .string v], y] w fun e w' => e = .returned (.bool true) ∧ Ext (fun _ => False) w w' := by
  obtain ⟨px, cx, rfl, hc⟩ := hf.open
  obtain ⟨py, cy, rfl, hcy⟩ := hy
  have d0 := cell_new0 w k v
  have d1 := cell_new1 w k v
  have xa : Ext (fun _ => False) w (w.alloc (.cells #[.string k, .string v] 44)) := Ext.alloc _ _ _
  go_enter Try.func5, Try.ntmps5
  go_wp2
  generalize w.alloc (.cells #[.string k, .string v] 44) = wa at *
  generalize hbn : w.heap.size = bn at *
  go_quiet (fail)
  go_wp2_with fail
  refine (new_ex _).mono ?_
  rintro e w1 ⟨tb, mb, rfl, t1, ht, hm, x1⟩
  have hwa : bn ≤ (wa.drewN nq).heap.size := by rw [← hbn]; exact xa.size
  have ht' : w.heap.size ≤ tb := by rw [hbn]; exact Nat.le_trans hwa ht
  have hm' : w.heap.size ≤ mb := by rw [hbn]; exact Nat.le_trans hwa hm
  have xb := (xa.of_eq (Ext.drewN _ wa nq)).of_eq x1
  clear x1 d0 d1 xa ht hm hwa
  by_cases hbig : 65536 < v.size
  · have hb' : (65536 : Int) < (v.size : Int) := by omega
    clear hbig
    go_wp2_with fail
    refine (sure_any _).mono ?_
    rintro e w10 ⟨rfl, x10⟩
    go_wp2
    go_ret
    exact ⟨rfl, xb.of_eq x10⟩
  · have hb' : ¬ (65536 : Int) < (v.size : Int) := by omega
    go_wp2
    go_loopw [10] (fun i wr => ∃ n : Nat, n ≤ F.length ∧ i = .int .i64 n ∧ ∃ S, VT wr tb mb S ∧ Ext (fun _ => False) w wr) (fun i _ => F.length - (intOf i).toNat)
    case atStart => exact ⟨0, Nat.zero_le _, rfl, [], t1, xb⟩
    case round =>
      obtain ⟨n, hn, rfl, S, hb, hx⟩ := hrel
      clear t1 xb
      by_cases hlt : n < F.length
      · obtain ⟨g, o, rfl, _, _, a0, a1⟩ := hc n hlt
        have hxd := hx.of_eq (Ext.drew _ wr)
        have c0 := hxd.cellF a0
        have c1 := hxd.cellF a1
        have bd := hb.keep (Ext.drew (fun _ => False) wr) id id
        have hsz := hw _ (List.getElem_mem hlt)
        have hlt' : (n : Int) < (F.length : Int) := by omega
        clear a0 a1
        go_wp2
        go_region_with (first
          | (go_at_call 14; refine (write_any tb mb S _ _ _ bd hsz).mono ?_; rintro e w4 ⟨rfl, t4, x4⟩))
        all_goals
          go_wp2
          go_roundw
          case rel => exact ⟨n + 1, by omega, by go_num, _, t4, hxd.step x4 (fun i h => h ▸ hm')⟩
          case measure => simp [intOf]; omega
      · have hge : ¬ (n : Int) < (F.length : Int) := by omega
        have hS := hb.rising
        have hlen := length_ins hS k v
        go_wp2_with fail
        refine (len_any tb mb S wr hb).mono ?_
        rintro e w' ⟨rfl, rfl⟩
        go_wp2_with fail
        refine (has_any tb mb S k wr hb).mono ?_
        rintro e w' ⟨rfl, rfl⟩
        go_wp2_with fail
        refine (write_short tb mb S k v wr hb (by omega)).mono ?_
        rintro e w4 ⟨rfl, t4, x4⟩
        have hx4 := hx.step x4 (fun i h => h ▸ hm')
        have hl4 : look (ins S k v) k = some v := by rw [look_ins hS, if_pos rfl]
        have hS4 := ins_rising hS k v
        generalize hS4e : ins S k v = S4 at *
        clear hc hx x4 hb hS4e hS
        generalize S.length = m at *
        have hne : ((S4.length : Int) == (m : Int)) = hit S k := by
          cases hh : hit S k
          · rw [hh] at hlen
            rw [beq_eq_false_iff_ne]
            have : S4.length = m + 1 := hlen
            omega
          · rw [hh] at hlen
            have : S4.length = m := hlen
            rw [this]; simp
        clear hlen
        go_wp2_with fail
        refine (len_any tb mb S4 w4 t4).mono ?_
        rintro e w' ⟨rfl, rfl⟩
        generalize hit S k = hi at *
        go_wp2
        go_loopw [13] (fun i wr => ∃ n : Nat, n ≤ L.length ∧ i = .int .i64 n ∧ ∃ S, VT wr tb mb S ∧ look S k = some v ∧ Ext (fun _ => False) w wr) (fun i _ => L.length - (intOf i).toNat)
        case atStart => exact ⟨0, Nat.zero_le _, rfl, S4, t4, hl4, hx4⟩
        case round =>
          obtain ⟨n, hn, rfl, S5, hb5, hl5, hx5⟩ := hrel
          clear t4 hl4 hx4 hne hS4
          have hS5 := hb5.rising
          by_cases hlt : n < L.length
          · obtain ⟨g, o, rfl, a0⟩ := hcy n hlt
            have c0 := hx5.cellF a0
            have hlt' : (n : Int) < (L.length : Int) := by omega
            have hgm : ¬ g = mb := by have := cell_lt a0; simp only at this; omega
            clear a0
            by_cases hk : L[n] = k
            · go_wp2
              go_roundw
              case rel => exact ⟨n + 1, by omega, by go_num, _, hb5, hl5, hx5⟩
              case measure => simp [intOf]; omega
            · have hlo := look_other hS5 (v := txtX) hk
              have hgo := hit_gone (ins_rising hS5 L[n] txtX) L[n]
              have hwx := write_short tb mb S5 L[n] txtX wr hb5 (by decide)
              have hk' : (L[n].toList == k.toList) = false := by rw [beq_eq_false_iff_ne]; exact fun e => hk (toList_inj e)
              unfold txtX at *
              go_wp2_with fail
              refine hwx.mono ?_
              rintro e w6 ⟨rfl, t6, x6⟩
              have c6 := x6.cellX (fun e => hgm e) c0
              go_wp2_with fail
              refine (remove_any tb mb _ L[n] w6 t6).mono ?_
              rintro e w7 ⟨rfl, t7, x7⟩
              have c7 := x7.cellX (fun e => hgm e) c6
              have h8 := has_any tb mb _ L[n] w7 t7
              rw [hgo] at h8
              go_wp2_with fail
              refine h8.mono ?_
              rintro e w' ⟨rfl, rfl⟩
              go_wp2
              go_roundw
              case rel => exact ⟨n + 1, by omega, by go_num, _, t7, hlo.trans hl5, (hx5.step x6 (fun i h => h ▸ hm')).step x7 (fun i h => h ▸ hm')⟩
              case measure => simp [intOf]; omega
          · have hge : ¬ (n : Int) < (L.length : Int) := by omega
            have hr := read_any tb mb S5 k wr hb5
            rw [hl5, hit_some hl5] at hr
            simp only [Option.getD_some] at hr
            go_wp2_with fail
            refine hr.mono ?_
            rintro e w' ⟨rfl, rfl⟩
            have hrm := remove_any tb mb S5 k wr hb5
            rw [hit_some hl5] at hrm
            go_wp2_with fail
            refine hrm.mono ?_
            rintro e w8 ⟨rfl, t8, x8⟩
            have hh := has_any tb mb _ k w8 t8
            rw [hit_gone hS5] at hh
            go_wp2_with fail
            refine hh.mono ?_
            rintro e w' ⟨rfl, rfl⟩
            go_wp2_with fail
            refine (sure_any w8).mono ?_
            rintro e w10 ⟨rfl, x10⟩
            go_wp2
            go_ret
            exact ⟨rfl, (hx5.step x8 (fun i h => h ▸ hm')).of_eq x10⟩

end Go.Proofs.Ytpmlmpibpmoclaa
