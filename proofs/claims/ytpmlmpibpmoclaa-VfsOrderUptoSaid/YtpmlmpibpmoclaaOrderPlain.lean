/-
  VfsOrder: the plain law: files written in order, each path first with another text, and the same from the end with no path twice, make one table.
-/
import Derived.Test.YtpmlmpibpmoclaaSure
namespace Go.Proofs.Ytpmlmpibpmoclaa
open Go.RowKit

def txtOld : ByteArray := { data := #[111, 108, 100] }

/-- One file written twice. -/
def twice (S : List Fl) (p : Fl) : List Fl := wr (wr S p.1 txtOld) p.1 p.2
/-- One file from the end. -/
def stepU (p : Fl) (U : List Fl) : List Fl := if hit U p.1 then U else twice U p

theorem twice_rising {S : List Fl} (h : Rising S) (p : Fl) : Rising (twice S p) := wr_rising (wr_rising h _ _) _ _
theorem stepU_rising {U : List Fl} (h : Rising U) (p : Fl) : Rising (stepU p U) := by
  unfold stepU; split
  · exact h
  · exact twice_rising h p

theorem old_short : txtOld.size ≤ 65536 := by decide

theorem wr_fits {S : List Fl} (h : fits S) (k v : ByteArray) : fits (wr S k v) := by
  refine ⟨wr_rising h.1 k v, fun p hp => ?_⟩
  unfold wr at hp
  split at hp
  · unfold ins at hp
    rcases List.mem_append.1 hp with h1 | h1
    · exact h.2 p (List.mem_of_mem_take h1)
    · rcases List.mem_cons.1 h1 with rfl | h1
      · assumption
      · exact h.2 p (List.mem_of_mem_drop h1)
  · exact h.2 p hp

theorem wr_length_ge {S : List Fl} (h : Rising S) (k v : ByteArray) : (wr S k v).length ≤ (if hit S k then S.length else S.length + 1) := by
  unfold wr; split
  · rw [length_ins h]
    exact Nat.le_refl _
  · split <;> omega

theorem hit_wr {S : List Fl} (h : Rising S) (k v : ByteArray) (hv : v.size ≤ 65536) : hit (wr S k v) k = true := by
  unfold wr; rw [if_pos hv]
  exact hit_some (v := v) (by rw [look_ins h, if_pos rfl])

theorem twice_length {S : List Fl} (h : Rising S) (p : Fl) : (twice S p).length ≤ S.length + 1 := by
  unfold twice
  have h1 := wr_length_ge (wr_rising h p.1 txtOld) p.1 p.2
  rw [hit_wr h p.1 txtOld old_short] at h1
  simp only [if_true] at h1
  exact Nat.le_trans h1 (wr_length h p.1 txtOld)

theorem look_twice {S : List Fl} (h : Rising S) {p : Fl} (hp : p.2.size ≤ 65536) (k : ByteArray) : look (twice S p) k = if k = p.1 then some p.2 else look S k := by
  unfold twice wr
  rw [if_pos hp, if_pos old_short, look_ins (ins_rising h _ _), look_ins h]
  split <;> rfl

theorem look_snoc (S : List Fl) (p : Fl) (k : ByteArray) : look (S ++ [p]) k = (look S k).or (if k = p.1 then some p.2 else none) := by
  unfold look
  rw [List.find?_append]
  cases S.find? (fun q => decide (q.1 = k)) with
  | some q => simp
  | none =>
    simp only [Option.none_or, Option.map_none]
    by_cases e : k = p.1
    · simp [e]
    · have e' : ¬ p.1 = k := fun h => e h.symm
      simp [e, e']

theorem foldl_rising {F S : List Fl} (h : Rising S) : Rising (F.foldl twice S) := by
  induction F generalizing S with
  | nil => exact h
  | cons p r ih => exact ih (twice_rising h p)

theorem foldr_rising (F : List Fl) : Rising (F.foldr stepU []) := by
  induction F with
  | nil => exact List.Pairwise.nil
  | cons p r ih => exact stepU_rising ih p

theorem look_foldl {F S : List Fl} (hF : ∀ p ∈ F, p.2.size ≤ 65536) (h : Rising S) (k : ByteArray) : look (F.foldl twice S) k = (look F.reverse k).or (look S k) := by
  induction F generalizing S with
  | nil => simp [look]
  | cons p r ih =>
    rw [List.foldl_cons, ih (fun q hq => hF q (List.mem_cons_of_mem _ hq)) (twice_rising h p), List.reverse_cons, look_snoc, look_twice h (hF p List.mem_cons_self), Option.or_assoc]
    congr 1
    split <;> simp

theorem look_foldr {F : List Fl} (hF : ∀ p ∈ F, p.2.size ≤ 65536) (k : ByteArray) : look (F.foldr stepU []) k = look F.reverse k := by
  induction F with
  | nil => rfl
  | cons p r ih =>
    have ih := ih (fun q hq => hF q (List.mem_cons_of_mem _ hq))
    have hr := foldr_rising r
    rw [List.foldr_cons, List.reverse_cons, look_snoc, ← ih]
    generalize r.foldr stepU [] = U at *
    unfold stepU
    by_cases hh : hit U p.1 = true
    · rw [if_pos hh]
      by_cases e : k = p.1
      · subst e
        unfold hit at hh
        obtain ⟨v, hv⟩ := Option.isSome_iff_exists.1 hh
        rw [hv]; rfl
      · rw [if_neg e]; simp
    · rw [if_neg hh, look_twice hr (hF p List.mem_cons_self)]
      by_cases e : k = p.1
      · subst e
        have : look U p.1 = none := by
          unfold hit at hh
          simpa using hh
        rw [if_pos rfl, if_pos rfl, this]; rfl
      · rw [if_neg e, if_neg e]; simp

theorem order_plain {F : List Fl} (hF : ∀ p ∈ F, p.2.size ≤ 65536) : F.foldl twice [] = F.foldr stepU [] :=
  rising_ext (foldl_rising List.Pairwise.nil) (foldr_rising F) fun k => by
    rw [look_foldl hF List.Pairwise.nil, look_foldr hF]
    cases look F.reverse k <;> rfl

theorem fits_okF {S : List Fl} (h : fits S) : okF S = true := by
  refine okF_of fun i hi => ?_
  have hb := h.2 _ (List.getElem_mem hi)
  by_cases h0 : i = 0
  · exact (okAt_zero hi h0 hb).out
  · have h1 : i - 1 < S.length := by omega
    exact (okAt_yes hi h1 (List.pairwise_iff_getElem.1 h.1 (i - 1) i h1 hi (by omega)) hb).out

theorem foldl_take {F : List Fl} {n : Nat} (h : n < F.length) : (F.take (n + 1)).foldl twice [] = twice ((F.take n).foldl twice []) F[n] := by
  rw [List.take_succ_eq_append_getElem h, List.foldl_append]; rfl

theorem foldr_drop {F : List Fl} {n : Nat} (h : n < F.length) : (F.drop n).foldr stepU [] = stepU F[n] ((F.drop (n + 1)).foldr stepU []) := by
  rw [List.drop_eq_getElem_cons h]; rfl

theorem foldl_fits {F S : List Fl} (h : fits S) : fits (F.foldl twice S) := by
  induction F generalizing S with
  | nil => exact h
  | cons p r ih => exact ih (wr_fits (wr_fits h _ _) _ _)

end Go.Proofs.Ytpmlmpibpmoclaa
